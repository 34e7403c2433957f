/- AllBefore: program, reference, law. Printed by mkab.py. -/
import Derived.Test.YtgghjieeckkpbaaDoorRd
import Derived.Test.YtgghjieeckkpbaaDoorBf
import Derived.Deep.CutRange
namespace Go.Proofs.YtgghjieeckkpbaaDoor
open Go.RowKit

open Classical in
/-- Must k be done before i? -/
noncomputable def rchB (bfs : List (List Int)) (i k : Nat) : Bool := decide (Rch (Eb bfs) i k)
open Classical in
theorem rchB_iff (bfs : List (List Int)) (i k : Nat) : rchB bfs i k = true ↔ Rch (Eb bfs) i k := by unfold rchB; simp
theorem AllM.bit {bfs : List (List Int)} {n : Nat} {M : List Nat} (h : AllM bfs n M) (hb : BfsOk bfs n) (i k : Nat) : (mAt M i).testBit k = rchB bfs i k := by
  rw [Bool.eq_iff_iff, h.iff hb, rchB_iff]
theorem seen_rch {bfs : List (List Int)} {s : List Bool} {i : Nat} (h : ∀ x, seenAt s x = true ↔ Rch (Eb bfs) i x) (x : Nat) : seenAt s x = rchB bfs i x := by
  rw [Bool.eq_iff_iff, h, rchB_iff]
noncomputable def abZ (ops : List OpV) (z : Int) : List Int × Int := if okO ops = true then (if inB z 0 ((ops.length : Int) - 1) = true then (fil (rchB (bfsO ops) z.toNat) ops.length, 0) else ([], 2)) else ([], 1)
theorem abZ_bad {ops : List OpV} {z : Int} (h : okO ops = false) : abZ ops z = ([], 1) := by unfold abZ; rw [if_neg (by rw [h]; simp)]
theorem abZ_out {ops : List OpV} {z : Int} {n : Nat} (h : okO ops = true) (hl : ops.length = n) (hz : inB z 0 ((n : Int) - 1) = false) : abZ ops z = ([], 2) := by unfold abZ; rw [if_pos h, hl, if_neg (by rw [hz]; simp)]
theorem abZ_yes {ops : List OpV} {n k : Nat} (h : okO ops = true) (hl : ops.length = n) (hz : inB (k : Int) 0 ((n : Int) - 1) = true) : abZ ops (k : Int) = (fil (rchB (bfsO ops) k) n, 0) := by unfold abZ; rw [if_pos h, hl, if_pos hz, Int.toNat_natCast]
theorem abZ_len (ops : List OpV) (z : Int) : (abZ ops z).1.length ≤ 1048576 := by
  unfold abZ
  split
  · rename_i hq
    have := (okO_true hq).len
    split
    · have h2 := fil_len (rchB (bfsO ops) z.toNat) ops.length
      show (fil (rchB (bfsO ops) z.toNat) ops.length).length ≤ _
      omega
    · simp
  · simp

set_option maxRecDepth 100000 in
set_option maxHeartbeats 4000000 in
theorem l13List_any (base gs e0 n : Nat) (s : List Bool) (P : Nat → Bool) (w : World) (hn : n ≤ 14) (hown : w.ownsRow base 4 1 (.slice (some ⟨gs, 0, none⟩) n e0) n (bs s)) (hl : s.length = n) (hP : ∀ x, seenAt s x = P x) :
    Calls Tryd.prog 53 #[.slice (some ⟨gs, 0, none⟩) n e0] w fun e w' => ∃ go co, e = .returned (.slice (some ⟨go, 0, none⟩) (fil P n).length co) ∧ w'.ownsRow w.heap.size 2 1 (.slice (some ⟨go, 0, none⟩) (fil P n).length co) (fil P n).length (ints (fil P n)) ∧ Below w.heap.size w w' := by
  obtain ⟨i0, hi, hz0, hz1, hz2⟩ := info_parts info_i64r
  have q1 := (Rd.of_own hown).cap
  have q2 := (Rd.of_own hown).max
  have ho0 : (w.alloc (.cells #[] 2)).ownsRow w.heap.size 2 1 (.slice (some ⟨w.heap.size, 0, none⟩) 0 0) 0 (ints []) := World.ownsRow_made w #[] 0 (Nat.le_refl _) (by unfold maxLen; omega) rfl
  have hb0 : Below w.heap.size w (w.alloc (.cells #[] 2)) := (Below.refl _ _).alloc (Nat.le_refl _) _
  have hc : ∀ k, k < n → w.cell? ⟨gs, k, none⟩ = some (.bool (P k)) := fun k hk => by rw [← hP]; exact own_bool hown hk hl
  have HCL := Lib.hid hc
  have HO0 := Lib.hid ho0
  have HB0 := Lib.hid hb0
  have HFY := Lib.hid (fun k h => fil_yes (p := P) (k := k) h)
  have HFN := Lib.hid (fun k h => fil_no (p := P) (k := k) h)
  have HFL := Lib.hid (fil_len P)
  clear hown hl hP hc ho0 hb0
  go_enter Tryd.func53, Tryd.ntmps53
  go_wp2
  go_loopw [3, 4] (fun vo vk wr => ∃ (k go co : Nat) (L : List Int), k ≤ n ∧ vk = .int .i64 k ∧ vo = .slice (some ⟨go, 0, none⟩) L.length co ∧ Hid (fil P k = L) ∧ wr.ownsRow w.heap.size 2 1 (.slice (some ⟨go, 0, none⟩) L.length co) L.length (ints L) ∧ Below w.heap.size w wr) (fun _ vk _ => n - (intOf vk).toNat)
  case atStart => exact ⟨0, _, _, [], Nat.zero_le _, rfl, rfl, Lib.hid rfl, HO0.out, HB0.out⟩
  case round =>
    obtain ⟨k, go, co, L, hk, rfl, rfl, HE, hown, hb⟩ := hrel
    have HB := Lib.hid hb
    have HO := Lib.hid hown
    have hgo := (own_block hown go rfl)
    have hcap := (Rd.of_own hown).cap
    have hmax := (Rd.of_own hown).max
    have hs := hb.size
    have hfk := HFL.out k
    rw [HE.out] at hfk
    by_cases hlt : k < n
    · have hk0 : (0 : Int) ≤ (k : Int) := by omega
      have hk1 : (k : Int) < (n : Int) := by omega
      have hyes := HFY.out k
      have hno := HFN.out k
      rw [HE.out] at hyes hno
      generalize hL2q : fil P (k + 1) = L2 at *
      have HE2 := Lib.hid hL2q
      clear hL2q hb hown
      have ck := cell_bel (HCL.out k hlt) HB.out
      generalize P k = q at *
      have HYS := Lib.hid hyes
      have HNO := Lib.hid hno
      clear hyes hno

      cases q with
      | false =>
        have hL := HNO.out (by trivial)
        subst hL

        go_wp2
        go_roundw
        case rel => exact ⟨k + 1, go, co, _, by omega, by go_num, rfl, HE2, HO.out, HB.out⟩
        case measure => simp [intOf]; omega
      | true =>
        have hL := HYS.out (by trivial)
        have hL1 : L2.length = L.length + 1 := by rw [hL]; simp
        have hL2 : ints L ++ [.int .i64 (k : Int)] = ints L2 := by rw [hL, ints_snoc]
        have HL1 := Lib.hid hL1
        have HL2 := Lib.hid hL2
        clear hL

        go_wp2_with (at_builtin; refine wpList_append_own _ rfl (.tmp 16) (.tmp 18) 32 rfl w.heap.size 2 i0 (.int .i64 0) 1 8 Tryd.underlying32 hi hz0 hz1 hz2 rfl (by decide) (Value.slice (some ⟨go, 0, none⟩) L.length co) _ _ rfl (HO.out.alloc _) ⟨_, 0, none⟩ 1 1 [.int .i64 k] rfl rfl (cell_one_new _ _ _) (by intro u hu; simp at hu; subst hu; rfl) (by unfold maxLen; omega) (by omega) (by simp; omega) ?_; intro v' wa hown' hga hdel; clear hdel)
        have hal : Below wr.heap.size wr (wr.alloc (.cells #[.int .i64 k] 2)) := (Below.refl _ _).alloc (Nat.le_refl _) _
        obtain ⟨g3, d3, hv, hg3, _⟩ := own_form hown' (by omega)
        have b3 : Below w.heap.size w wa := (HB.out.trans (hal.mono hs)).grown hga (by simp; omega) (fun j hj => by simp [Value.ownBlock] at hj; omega)
        rw [HL2.out] at hown'
        subst hv
        have HO4 := Lib.hid hown'
        have HB4 := Lib.hid b3
        clear hown' hga hal b3
        go_wp2
        go_roundw
        case rel => exact ⟨k + 1, g3, d3, L2, by omega, by go_num, by rw [HL1.out], HE2, (by rw [HL1.out]; exact HO4.out), HB4.out⟩
        case measure => simp [intOf]; omega
    · have hkn : k = n := by omega
      subst hkn
      have hE := HE.out
      subst hE
      go_wp2
      go_ret
      exact ⟨_, _, rfl, HO.out, HB.out⟩

set_option maxHeartbeats 2000000 in
theorem specAllBefore_any (A : Option Addr) (n c : Nat) (ops : List OpV) (z : Int) (w : World) (h : RdO w A n c ops) :
    Calls Tryd.prog 21 #[.slice A n c, .int .i64 z] w (IntPost w (abZ ops z).1 (abZ ops z).2) := by
  have hl := h.len
  have h1 := h.cap
  have h2 := h.max
  have hcall := l13Ok_any A n c ops w h
  have H := Lib.hid h
  by_cases hq : okO ops = true
  · have hok := okO_true hq
    have hn14 := hok.len
    rw [hl] at hn14
    rw [hq] at hcall
    have HC := Lib.hid hcall
    cases hz : inB z 0 ((n : Int) - 1) with
    | false =>
      rw [abZ_out hq hl hz]
      have hin := fun W => l00In_any z 0 ((n : Int) - 1) W
      rw [hz] at hin
      have HI := Lib.hid hin
      clear hcall h hq hok hl hz hin
      go_enter Tryd.func21, Tryd.ntmps21
      go_wp2_with fail
      refine (HC.out).mono ?_
      rintro e w1 ⟨rfl, hb1⟩
      go_wp2_with (go_at_call 32; refine (HI.out _).mono ?_; rintro e w' ⟨rfl, rfl⟩)
      go_ret2
      exact intPost_nil hb1
    | true =>
      have hzb := inB_true hz
      obtain ⟨k, rfl⟩ := Int.eq_ofNat_of_zero_le hzb.1
      have hkn : k < n := by omega
      rw [abZ_yes hq hl hz]
      have hin := fun W => l00In_any (k : Int) 0 ((n : Int) - 1) W
      rw [hz] at hin
      have HI := Lib.hid hin
      have HBE := Lib.hid (fun W h => l13Before_any A n c ops k W h hok hkn)
      generalize hP : rchB (bfsO ops) k = P at *
      have HP : Hid (∀ s : List Bool, (∀ x, seenAt s x = true ↔ Rch (Eb (bfsO ops)) k x) → ∀ x, seenAt s x = P x) := Lib.hid (fun s hs x => by rw [← hP]; exact seen_rch hs x)
      clear hcall h hq hok hl hz hin hP
      go_enter Tryd.func21, Tryd.ntmps21
      go_wp2_with fail
      refine (HC.out).mono ?_
      rintro e w1 ⟨rfl, hb1⟩
      have Hb1 := Lib.hid hb1
      clear hb1
      go_wp2_with (go_at_call 32; refine (HI.out _).mono ?_; rintro e w' ⟨rfl, rfl⟩)
      go_wp2_with fail
      refine (HBE.out _ (H.out.below Hb1.out)).mono ?_
      rintro e w2 ⟨g, s, rfl, ho, hsl, hs, hb2⟩
      have Hb2 := Lib.hid (Hb1.out.trans (hb2.mono Hb1.out.size))
      have HLI := Lib.hid (l13List_any _ _ _ _ s P w2 hn14 ho hsl (HP.out s hs))
      clear ho hsl hs hb2
      go_wp2_with fail
      refine (HLI.out).mono ?_
      rintro e w3 ⟨go, co, rfl, ho, hb3⟩
      have HO := Lib.hid (own_base ho Hb2.out.size)
      have Hb3 := Lib.hid (Hb2.out.trans (hb3.mono Hb2.out.size))
      clear ho hb3
      go_wp2
      go_ret2
      exact ⟨_, _, _, rfl, HO.out, Hb3.out⟩
  · have hq' : okO ops = false := by simpa using hq
    rw [abZ_bad hq']
    rw [hq'] at hcall
    have HC := Lib.hid hcall
    clear hcall h hq hq' hl
    go_enter Tryd.func21, Tryd.ntmps21
    go_wp2_with fail
    refine (HC.out).mono ?_
    rintro e w1 ⟨rfl, hb1⟩
    go_wp2
    go_ret2
    exact intPost_nil hb1

set_option maxRecDepth 100000 in
set_option maxHeartbeats 4000000 in
theorem implAllBefore_any (A : Option Addr) (n c : Nat) (ops : List OpV) (z : Int) (w : World) (h : RdO w A n c ops) :
    Calls Tryd.prog 20 #[.slice A n c, .int .i64 z] w (IntPost w (abZ ops z).1 (abZ ops z).2) := by
  obtain ⟨i0, hi, hz0, hz1, hz2⟩ := info_parts info_i64r
  have hl := h.len
  have h1 := h.cap
  have h2 := h.max
  have hcall := implValidOps_any A n c ops w h
  have H := Lib.hid h
  by_cases hq : okO ops = true
  · have hok := okO_true hq
    have hn14 := hok.len
    rw [hl] at hn14
    rw [hq] at hcall
    have HC := Lib.hid hcall
    cases hz : inB z 0 ((n : Int) - 1) with
    | false =>
      rw [abZ_out hq hl hz]
      have hin := fun W => within_any z 0 ((n : Int) - 1) W
      rw [hz] at hin
      have HI := Lib.hid hin
      clear hcall h hq hok hl hz hin
      go_enter Tryd.func20, Tryd.ntmps20
      go_wp2_with fail
      refine (HC.out).mono ?_
      rintro e w1 ⟨rfl, hb1⟩
      go_wp2_with (go_at_call 35; refine (HI.out _).mono ?_; rintro e w' ⟨rfl, rfl⟩)
      go_ret2
      exact intPost_nil hb1
    | true =>
      have hzb := inB_true hz
      obtain ⟨i, rfl⟩ := Int.eq_ofNat_of_zero_le hzb.1
      have hin' : i < n := by omega
      rw [abZ_yes hq hl hz]
      have hin := fun W => within_any (i : Int) 0 ((n : Int) - 1) W
      rw [hz] at hin
      have HI := Lib.hid hin
      have hbf := bfs_ok hok hl
      have HAB := Lib.hid (fun W h => allBefore_any A n c ops W h hok)
      generalize hP : rchB (bfsO ops) i = P at *
      have HP : Hid (∀ M, AllM (bfsO ops) n M → ∀ x, (mAt M i).testBit x = P x) := Lib.hid (fun M hM x => by rw [← hP]; exact hM.bit hbf i x)
      have HBF := Lib.hid hbf
      have HFY := Lib.hid (fun k h => fil_yes (p := P) (k := k) h)
      have HFN := Lib.hid (fun k h => fil_no (p := P) (k := k) h)
      have HFL := Lib.hid (fil_len P)
      have hi0 : (0 : Int) ≤ (i : Int) := by omega
      have hi1 : (i : Int) < (n : Int) := by omega
      clear hcall h hq hok hl hz hin hP hbf
      go_enter Tryd.func20, Tryd.ntmps20
      go_wp2_with fail
      refine (HC.out).mono ?_
      rintro e w1 ⟨rfl, hb1⟩
      have Hb1 := Lib.hid hb1
      clear hb1
      go_wp2_with (go_at_call 35; refine (HI.out _).mono ?_; rintro e w' ⟨rfl, rfl⟩)
      go_cut [6, 7] from 20 to 25 (fun v6 v7 wx => ∃ go x, v6 = .slice (some ⟨go, 0, none⟩) 0 0 ∧ v7 = .int .i64 (x : Nat) ∧ Hid (x < 16384 ∧ ∀ y, x.testBit y = P y) ∧ wx.ownsRow w.heap.size 2 1 (.slice (some ⟨go, 0, none⟩) 0 0) 0 (ints []) ∧ Below w.heap.size w wx)
      case first =>
        have hb1 := Hb1.out
        have hs1 := hb1.size
        go_region_with (go_at_call 51; refine (HAB.out _ (H.out.below (by first | exact hb1.drew | exact (hb1.alloc hs1 _).drew | exact hb1.drew.alloc hs1 _))).mono ?_; rintro e w5 ⟨g, M, rfl, hown, hM, hb5⟩; have hci := own_int hown hin' (by rw [nz_len]; exact hM.1); rw [nz_at] at hci; have hgl := (own_block hown g rfl).2; have hci2 := fun o => cell_bel hci ((Below.refl w5.heap.size w5).alloc (Nat.le_refl _) o))
        all_goals
          go_wp2_with fail
          go_meet
          have hxx : Hid (mAt M i < 16384 ∧ ∀ y, (mAt M i).testBit y = P y) := Lib.hid ⟨mask_sm HBF.out hM.2.1 i, HP.out M hM⟩
          first
            | exact ⟨w1.heap.size, mAt M i, rfl, rfl, hxx, own_below (own_drew (World.ownsRow_made w1 #[] 0 hs1 (by unfold maxLen; omega) rfl)) hb5, ((hb1.alloc hs1 _).drew).trans (hb5.mono (by simp; omega))⟩
            | exact ⟨w5.heap.size, mAt M i, rfl, rfl, hxx, World.ownsRow_made w5 #[] 0 (Nat.le_trans hs1 hb5.size) (by unfold maxLen; omega) rfl, (hb1.drew.trans (hb5.mono hs1)).alloc (Nat.le_trans hs1 hb5.size) _⟩
      case rest =>
        obtain ⟨go, x, rfl, rfl, HX, ho0, hb0⟩ := hcut
        have HO0 := Lib.hid ho0
        have HB0 := Lib.hid hb0
        clear ho0 hb0
        go_wp2
        go_loopw [6, 28] (fun vo vk wr => ∃ (k go co : Nat) (L : List Int), k ≤ n ∧ vk = .int .i64 k ∧ vo = .slice (some ⟨go, 0, none⟩) L.length co ∧ Hid (fil P k = L) ∧ wr.ownsRow w.heap.size 2 1 (.slice (some ⟨go, 0, none⟩) L.length co) L.length (ints L) ∧ Below w.heap.size w wr) (fun _ vk _ => n - (intOf vk).toNat)
        case atStart => exact ⟨0, _, _, [], Nat.zero_le _, rfl, rfl, Lib.hid rfl, HO0.out, HB0.out⟩
        case round =>
          obtain ⟨k, go, co, L, hk, rfl, rfl, HE, hown, hb⟩ := hrel
          have HB := Lib.hid hb
          have HO := Lib.hid hown
          have hgo := (own_block hown go rfl)
          have hcap := (Rd.of_own hown).cap
          have hmax := (Rd.of_own hown).max
          have hs := hb.size
          have hfk := HFL.out k
          rw [HE.out] at hfk
          by_cases hlt : k < n
          · have hk0 : (0 : Int) ≤ (k : Int) := by omega
            have hk1 : (k : Int) < (n : Int) := by omega
            have hyes := HFY.out k
            have hno := HFN.out k
            rw [HE.out] at hyes hno
            generalize hL2q : fil P (k + 1) = L2 at *
            have HE2 := Lib.hid hL2q
            clear hL2q hb hown
            have hhas := has_any x k wr (by have := HX.out.1; omega) (by omega)
            rw [HX.out.2 k] at hhas
            generalize P k = q at *
            have HYS := Lib.hid hyes
            have HNO := Lib.hid hno
            clear hyes hno
            have HH := Lib.hid hhas
            clear hhas
            cases q with
            | false =>
              have hL := HNO.out (by trivial)
              subst hL
              go_wp2_with fail
              refine (HH.out).mono ?_
              rintro e wz ⟨rfl, rfl⟩
              go_wp2
              go_roundw
              case rel => exact ⟨k + 1, go, co, _, by omega, by go_num, rfl, HE2, HO.out, HB.out⟩
              case measure => simp [intOf]; omega
            | true =>
              have hL := HYS.out (by trivial)
              have hL1 : L2.length = L.length + 1 := by rw [hL]; simp
              have hL2 : ints L ++ [.int .i64 (k : Int)] = ints L2 := by rw [hL, ints_snoc]
              have HL1 := Lib.hid hL1
              have HL2 := Lib.hid hL2
              clear hL
              go_wp2_with fail
              refine (HH.out).mono ?_
              rintro e wz ⟨rfl, rfl⟩
              go_wp2_with (at_builtin; refine wpList_append_own _ rfl (.tmp 34) (.tmp 36) 32 rfl w.heap.size 2 i0 (.int .i64 0) 1 8 Tryd.underlying32 hi hz0 hz1 hz2 rfl (by decide) (Value.slice (some ⟨go, 0, none⟩) L.length co) _ _ rfl (HO.out.alloc _) ⟨_, 0, none⟩ 1 1 [.int .i64 k] rfl rfl (cell_one_new _ _ _) (by intro u hu; simp at hu; subst hu; rfl) (by unfold maxLen; omega) (by omega) (by simp; omega) ?_; intro v' wa hown' hga hdel; clear hdel)
              have hal : Below wr.heap.size wr (wr.alloc (.cells #[.int .i64 k] 2)) := (Below.refl _ _).alloc (Nat.le_refl _) _
              obtain ⟨g3, d3, hv, hg3, _⟩ := own_form hown' (by omega)
              have b3 : Below w.heap.size w wa := (HB.out.trans (hal.mono hs)).grown hga (by simp; omega) (fun j hj => by simp [Value.ownBlock] at hj; omega)
              rw [HL2.out] at hown'
              subst hv
              have HO4 := Lib.hid hown'
              have HB4 := Lib.hid b3
              clear hown' hga hal b3
              go_wp2
              go_roundw
              case rel => exact ⟨k + 1, g3, d3, L2, by omega, by go_num, by rw [HL1.out], HE2, (by rw [HL1.out]; exact HO4.out), HB4.out⟩
              case measure => simp [intOf]; omega
          · have hkn : k = n := by omega
            subst hkn
            have hE := HE.out
            subst hE
            go_wp2
            go_ret2
            exact ⟨_, _, _, rfl, HO.out, HB.out⟩
  · have hq' : okO ops = false := by simpa using hq
    rw [abZ_bad hq']
    rw [hq'] at hcall
    have HC := Lib.hid hcall
    clear hcall h hq hq' hl
    go_enter Tryd.func20, Tryd.ntmps20
    go_wp2_with fail
    refine (HC.out).mono ?_
    rintro e w1 ⟨rfl, hb1⟩
    go_wp2
    go_ret2
    exact intPost_nil hb1

end Go.Proofs.YtgghjieeckkpbaaDoor
