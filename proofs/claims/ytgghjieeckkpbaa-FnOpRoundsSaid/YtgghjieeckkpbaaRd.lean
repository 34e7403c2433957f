/- ReadyOps: program, reference, law. Printed by mkrd.py. -/
import Derived.Test.YtgghjieeckkpbaaCan
import Derived.Test.YtgghjieeckkpbaaOwn
namespace Go.Proofs.Ytgghjieeckkpbaa
open Go.RowKit

/-- The first k numbers of which p holds. -/
def fil (p : Nat → Bool) : Nat → List Int
  | 0 => []
  | k + 1 => if p k = true then fil p k ++ [(k : Int)] else fil p k
theorem fil_yes {p : Nat → Bool} {k : Nat} (h : p k = true) : fil p (k + 1) = fil p k ++ [(k : Int)] := by
  show (if p k = true then _ else _) = _
  rw [if_pos h]
theorem fil_no {p : Nat → Bool} {k : Nat} (h : p k = false) : fil p (k + 1) = fil p k := by
  show (if p k = true then _ else _) = _
  rw [if_neg (by rw [h]; simp)]
theorem fil_len (p : Nat → Bool) : ∀ k, (fil p k).length ≤ k
  | 0 => Nat.le_refl _
  | k + 1 => by
    have := fil_len p k
    cases h : p k with
    | true => rw [fil_yes h]; simp; omega
    | false => rw [fil_no h]; omega
theorem fil_congr {p q : Nat → Bool} (h : ∀ k, p k = q k) : ∀ k, fil p k = fil q k
  | 0 => rfl
  | k + 1 => by
    show (if p k = true then fil p k ++ [(k : Int)] else fil p k) = (if q k = true then fil q k ++ [(k : Int)] else fil q k)
    rw [h k, fil_congr h k]
/-- The marks behind the first j numbers. -/
def mkD (n : Nat) (os : List Int) : Nat → List Bool
  | 0 => List.replicate n false
  | j + 1 => (mkD n os j).set (os.getD j 0).toNat true
theorem mkD_len (n : Nat) (os : List Int) : ∀ j, (mkD n os j).length = n
  | 0 => by simp [mkD]
  | j + 1 => by simp [mkD, mkD_len n os j]
theorem mkD_step {n : Nat} {os : List Int} {j k : Nat} (h : os[j]? = some (k : Int)) : mkD n os (j + 1) = (mkD n os j).set k true := by
  show (mkD n os j).set (os.getD j 0).toNat true = _
  have : os.getD j 0 = (k : Int) := by simp [List.getD, h]
  rw [this, Int.toNat_natCast]
def rdL (ops : List OpV) (os : List Int) : List Int := fil (fun k => canB (bfsO ops) (mkD ops.length os os.length) k) ops.length
noncomputable def rdZ (ops : List OpV) (os : List Int) : List Int × Int := if okO ops = true then (if incB os 0 ((ops.length : Int) - 1) = true then (rdL ops os, 0) else ([], 2)) else ([], 1)
theorem rdZ_bad {ops : List OpV} {os : List Int} (h : okO ops = false) : rdZ ops os = ([], 1) := by unfold rdZ; rw [if_neg (by rw [h]; simp)]
theorem rdZ_out {ops : List OpV} {os : List Int} {n : Nat} (h : okO ops = true) (hl : ops.length = n) (hz : incB os 0 ((n : Int) - 1) = false) : rdZ ops os = ([], 2) := by unfold rdZ; rw [if_pos h, hl, if_neg (by rw [hz]; simp)]
theorem rdZ_yes {ops : List OpV} {os : List Int} {n m : Nat} (h : okO ops = true) (hl : ops.length = n) (hm : os.length = m) (hz : incB os 0 ((n : Int) - 1) = true) : rdZ ops os = (fil (fun k => canB (bfsO ops) (mkD n os m) k) n, 0) := by unfold rdZ rdL; rw [if_pos h, hl, hm, if_pos hz]
theorem rdZ_len (ops : List OpV) (os : List Int) : (rdZ ops os).1.length ≤ 1048576 := by
  unfold rdZ
  split
  · rename_i hq
    have := (okO_true hq).len
    split
    · have h2 := fil_len (fun k => canB (bfsO ops) (mkD ops.length os os.length) k) ops.length
      show (rdL ops os).length ≤ _
      unfold rdL
      omega
    · simp
  · simp
theorem inc_in {os : List Int} {n : Nat} (h : incB os 0 ((n : Int) - 1) = true) : ∀ (j : Nat) (x : Int), os[j]? = some x → 0 ≤ x ∧ x < n := by
  intro j x hx
  have := (incB_at h).1 j x hx
  omega

set_option maxRecDepth 100000 in
set_option maxHeartbeats 8000000 in
theorem implReadyOps_any (A : Option Addr) (n c : Nat) (ops : List OpV) (B : Option Addr) (m d : Nat) (os : List Int) (w : World) (h : RdO w A n c ops) (hB : Rd w 1 B m d (ints os)) :
    Calls Try.prog 26 #[.slice A n c, .slice B m d] w (IntPost w (rdZ ops os).1 (rdZ ops os).2) := by
  obtain ⟨i0, hi, hz0, hz1, hz2⟩ := info_parts info_i64r
  have hl := h.len
  have hlo := hB.ilen
  have h1 := h.cap
  have h2 := h.max
  have h3 := hB.cap
  have h4 := hB.max
  have hcall := implValidOps_any A n c ops w h
  have hinc := fun W h => isIncreasing_any B m d os 0 ((n : Int) - 1) W h
  have H := Lib.hid h
  have HB := Lib.hid hB
  by_cases hq : okO ops = true
  · have hok := okO_true hq
    have hP1 := rdZ_out (os := os) hq hl
    have hP2 := rdZ_yes (os := os) hq hl hlo
    generalize rdZ ops os = P at *
    rw [hq] at hcall
    have HC := Lib.hid hcall
    have HK := Lib.hid hok
    have hbf := bfs_ok hok hl
    have hn14 := hbf.hn
    cases hz : incB os 0 ((n : Int) - 1) with
    | false =>
      rw [hz] at hinc
      have hP := hP1 hz
      subst hP
      have HI := Lib.hid hinc
      clear hP1 hP2 hcall hinc h hB hq hok hbf hl hlo hz
      go_enter Try.func26, Try.ntmps26
      go_wp2_with fail
      refine (HC.out).mono ?_
      rintro e w1 ⟨rfl, hb1⟩
      have B1 := Lib.hid (HB.out.below hb1)
      have Hb1 := Lib.hid hb1
      clear hb1
      go_wp2_with fail
      refine (HI.out _ B1.out).mono ?_
      rintro e wz ⟨rfl, rfl⟩
      have Hb2 := Hb1
      go_wp2
      go_ret2
      exact intPost_nil Hb2.out
    | true =>
      rw [hz] at hinc
      have hP := hP2 hz
      subst hP
      have hin := inc_in hz
      have hbfin := fun k h => fil_yes (p := fun k => canB (bfsO ops) (mkD n os m) k) (k := k) h
      have hbfno := fun k h => fil_no (p := fun k => canB (bfsO ops) (mkD n os m) k) (k := k) h
      have hfl := fil_len (fun k => canB (bfsO ops) (mkD n os m) k)
      have HI := Lib.hid hinc
      have HN := Lib.hid hin
      have HFY := Lib.hid hbfin
      have HFN := Lib.hid hbfno
      have HFL := Lib.hid hfl
      clear hP1 hP2 hcall hinc h hB hq hok hbf hl hlo hz hin hbfin hbfno hfl
      go_enter Try.func26, Try.ntmps26
      go_wp2_with fail
      refine (HC.out).mono ?_
      rintro e w1 ⟨rfl, hb1⟩
      have B1 := Lib.hid (HB.out.below hb1)
      have Hb1 := Lib.hid hb1
      clear hb1
      go_wp2_with fail
      refine (HI.out _ B1.out).mono ?_
      rintro e wz ⟨rfl, rfl⟩
      have Hb2 := Hb1
      have hs1 := Hb2.out.size
      have ho0 : (w1.alloc (.cells #[] 2)).ownsRow w.heap.size 2 1 (.slice (some ⟨w1.heap.size, 0, none⟩) 0 0) 0 (ints []) := World.ownsRow_made w1 #[] 0 hs1 (by unfold maxLen; omega) rfl
      have ha0 : Below w1.heap.size w1 (w1.alloc (.cells #[] 2)) := (Below.refl _ _).alloc (Nat.le_refl _) _
      have HO0 := Lib.hid ho0
      have BW := Lib.hid (B1.out.below ha0)
      have Hb3 := Lib.hid (Hb2.out.trans (ha0.mono hs1))
      clear ho0 ha0 B1
      go_wp2
      go_loopw [7, 25] (fun vx vj wr => ∃ (j x : Nat), j ≤ m ∧ vj = .int .i64 j ∧ vx = .int .i64 x ∧ Hid (SetD n (mkD n os j) x) ∧ w1.alloc (.cells #[] 2) = wr) (fun _ vj _ => m - (intOf vj).toNat)
      case atStart => exact ⟨0, 0, Nat.zero_le _, rfl, rfl, Lib.hid (SetD.zero hn14), rfl⟩
      case round =>
        obtain ⟨j, x, hj, rfl, rfl, HD, hrel⟩ := hrel
        subst hrel
        by_cases hlt : j < m
        · have hj0 : (0 : Int) ≤ (j : Int) := by omega
          have hj1 : (j : Int) < (m : Int) := by omega
          obtain ⟨b, o, y, hA, hbl, hx, hc⟩ := BW.out.int hlt
          subst hA
          have hyr := HN.out j y hx
          obtain ⟨k, rfl⟩ := Int.eq_ofNat_of_zero_le hyr.1
          have hkn : k < n := by omega
          have hk0 : (0 : Int) ≤ (k : Int) := by omega
          have hk64 : (k : Int) ≤ 64 := by omega
          have HV := Lib.hid (orPow x k HD.out.lt (by omega))
          have hwr := wrapP k (by omega)
          have HD2 : Hid (SetD n (mkD n os (j + 1)) (x ||| 2 ^ k)) := Lib.hid (by rw [mkD_step hx]; exact HD.out.put hkn)
          clear hx
          go_wp2
          go_roundw
          case rel => exact ⟨j + 1, x ||| 2 ^ k, by omega, by go_num, by rw [HV.out], HD2, by trivial⟩
          case measure => simp [intOf]; omega
        · have hjm : m = j := by omega
          subst hjm
          go_wp2
          go_loopw [6, 37] (fun vo vk wr => ∃ (k go co : Nat) (L : List Int), k ≤ n ∧ vk = .int .i64 k ∧ vo = .slice (some ⟨go, 0, none⟩) L.length co ∧ Hid (fil (fun k => canB (bfsO ops) (mkD n os m) k) k = L) ∧ wr.ownsRow w.heap.size 2 1 (.slice (some ⟨go, 0, none⟩) L.length co) L.length (ints L) ∧ Below w.heap.size w wr) (fun _ vk _ => n - (intOf vk).toNat)
          case atStart => exact ⟨0, _, _, [], Nat.zero_le _, rfl, rfl, Lib.hid rfl, HO0.out, Hb3.out⟩
          case round =>
            obtain ⟨k, go, co, L, hk, rfl, rfl, HE, hown, hb⟩ := hrel
            have Hb := Lib.hid hb
            have HO := Lib.hid hown
            have hgo := (own_block hown go rfl)
            have hcap := (Rd.of_own hown).cap
            have hmax := (Rd.of_own hown).max
            have hfk := HFL.out k
            rw [HE.out] at hfk
            by_cases hlt : k < n
            · have hk0 : (0 : Int) ≤ (k : Int) := by omega
              have hk1 : (k : Int) < (n : Int) := by omega
              have hcan := canBeDone_any A n c ops k x _ wr (H.out.below hb) HK.out hlt HD.out
              have hyes := HFY.out k
              have hno := HFN.out k
              rw [HE.out] at hyes hno
              generalize hL2q : fil (fun k => canB (bfsO ops) (mkD n os m) k) (k + 1) = L2 at *
              have HE2 := Lib.hid hL2q
              clear hL2q
              generalize canB (bfsO ops) (mkD n os m) k = q at *
              have HCN := Lib.hid hcan
              have HYS := Lib.hid hyes
              have HNO := Lib.hid hno
              clear hcan hyes hno hb hown 
              cases q with
              | false =>
                have hL := HNO.out (by trivial)
                subst hL
                go_wp2_with fail
                refine (HCN.out).mono ?_
                rintro e w3 ⟨rfl, hb3⟩
                have HO3 := Lib.hid (own_below HO.out hb3)
                have Hb3 := Lib.hid (Hb.out.trans (hb3.mono Hb.out.size))
                clear hb3
                go_wp2
                go_roundw
                case rel => exact ⟨k + 1, go, co, _, by omega, by go_num, rfl, HE2, HO3.out, Hb3.out⟩
                case measure => simp [intOf]; omega
              | true =>
                have hL := HYS.out (by trivial)
                have hL1 : L2.length = L.length + 1 := by rw [hL]; simp
                have hL2 : ints L ++ [.int .i64 (k : Int)] = ints L2 := by rw [hL, ints_snoc]
                have HL1 := Lib.hid hL1
                have HL2 := Lib.hid hL2
                clear hL
                go_wp2_with fail
                refine (HCN.out).mono ?_
                rintro e w3 ⟨rfl, hb3⟩
                have HO3 := Lib.hid (own_below HO.out hb3)
                have Hb3 := Lib.hid (Hb.out.trans (hb3.mono Hb.out.size))
                clear hb3
                have hs3 := Hb3.out.size
                have hgo3 := (own_block HO3.out go rfl)
                go_wp2_with (at_builtin; refine wpList_append_own _ rfl (.tmp 44) (.tmp 46) 28 rfl w.heap.size 2 i0 (.int .i64 0) 1 8 Try.underlying28 hi hz0 hz1 hz2 rfl (by decide) (Value.slice (some ⟨go, 0, none⟩) L.length co) _ _ rfl (HO3.out.alloc _) ⟨_, 0, none⟩ 1 1 [.int .i64 k] rfl rfl (cell_one_new _ _ _) (by intro u hu; simp at hu; subst hu; rfl) (by unfold maxLen; omega) (by omega) (by simp; omega) ?_; intro v' wa hown' hga hdel; clear hdel)
                have hal : Below w3.heap.size w3 (w3.alloc (.cells #[.int .i64 k] 2)) := (Below.refl _ _).alloc (Nat.le_refl _) _
                obtain ⟨g3, d3, hv, hg3, _⟩ := own_form hown' (by omega)
                have b3 : Below w.heap.size w wa := (Hb3.out.trans (hal.mono hs3)).grown hga (by simp; omega) (fun j hj => by simp [Value.ownBlock] at hj; omega)
                rw [HL2.out] at hown'
                subst hv
                have HO4 := Lib.hid hown'
                have HB4 := Lib.hid b3
                clear hown' hga hal b3
                go_wp2
                go_roundw
                case rel => exact ⟨k + 1, g3, d3, L2, by omega, by go_num, by rw [HL1.out], HE2, (by rw [HL1.out]; exact HO4.out), HB4.out⟩
                case measure => simp [intOf]; omega
            · have hkn : n = k := by omega
              subst hkn
              go_wp2
              go_ret2
              exact ⟨_, _, _, rfl, by have := own_base (base' := w.heap.size) hown (Nat.le_refl _); rw [HE.out]; exact this, Hb.out⟩
  · have hq' : okO ops = false := by simpa using hq
    have hP := rdZ_bad (os := os) hq'
    generalize rdZ ops os = P at *
    subst hP
    rw [hq'] at hcall
    have HC := Lib.hid hcall
    clear hcall h hB hq hq' hl hlo hinc
    go_enter Try.func26, Try.ntmps26
    go_wp2_with fail
    refine (HC.out).mono ?_
    rintro e w1 ⟨rfl, hb1⟩
    go_wp2
    go_ret2
    exact intPost_nil hb1

set_option maxRecDepth 100000 in
set_option maxHeartbeats 8000000 in
theorem specReadyOps_any (A : Option Addr) (n c : Nat) (ops : List OpV) (B : Option Addr) (m d : Nat) (os : List Int) (w : World) (h : RdO w A n c ops) (hB : Rd w 1 B m d (ints os)) :
    Calls Try.prog 27 #[.slice A n c, .slice B m d] w (IntPost w (rdZ ops os).1 (rdZ ops os).2) := by
  obtain ⟨i0, hi, hz0, hz1, hz2⟩ := info_parts info_i64r
  have hl := h.len
  have hlo := hB.ilen
  have h1 := h.cap
  have h2 := h.max
  have h3 := hB.cap
  have h4 := hB.max
  have hcall := l13Ok_any A n c ops w h
  have hinc := fun W h => l00Rises_any B m d os 0 ((n : Int) - 1) W h
  have H := Lib.hid h
  have HB := Lib.hid hB
  by_cases hq : okO ops = true
  · have hok := okO_true hq
    have hP1 := rdZ_out (os := os) hq hl
    have hP2 := rdZ_yes (os := os) hq hl hlo
    generalize rdZ ops os = P at *
    rw [hq] at hcall
    have HC := Lib.hid hcall
    have HK := Lib.hid hok
    have hbf := bfs_ok hok hl
    have hn14 := hbf.hn
    cases hz : incB os 0 ((n : Int) - 1) with
    | false =>
      rw [hz] at hinc
      have hP := hP1 hz
      subst hP
      have HI := Lib.hid hinc
      clear hP1 hP2 hcall hinc h hB hq hok hbf hl hlo hz
      go_enter Try.func27, Try.ntmps27
      go_wp2_with fail
      refine (HC.out).mono ?_
      rintro e w1 ⟨rfl, hb1⟩
      have B1 := Lib.hid (HB.out.below hb1)
      have Hb1 := Lib.hid hb1
      clear hb1
      go_wp2_with fail
      refine (HI.out _ B1.out).mono ?_
      rintro e w2 ⟨rfl, hb2⟩
      have Hb2 := Lib.hid (Hb1.out.trans (hb2.mono Hb1.out.size))
      clear hb2
      go_wp2
      go_ret2
      exact intPost_nil Hb2.out
    | true =>
      rw [hz] at hinc
      have hP := hP2 hz
      subst hP
      have hin := inc_in hz
      have hbfin := fun k h => fil_yes (p := fun k => canB (bfsO ops) (mkD n os m) k) (k := k) h
      have hbfno := fun k h => fil_no (p := fun k => canB (bfsO ops) (mkD n os m) k) (k := k) h
      have hfl := fil_len (fun k => canB (bfsO ops) (mkD n os m) k)
      have HI := Lib.hid hinc
      have HN := Lib.hid hin
      have HFY := Lib.hid hbfin
      have HFN := Lib.hid hbfno
      have HFL := Lib.hid hfl
      clear hP1 hP2 hcall hinc h hB hq hok hbf hl hlo hz hin hbfin hbfno hfl
      go_enter Try.func27, Try.ntmps27
      go_wp2_with fail
      refine (HC.out).mono ?_
      rintro e w1 ⟨rfl, hb1⟩
      have B1 := Lib.hid (HB.out.below hb1)
      have Hb1 := Lib.hid hb1
      clear hb1
      go_wp2_with fail
      refine (HI.out _ B1.out).mono ?_
      rintro e w2 ⟨rfl, hb2⟩
      have Hb2 := Lib.hid (Hb1.out.trans (hb2.mono Hb1.out.size))
      clear hb2
      have hs1 := Hb2.out.size
      have hmk := mkb n (by omega) w2
      have hown0 := ownb n (by omega) w2 w2.heap.size (Nat.le_refl _)
      have ha0 : Below w2.heap.size w2 (w2.alloc (.cells (bn n) 4)) := (Below.refl _ _).alloc (Nat.le_refl _) _
      have HO0 := Lib.hid hown0
      have Hb3 := Lib.hid (Hb2.out.trans (ha0.mono hs1))
      clear hown0 ha0 B1
      go_wp2
      go_loopw [7] (fun vj wr => ∃ j : Nat, j ≤ m ∧ vj = .int .i64 j ∧ wr.ownsRow w2.heap.size 4 1 (.slice (some ⟨w2.heap.size, 0, none⟩) n n) n (bs (mkD n os j)) ∧ Below w.heap.size w wr) (fun vj _ => m - (intOf vj).toNat)
      case atStart => exact ⟨0, Nat.zero_le _, rfl, HO0.out, Hb3.out⟩
      case round =>
        obtain ⟨j, hj, rfl, hown, hb⟩ := hrel
        by_cases hlt : j < m
        · have hj0 : (0 : Int) ≤ (j : Int) := by omega
          have hj1 : (j : Int) < (m : Int) := by omega
          obtain ⟨b, o, y, hA, hbl, hx, hc'⟩ := HB.out.int hlt
          have hc := cell_bel hc' hb
          subst hA
          have hyr := HN.out j y hx
          obtain ⟨k, rfl⟩ := Int.eq_ofNat_of_zero_le hyr.1
          have hkn : k < n := by omega
          have hk0 : (0 : Int) ≤ (k : Int) := by omega
          have hk1 : (k : Int) < (n : Int) := by omega
          have hck := own_bool hown hkn (mkD_len n os j)
          have hf := hown.frozenAt
          have S := own_bset hown k true
          have hstep := mkD_step (n := n) hx
          rw [← hstep] at S
          have HS := Lib.hid S.1
          have HBS := Lib.hid (hb.setCell (p := ⟨w2.heap.size, k, none⟩) hs1 (.bool true))
          clear hx hc' hown hb S hstep
          go_wp2
          go_roundw
          case rel => exact ⟨j + 1, by omega, by go_num, HS.out, HBS.out⟩
          case measure => simp [intOf]; omega
        · have hjm : m = j := by omega
          subst hjm
          have ho0 : (wr.alloc (.cells #[] 2)).ownsRow (w2.heap.size + 1) 2 1 (.slice (some ⟨wr.heap.size, 0, none⟩) 0 0) 0 (ints []) := World.ownsRow_made wr #[] 0 (by have := (own_block hown w2.heap.size rfl).2; omega) (by unfold maxLen; omega) rfl
          have hav : Below wr.heap.size wr (wr.alloc (.cells #[] 2)) := (Below.refl _ _).alloc (Nat.le_refl _) _
          have HO1 := Lib.hid ho0
          have HM1 := Lib.hid (own_below hown hav)
          have Hb4 := Lib.hid (hb.trans (hav.mono hb.size))
          clear ho0 hav hown hb HO0 Hb3
          go_wp2
          go_loopw [8, 9] (fun vo vk wr => ∃ (k go co : Nat) (L : List Int), k ≤ n ∧ vk = .int .i64 k ∧ vo = .slice (some ⟨go, 0, none⟩) L.length co ∧ Hid (fil (fun k => canB (bfsO ops) (mkD n os m) k) k = L) ∧ wr.ownsRow (w2.heap.size + 1) 2 1 (.slice (some ⟨go, 0, none⟩) L.length co) L.length (ints L) ∧ wr.ownsRow w2.heap.size 4 1 (.slice (some ⟨w2.heap.size, 0, none⟩) n n) n (bs (mkD n os m)) ∧ Below w.heap.size w wr) (fun _ vk _ => n - (intOf vk).toNat)
          case atStart => exact ⟨0, _, _, [], Nat.zero_le _, rfl, rfl, Lib.hid rfl, HO1.out, HM1.out, Hb4.out⟩
          case round =>
            obtain ⟨k, go, co, L, hk, rfl, rfl, HE, hown, hmar, hb⟩ := hrel
            have HM := Lib.hid hmar
            have Hb := Lib.hid hb
            have HO := Lib.hid hown
            have hgo := (own_block hown go rfl)
            have hcap := (Rd.of_own hown).cap
            have hmax := (Rd.of_own hown).max
            have hfk := HFL.out k
            rw [HE.out] at hfk
            by_cases hlt : k < n
            · have hk0 : (0 : Int) ≤ (k : Int) := by omega
              have hk1 : (k : Int) < (n : Int) := by omega
              have hcan := l13Can_any A n c ops w2.heap.size w2.heap.size n k _ wr (H.out.below hb) HK.out hlt (mkD_len n os m) hmar
              have hyes := HFY.out k
              have hno := HFN.out k
              rw [HE.out] at hyes hno
              generalize hL2q : fil (fun k => canB (bfsO ops) (mkD n os m) k) (k + 1) = L2 at *
              have HE2 := Lib.hid hL2q
              clear hL2q
              generalize canB (bfsO ops) (mkD n os m) k = q at *
              have HCN := Lib.hid hcan
              have HYS := Lib.hid hyes
              have HNO := Lib.hid hno
              clear hcan hyes hno hb hown hmar
              cases q with
              | false =>
                have hL := HNO.out (by trivial)
                subst hL
                go_wp2_with fail
                refine (HCN.out).mono ?_
                rintro e wz ⟨rfl, rfl⟩
                have HO3 := HO
                have Hb3 := Hb
                go_wp2
                go_roundw
                case rel => exact ⟨k + 1, go, co, _, by omega, by go_num, rfl, HE2, HO3.out, HM.out, Hb3.out⟩
                case measure => simp [intOf]; omega
              | true =>
                have hL := HYS.out (by trivial)
                have hL1 : L2.length = L.length + 1 := by rw [hL]; simp
                have hL2 : ints L ++ [.int .i64 (k : Int)] = ints L2 := by rw [hL, ints_snoc]
                have HL1 := Lib.hid hL1
                have HL2 := Lib.hid hL2
                clear hL
                go_wp2_with fail
                refine (HCN.out).mono ?_
                rintro e wz ⟨rfl, rfl⟩
                have HO3 := HO
                have Hb3 := Hb
                have hs3 := Hb3.out.size
                have hgo3 := (own_block HO3.out go rfl)
                go_wp2_with (at_builtin; refine wpList_append_own _ rfl (.tmp 45) (.tmp 47) 28 rfl (w2.heap.size + 1) 2 i0 (.int .i64 0) 1 8 Try.underlying28 hi hz0 hz1 hz2 rfl (by decide) (Value.slice (some ⟨go, 0, none⟩) L.length co) _ _ rfl (HO3.out.alloc _) ⟨_, 0, none⟩ 1 1 [.int .i64 k] rfl rfl (cell_one_new _ _ _) (by intro u hu; simp at hu; subst hu; rfl) (by unfold maxLen; omega) (by omega) (by simp; omega) ?_; intro v' wa hown' hga hdel; clear hdel)
                have hal : Below wr.heap.size wr (wr.alloc (.cells #[.int .i64 k] 2)) := (Below.refl _ _).alloc (Nat.le_refl _) _
                obtain ⟨g3, d3, hv, hg3, _⟩ := own_form hown' (by omega)
                have b3 : Below w.heap.size w wa := (Hb3.out.trans (hal.mono hs3)).grown hga (by simp; omega) (fun j hj => by simp [Value.ownBlock] at hj; omega)
                have HM4 := Lib.hid (own_other (g' := go) (own_below HM.out hal) hga (by omega))
                rw [HL2.out] at hown'
                subst hv
                have HO4 := Lib.hid hown'
                have HB4 := Lib.hid b3
                clear hown' hga hal b3
                go_wp2
                go_roundw
                case rel => exact ⟨k + 1, g3, d3, L2, by omega, by go_num, by rw [HL1.out], HE2, (by rw [HL1.out]; exact HO4.out), HM4.out, HB4.out⟩
                case measure => simp [intOf]; omega
            · have hkn : n = k := by omega
              subst hkn
              go_wp2
              go_ret2
              exact ⟨_, _, _, rfl, by have := own_base (base' := w.heap.size) hown (by omega); rw [HE.out]; exact this, Hb.out⟩
  · have hq' : okO ops = false := by simpa using hq
    have hP := rdZ_bad (os := os) hq'
    generalize rdZ ops os = P at *
    subst hP
    rw [hq'] at hcall
    have HC := Lib.hid hcall
    clear hcall h hB hq hq' hl hlo hinc
    go_enter Try.func27, Try.ntmps27
    go_wp2_with fail
    refine (HC.out).mono ?_
    rintro e w1 ⟨rfl, hb1⟩
    go_wp2
    go_ret2
    exact intPost_nil hb1

set_option maxRecDepth 100000 in
set_option maxHeartbeats 8000000 in
theorem law_ReadyOps (A : Option Addr) (n c : Nat) (ops : List OpV) (B : Option Addr) (m d : Nat) (os : List Int) (w : World) (hA : RdO w A n c ops) (hB : Rd w 1 B m d (ints os)) :
    Calls Try.prog 8 #[.slice A n c, .slice B m d] w fun e w' => e = .returned (.bool true) ∧ Below w.heap.size w w' := by
  have eA1 := hA.cap
  have eA2 := hA.max
  have lA := hA.len
  have eB1 := hB.cap
  have eB2 := hB.max
  have lB := hB.ilen
  have hsp := fun A n c B m d W h1 h2 => specReadyOps_any A n c ops B m d os W h1 h2
  have him := fun A n c B m d W h1 h2 => implReadyOps_any A n c ops B m d os W h1 h2
  have hlen := rdZ_len ops os
  generalize (rdZ ops os).1 = R at *
  generalize (rdZ ops os).2 = z at *
  have HA := Lib.hid hA
  have HB := Lib.hid hB
  have HSP := Lib.hid hsp
  have HIM := Lib.hid him
  clear hA hB hsp him lA lB
  by_cases gB : (1048576 : Int) < (m : Int)
  · go_enter Try.func8, Try.ntmps8
    go_wp2
    go_ret
    exact ⟨rfl, Below.refl _ _⟩
  have bz : Below w.heap.size w w := Below.refl _ _
  go_enter Try.func8, Try.ntmps8
  go_wp2_with fail
  refine (szOpS_any _ _ _ ops _ _ (HA.out.below bz) (by omega) (by omega)).mono ?_
  rintro e w0 ⟨q0, rfl, hq, hbz⟩
  have b0 : Below w.heap.size w w0 := bz.trans (hbz.mono bz.size)
  clear hbz
  rcases hq with rfl | ⟨hq0, hq1, hsh⟩
  · go_wp2
    go_ret
    exact ⟨rfl, b0⟩
  have SHA := Lib.hid hsh
  have hqn : ¬ q0 < 0 := by omega
  clear hsh
  have s0 := b0.size
  go_wp2_with fail
  refine (toOpS_any A n c ops _ (HA.out.below b0) SHA.out).mono ?_
  rintro e w1 ⟨gt0, cst0, Gt0, rfl, hP, hM, hb1⟩
  have b1 : Below w.heap.size w w1 := b0.trans (hb1.mono b0.size)
  have s1 := hb1.size
  have Pt01 := Lib.hid hP
  have Mt01 := Lib.hid hM
  clear hb1 hP hM
  go_wp2_with fail
  refine (toInt64S_any B m d os _ (HB.out.below b1) (by omega)).mono ?_
  rintro e w2 ⟨gt1, rfl, ho, hb2⟩
  have b2 : Below w.heap.size w w2 := b1.trans (hb2.mono b1.size)
  have s2 := hb2.size
  have Pt02 := Lib.hid (Pt01.out.below hb2)
  have Mt02 := Lib.hid (Mt01.out.below hb2)
  have Ot12 := Lib.hid (OwnIn.new ho)
  clear hb2 Pt01 Mt01 ho
  go_wp2_with fail
  refine (HSP.out _ _ _ _ _ _ _ Pt02.out Ot12.out.rd).mono ?_
  rintro e w3 ⟨Aw, nw, cw, rfl, ho, hb3⟩
  have b3 : Below w.heap.size w w3 := b2.trans (hb3.mono b2.size)
  have s3 := hb3.size
  have Ot13 := Lib.hid (Ot12.out.below hb3)
  have Pt03 := Lib.hid (Pt02.out.below hb3)
  have Mt03 := Lib.hid (Mt02.out.below hb3)
  have Ow3 := Lib.hid (OwnIn.new ho)
  clear hb3 Ot12 Pt02 Mt02 ho
  go_wp2_with fail
  refine (toOpS_any A n c ops _ (HA.out.below b3) SHA.out).mono ?_
  rintro e w4 ⟨gx0, csx0, Gx0, rfl, hP, hM, hb4⟩
  have b4 : Below w.heap.size w w4 := b3.trans (hb4.mono b3.size)
  have s4 := hb4.size
  have Ot14 := Lib.hid (Ot13.out.below hb4)
  have Ow4 := Lib.hid (Ow3.out.below hb4)
  have Pt04 := Lib.hid (Pt03.out.below hb4)
  have Mt04 := Lib.hid (Mt03.out.below hb4)
  have Px04 := Lib.hid hP
  have Mx04 := Lib.hid hM
  clear hb4 Ot13 Ow3 Pt03 Mt03 hP hM
  go_wp2_with fail
  refine (toInt64S_any B m d os _ (HB.out.below b4) (by omega)).mono ?_
  rintro e w5 ⟨gx1, rfl, ho, hb5⟩
  have b5 : Below w.heap.size w w5 := b4.trans (hb5.mono b4.size)
  have s5 := hb5.size
  have Ot15 := Lib.hid (Ot14.out.below hb5)
  have Ow5 := Lib.hid (Ow4.out.below hb5)
  have Pt05 := Lib.hid (Pt04.out.below hb5)
  have Mt05 := Lib.hid (Mt04.out.below hb5)
  have Px05 := Lib.hid (Px04.out.below hb5)
  have Mx05 := Lib.hid (Mx04.out.below hb5)
  have Ox15 := Lib.hid (OwnIn.new ho)
  clear hb5 Ot14 Ow4 Pt04 Mt04 Px04 Mx04 ho
  go_wp2_with fail
  refine (HIM.out _ _ _ _ _ _ _ Px05.out Ox15.out.rd).mono ?_
  rintro e w6 ⟨Ag, ng, cg, rfl, ho, hb6⟩
  have b6 : Below w.heap.size w w6 := b5.trans (hb6.mono b5.size)
  have s6 := hb6.size
  have Ot16 := Lib.hid (Ot15.out.below hb6)
  have Ow6 := Lib.hid (Ow5.out.below hb6)
  have Ox16 := Lib.hid (Ox15.out.below hb6)
  have Pt06 := Lib.hid (Pt05.out.below hb6)
  have Mt06 := Lib.hid (Mt05.out.below hb6)
  have Px06 := Lib.hid (Px05.out.below hb6)
  have Mx06 := Lib.hid (Mx05.out.below hb6)
  have Og6 := Lib.hid (OwnIn.new ho)
  clear hb6 Ot15 Ow5 Ox15 Pt05 Mt05 Px05 Mx05 ho
  have lg := Og6.out.ilen
  go_wp2_with fail
  refine (eqInt64S_any _ _ _ R _ _ _ R _ Og6.out.rd Ow6.out.rd).mono ?_
  rw [eqL_self]
  rintro e w7 ⟨rfl, hb7⟩
  have b7 : Below w.heap.size w w7 := b6.trans (hb7.mono b6.size)
  have s7 := hb7.size
  have Ot17 := Lib.hid (Ot16.out.below hb7)
  have Ow7 := Lib.hid (Ow6.out.below hb7)
  have Ox17 := Lib.hid (Ox16.out.below hb7)
  have Og7 := Lib.hid (Og6.out.below hb7)
  have Pt07 := Lib.hid (Pt06.out.below hb7)
  have Mt07 := Lib.hid (Mt06.out.below hb7)
  have Px07 := Lib.hid (Px06.out.below hb7)
  have Mx07 := Lib.hid (Mx06.out.below hb7)
  clear hb7 Ot16 Ow6 Ox16 Og6 Pt06 Mt06 Px06 Mx06
  go_wp2_with fail
  refine (toOpS_any A n c ops _ (HA.out.below b7) SHA.out).mono ?_
  rintro e w8 ⟨gy0, csy0, Gy0, rfl, hP, hM, hb8⟩
  have b8 : Below w.heap.size w w8 := b7.trans (hb8.mono b7.size)
  have s8 := hb8.size
  have Ot18 := Lib.hid (Ot17.out.below hb8)
  have Ow8 := Lib.hid (Ow7.out.below hb8)
  have Ox18 := Lib.hid (Ox17.out.below hb8)
  have Og8 := Lib.hid (Og7.out.below hb8)
  have Pt08 := Lib.hid (Pt07.out.below hb8)
  have Mt08 := Lib.hid (Mt07.out.below hb8)
  have Px08 := Lib.hid (Px07.out.below hb8)
  have Mx08 := Lib.hid (Mx07.out.below hb8)
  have Py08 := Lib.hid hP
  have My08 := Lib.hid hM
  clear hb8 Ot17 Ow7 Ox17 Og7 Pt07 Mt07 Px07 Mx07 hP hM
  go_wp2_with fail
  refine (eqOpS_any _ _ _ _ _ ops _ Px08.out Py08.out).mono ?_
  rintro e w9 ⟨rfl, hb9⟩
  have b9 : Below w.heap.size w w9 := b8.trans (hb9.mono b8.size)
  have s9 := hb9.size
  have Ot19 := Lib.hid (Ot18.out.below hb9)
  have Ow9 := Lib.hid (Ow8.out.below hb9)
  have Ox19 := Lib.hid (Ox18.out.below hb9)
  have Og9 := Lib.hid (Og8.out.below hb9)
  have Pt09 := Lib.hid (Pt08.out.below hb9)
  have Mt09 := Lib.hid (Mt08.out.below hb9)
  have Px09 := Lib.hid (Px08.out.below hb9)
  have Mx09 := Lib.hid (Mx08.out.below hb9)
  have Py09 := Lib.hid (Py08.out.below hb9)
  have My09 := Lib.hid (My08.out.below hb9)
  clear hb9 Ot18 Ow8 Ox18 Og8 Pt08 Mt08 Px08 Mx08 Py08 My08
  go_wp2_with fail
  refine (toInt64S_any B m d os _ (HB.out.below b9) (by omega)).mono ?_
  rintro e w10 ⟨gy1, rfl, ho, hb10⟩
  have b10 : Below w.heap.size w w10 := b9.trans (hb10.mono b9.size)
  have s10 := hb10.size
  have Ot110 := Lib.hid (Ot19.out.below hb10)
  have Ow10 := Lib.hid (Ow9.out.below hb10)
  have Ox110 := Lib.hid (Ox19.out.below hb10)
  have Og10 := Lib.hid (Og9.out.below hb10)
  have Pt010 := Lib.hid (Pt09.out.below hb10)
  have Mt010 := Lib.hid (Mt09.out.below hb10)
  have Px010 := Lib.hid (Px09.out.below hb10)
  have Mx010 := Lib.hid (Mx09.out.below hb10)
  have Py010 := Lib.hid (Py09.out.below hb10)
  have My010 := Lib.hid (My09.out.below hb10)
  have Oy110 := Lib.hid (OwnIn.new ho)
  clear hb10 Ot19 Ow9 Ox19 Og9 Pt09 Mt09 Px09 Mx09 Py09 My09 ho
  go_wp2_with fail
  refine (eqInt64S_any _ _ _ os _ _ _ os _ Ox110.out.rd Oy110.out.rd).mono ?_
  rw [eqL_self]
  rintro e w11 ⟨rfl, hb11⟩
  have b11 : Below w.heap.size w w11 := b10.trans (hb11.mono b10.size)
  have s11 := hb11.size
  have Ot111 := Lib.hid (Ot110.out.below hb11)
  have Ow11 := Lib.hid (Ow10.out.below hb11)
  have Ox111 := Lib.hid (Ox110.out.below hb11)
  have Og11 := Lib.hid (Og10.out.below hb11)
  have Oy111 := Lib.hid (Oy110.out.below hb11)
  have Pt011 := Lib.hid (Pt010.out.below hb11)
  have Mt011 := Lib.hid (Mt010.out.below hb11)
  have Px011 := Lib.hid (Px010.out.below hb11)
  have Mx011 := Lib.hid (Mx010.out.below hb11)
  have Py011 := Lib.hid (Py010.out.below hb11)
  have My011 := Lib.hid (My010.out.below hb11)
  clear hb11 Ot110 Ow10 Ox110 Og10 Oy110 Pt010 Mt010 Px010 Mx010 Py010 My010
  go_wp2_with fail
  refine (markOpS_any _ _ _ _ _ _ _ _ Mx011.out SHA.out.1).mono ?_
  rintro e w12 ⟨⟨z12, rfl, z120, z121⟩, hout⟩
  have b12 : Below w.heap.size w w12 := Out.below b11 hout (by omega) b11.size
  have s12 := hout.size
  have Ot112 := Lib.hid (Ot111.out.out hout (by omega))
  have Ow12 := Lib.hid (Ow11.out.out hout (by omega))
  have Ox112 := Lib.hid (Ox111.out.out hout (by omega))
  have Og12 := Lib.hid (Og11.out.out hout (by omega))
  have Oy112 := Lib.hid (Oy111.out.out hout (by omega))
  clear hout Ot111 Ow11 Ox111 Og11 Oy111 Pt011 Mt011 Px011 Mx011 Py011 My011
  go_wp2_with fail
  refine (markInt64S_any _ _ _ _ os _ _ Ox112.out.own (by omega) (by omega)).mono ?_
  rintro e w13 ⟨rfl, ho, hg⟩
  have b13 : Below w.heap.size w w13 := Ox112.out.base b12 hg (by omega) (Nat.le_refl _)
  have s13 := hg.size
  have Ot113 := Lib.hid (Ot112.out.other Ox112.out hg (by omega))
  have Ow13 := Lib.hid (Ow12.out.other Ox112.out hg (by omega))
  have Ox113 := Lib.hid (Ox112.out.self ho hg)
  have Og13 := Lib.hid (Og12.out.other Ox112.out hg (by omega))
  have Oy113 := Lib.hid (Oy112.out.other Ox112.out hg (by omega))
  clear ho hg Ot112 Ow12 Ox112 Og12 Oy112
  go_wp2_with fail
  refine (eqInt64S_any _ _ _ R _ _ _ R _ Og13.out.rd Ow13.out.rd).mono ?_
  rw [eqL_self]
  rintro e w14 ⟨rfl, hb14⟩
  have b14 : Below w.heap.size w w14 := b13.trans (hb14.mono b13.size)
  have s14 := hb14.size
  have Ot114 := Lib.hid (Ot113.out.below hb14)
  have Ow14 := Lib.hid (Ow13.out.below hb14)
  have Ox114 := Lib.hid (Ox113.out.below hb14)
  have Og14 := Lib.hid (Og13.out.below hb14)
  have Oy114 := Lib.hid (Oy113.out.below hb14)
  clear hb14 Ot113 Ow13 Ox113 Og13 Oy113
  go_wp2_with fail
  refine (markInt64S_any _ _ _ _ R 1 _ Og14.out.own (by omega) (by omega)).mono ?_
  rintro e w15 ⟨rfl, ho, hg⟩
  have b15 : Below w.heap.size w w15 := Og14.out.base b14 hg (by omega) (Nat.le_refl _)
  have s15 := hg.size
  have Ot115 := Lib.hid (Ot114.out.other Og14.out hg (by omega))
  have Ow15 := Lib.hid (Ow14.out.other Og14.out hg (by omega))
  have Ox115 := Lib.hid (Ox114.out.other Og14.out hg (by omega))
  have Og15 := Lib.hid (Og14.out.self ho hg)
  have Oy115 := Lib.hid (Oy114.out.other Og14.out hg (by omega))
  clear ho hg Ot114 Ow14 Ox114 Og14 Oy114
  go_wp2_with fail
  refine (heldInt64S_any _ _ _ 1 _ Og15.out.rd (by omega) (by omega)).mono ?_
  rintro e wz ⟨rfl, rfl⟩
  go_wp2_with fail
  refine (toOpS_any A n c ops _ (HA.out.below b15) SHA.out).mono ?_
  rintro e w16 ⟨gz0, csz0, Gz0, rfl, hP, hM, hb16⟩
  have b16 : Below w.heap.size w w16 := b15.trans (hb16.mono b15.size)
  have s16 := hb16.size
  have Ot116 := Lib.hid (Ot115.out.below hb16)
  have Ow16 := Lib.hid (Ow15.out.below hb16)
  have Ox116 := Lib.hid (Ox115.out.below hb16)
  have Og16 := Lib.hid (Og15.out.below hb16)
  have Oy116 := Lib.hid (Oy115.out.below hb16)
  have Pz016 := Lib.hid hP
  have Mz016 := Lib.hid hM
  clear hb16 Ot115 Ow15 Ox115 Og15 Oy115 hP hM
  go_wp2_with fail
  refine (toInt64S_any B m d os _ (HB.out.below b16) (by omega)).mono ?_
  rintro e w17 ⟨gz1, rfl, ho, hb17⟩
  have b17 : Below w.heap.size w w17 := b16.trans (hb17.mono b16.size)
  have s17 := hb17.size
  have Ot117 := Lib.hid (Ot116.out.below hb17)
  have Ow17 := Lib.hid (Ow16.out.below hb17)
  have Ox117 := Lib.hid (Ox116.out.below hb17)
  have Og17 := Lib.hid (Og16.out.below hb17)
  have Oy117 := Lib.hid (Oy116.out.below hb17)
  have Pz017 := Lib.hid (Pz016.out.below hb17)
  have Mz017 := Lib.hid (Mz016.out.below hb17)
  have Oz117 := Lib.hid (OwnIn.new ho)
  clear hb17 Ot116 Ow16 Ox116 Og16 Oy116 Pz016 Mz016 ho
  go_wp2_with fail
  refine (HIM.out _ _ _ _ _ _ _ Pz017.out Oz117.out.rd).mono ?_
  rintro e w18 ⟨Ah, nh, ch, rfl, ho, hb18⟩
  have b18 : Below w.heap.size w w18 := b17.trans (hb18.mono b17.size)
  have s18 := hb18.size
  have Ot118 := Lib.hid (Ot117.out.below hb18)
  have Ow18 := Lib.hid (Ow17.out.below hb18)
  have Ox118 := Lib.hid (Ox117.out.below hb18)
  have Og18 := Lib.hid (Og17.out.below hb18)
  have Oy118 := Lib.hid (Oy117.out.below hb18)
  have Oz118 := Lib.hid (Oz117.out.below hb18)
  have Pz018 := Lib.hid (Pz017.out.below hb18)
  have Mz018 := Lib.hid (Mz017.out.below hb18)
  have Oh18 := Lib.hid (OwnIn.new ho)
  clear hb18 Ot117 Ow17 Ox117 Og17 Oy117 Oz117 Pz017 Mz017 ho
  go_wp2_with fail
  refine (eqInt64S_any _ _ _ R _ _ _ R _ Oh18.out.rd Ow18.out.rd).mono ?_
  rw [eqL_self]
  rintro e w19 ⟨rfl, hb19⟩
  have b19 : Below w.heap.size w w19 := b18.trans (hb19.mono b18.size)
  have s19 := hb19.size
  have Ot119 := Lib.hid (Ot118.out.below hb19)
  have Ow19 := Lib.hid (Ow18.out.below hb19)
  have Ox119 := Lib.hid (Ox118.out.below hb19)
  have Og19 := Lib.hid (Og18.out.below hb19)
  have Oy119 := Lib.hid (Oy118.out.below hb19)
  have Oz119 := Lib.hid (Oz118.out.below hb19)
  have Oh19 := Lib.hid (Oh18.out.below hb19)
  have Pz019 := Lib.hid (Pz018.out.below hb19)
  have Mz019 := Lib.hid (Mz018.out.below hb19)
  clear hb19 Ot118 Ow18 Ox118 Og18 Oy118 Oz118 Oh18 Pz018 Mz018
  go_wp2_with fail
  refine (heldInt64S_any _ _ _ 1 _ Og19.out.rd (by omega) (by omega)).mono ?_
  rintro e wz ⟨rfl, rfl⟩
  go_wp2_with fail
  go_ret
  exact ⟨rfl, b19⟩

end Go.Proofs.Ytgghjieeckkpbaa
