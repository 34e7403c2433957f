/- Circles: circleOf of the program; l13Before, l13Circle of the reference. -/
import Derived.Test.YtgghjieeckkpbaaDoorBt
namespace Go.Proofs.YtgghjieeckkpbaaDoor
open Go.RowKit

/-- Marks as cells. -/
def bs (s : List Bool) : List Value := s.map Value.bool
theorem bs_len (s : List Bool) : (bs s).length = s.length := by simp [bs]
theorem bs_get (s : List Bool) (j : Nat) : (bs s)[j]? = (s[j]?).map Value.bool := by simp [bs]
theorem bs_set (s : List Bool) (i : Nat) (v : Bool) : (bs s).set i (.bool v) = bs (s.set i v) := by simp [bs, List.map_set]
theorem seen_getD {s : List Bool} {i : Nat} (h : i < s.length) : s[i]? = some (seenAt s i) := by
  unfold seenAt
  simp [List.getD, List.getElem?_eq_getElem h]
theorem own_bool {w : World} {base : Nat} {e : TypeId} {g n c : Nat} {s : List Bool} (h : w.ownsRow base e 1 (.slice (some ⟨g, 0, none⟩) n c) n (bs s)) {i : Nat} (hi : i < n) (hl : s.length = n) :
    w.cell? ⟨g, i, none⟩ = some (.bool (seenAt s i)) := by
  rw [h.cellAt i (by omega), bs_get, seen_getD (by omega)]; rfl
theorem own_bset {w : World} {base : Nat} {e : TypeId} {g n c : Nat} {s : List Bool} (h : w.ownsRow base e 1 (.slice (some ⟨g, 0, none⟩) n c) n (bs s)) (i : Nat) (v : Bool) :
    (w.setCell ⟨g, i, none⟩ (.bool v)).ownsRow base e 1 (.slice (some ⟨g, 0, none⟩) n c) n (bs (s.set i v)) ∧ w.grownBy (w.setCell ⟨g, i, none⟩ (.bool v)) (some g) := by
  have S := h.stored i (.bool v)
  rw [bs_set] at S
  exact S
theorem info_bl : (Tryd.prog.info? 4).map (fun i => (i.zero, i.size, i.bytes)) = some (some (.bool false), 1, 1) := by kernel_rfl
/-- n marks that are not set, as cells of a block. -/
def bn (n : Nat) : Array Value := (bs (List.replicate n false)).toArray
theorem mkb (n : Nat) (hn : n ≤ 1048576) (W : World) : (Instr.makeSlice 64 (.int .i64 n) (.int .i64 n)).run Tryd.prog W = .ok (.slice (some ⟨W.heap.size, 0, none⟩) n n) (W.alloc (.cells (bn n) 4)) := by
  obtain ⟨i0, hi, hz0, hz1, hz2⟩ := info_parts info_bl
  have h := run_make (P := Tryd.prog) W 64 4 i0 (.bool false) Tryd.underlying64 hi hz0 .i64 .i64 n n (by omega) (by omega) (by rw [hz2]; omega) (by omega)
  rw [hz1, Int.toNat_natCast] at h
  have e : madeCells (Value.bool false).cells (n * 1) = bn n := by
    apply Array.toList_inj.1
    simp [bn, bs, toList_madeCells_one, Value.cells]
  rw [e] at h
  exact h
theorem ownb (n : Nat) (hn : n ≤ 1048576) (W : World) (base : Nat) (hb : base ≤ W.heap.size) : (W.alloc (.cells (bn n) 4)).ownsRow base 4 1 (.slice (some ⟨W.heap.size, 0, none⟩) n n) n (bs (List.replicate n false)) := by
  have h := World.ownsRow_lit (e := 4) (size := 1) W (bn n) n hb (by unfold maxLen; omega) (by simp [bn, bs])
  exact h

open Classical in
noncomputable def circB (bfs : List (List Int)) (j : Nat) : Bool := decide (Rch (Eb bfs) j j)
open Classical in
theorem circ_iff (bfs : List (List Int)) (j : Nat) : circB bfs j = true ↔ Rch (Eb bfs) j j := by unfold circB; exact decide_eq_true_iff
noncomputable def circF (bfs : List (List Int)) (j : Nat) : Option Nat := if circB bfs j = true then some j else none
/-- The first one that must be done before itself, or -1. -/
noncomputable def circZ (bfs : List (List Int)) (n : Nat) : Int := match scanF (circF bfs) n with
  | some j => (j : Int)
  | none => -1
theorem circZ_hit {bfs : List (List Int)} {n k : Nat} (h : scanF (circF bfs) k = none) (hk : k < n) (hc : circB bfs k = true) : circZ bfs n = (k : Int) := by
  unfold circZ
  rw [scanF_hit h (r := k) (by unfold circF; rw [if_pos hc]) hk]
theorem circZ_miss {bfs : List (List Int)} {n : Nat} (h : scanF (circF bfs) n = none) : circZ bfs n = -1 := by
  unfold circZ
  rw [h]
theorem circ_next {bfs : List (List Int)} {k : Nat} (h : scanF (circF bfs) k = none) (hc : circB bfs k = false) : scanF (circF bfs) (k + 1) = none := by
  rw [scanF_next h]
  unfold circF
  rw [if_neg (by rw [hc]; simp)]
theorem circZ_none {bfs : List (List Int)} {n : Nat} (h : circZ bfs n < 0) : ∀ j, j < n → ¬ Rch (Eb bfs) j j := by
  intro j hj hr
  have hne : scanF (circF bfs) n ≠ none := scanF_ne hj (by unfold circF; rw [if_pos ((circ_iff _ _).2 hr)]; simp)
  unfold circZ at h
  cases hs : scanF (circF bfs) n with
  | none => exact hne hs
  | some x => rw [hs] at h; simp at h; omega
theorem circZ_bd (bfs : List (List Int)) (n : Nat) : -1 ≤ circZ bfs n ∧ circZ bfs n ≤ n := by
  unfold circZ
  cases hs : scanF (circF bfs) n with
  | none => simp
  | some x =>
    obtain ⟨i, hi, hg⟩ := scanF_some hs
    unfold circF at hg
    split at hg
    · injection hg with hg
      subst hg
      simp; omega
    · cases hg

set_option maxRecDepth 100000 in
set_option maxHeartbeats 4000000 in
theorem circleOf_any (A : Option Addr) (n c : Nat) (ops : List OpV) (w : World) (h : RdO w A n c ops) (hok : OOk ops) :
    Calls Tryd.prog 45 #[.slice A n c] w fun e w' => e = .returned (.int .i64 (circZ (bfsO ops) n)) ∧ Below w.heap.size w w' := by
  have hl := h.len
  have hbf := bfs_ok hok hl
  have hn14 := hbf.hn
  have hcall := allBefore_any A n c ops w h hok
  have hmiss := circZ_miss (bfs := bfsO ops) (n := n)
  have hhit := fun k => circZ_hit (bfs := bfsO ops) (n := n) (k := k)
  generalize circZ (bfsO ops) n = R at *
  have HC := Lib.hid hcall
  have HMI := Lib.hid hmiss
  have HHI := Lib.hid hhit
  have HBF := Lib.hid hbf
  clear hcall hmiss hhit hbf h hl hok
  go_enter Tryd.func45, Tryd.ntmps45
  go_wp2_with fail
  refine (HC.out).mono ?_
  rintro e w1 ⟨g, M, rfl, hown, hM, hb⟩
  have HO := Lib.hid hown
  have HM := Lib.hid hM
  have HB := Lib.hid hb
  clear hown hM hb
  go_wp2_with fail
  go_loopw [8] (fun vi wr => ∃ k : Nat, k ≤ n ∧ vi = .int .i64 k ∧ Hid (scanF (circF (bfsO ops)) k = none) ∧ w1 = wr) (fun vi _ => n - (intOf vi).toNat)
  case atStart => exact ⟨0, Nat.zero_le _, rfl, (show Hid _ from rfl), rfl⟩
  case round =>
    obtain ⟨k, hk, rfl, HS, rfl⟩ := hrel
    by_cases hlt : k < n
    · have hk0 : (0 : Int) ≤ (k : Int) := by omega
      have hk1 : (k : Int) < (n : Int) := by omega
      have ck := own_int HO.out hlt (by rw [nz_len]; exact HM.out.1)
      rw [nz_at] at ck
      have hm := mask_sm HBF.out HM.out.2.1 k
      have hhas := fun W => has_any (mAt M k) k W (by omega) (by omega)
      have hbit : (mAt M k).testBit k = circB (bfsO ops) k := by
        rw [Bool.eq_iff_iff, HM.out.iff HBF.out, circ_iff]
      rw [hbit] at hhas
      have hhk := HHI.out k HS.out hlt
      have hnx := fun hc => circ_next HS.out hc
      generalize mAt M k = mk at *
      generalize circB (bfsO ops) k = q at *
      have HH := Lib.hid hhas
      have HHK := Lib.hid hhk
      have HNX := Lib.hid hnx
      clear hhas hhk hnx hbit
      cases q with
      | true =>
        have hr := HHK.out (by trivial)
        subst hr
        clear HHI HMI HHK HNX
        go_wp2_with (go_at_call 52; refine (HH.out _).mono ?_; rintro e w' ⟨rfl, rfl⟩)
        go_ret
        exact ⟨rfl, HB.out⟩
      | false =>
        go_wp2_with (go_at_call 52; refine (HH.out _).mono ?_; rintro e w' ⟨rfl, rfl⟩)
        go_roundw
        case rel => exact ⟨k + 1, by omega, by go_num, Lib.hid (HNX.out (by trivial)), by trivial⟩
        case measure => simp [intOf]; omega
    · have hkn : k = n := by omega
      subst hkn
      have hr := HMI.out HS.out
      subst hr
      clear HHI HMI
      go_wp2
      go_ret
      exact ⟨rfl, HB.out⟩

set_option maxRecDepth 100000 in
set_option maxHeartbeats 8000000 in
theorem l13Before_any (A : Option Addr) (n c : Nat) (ops : List OpV) (k : Nat) (w : World) (h : RdO w A n c ops) (hok : OOk ops) (hkn : k < n) :
    Calls Tryd.prog 54 #[.slice A n c, .int .i64 k] w fun e w' => ∃ g s, e = .returned (.slice (some ⟨g, 0, none⟩) n n) ∧ w'.ownsRow w.heap.size 4 1 (.slice (some ⟨g, 0, none⟩) n n) n (bs s) ∧ s.length = n ∧ (∀ x, seenAt s x = true ↔ Rch (Eb (bfsO ops)) k x) ∧ Below w.heap.size w w' := by
  obtain ⟨i0, hi, hz0, hz1, hz2⟩ := info_parts info_i64r
  have hl := h.len
  have h1 := h.cap
  have h2 := h.max
  have hbf := bfs_ok hok hl
  have hn14 := hbf.hn
  have hmk := mkb n (by omega) w
  have hown0 := ownb n (by omega) w w.heap.size (Nat.le_refl _)
  have hb0 : Below w.heap.size w (w.alloc (.cells (bn n) 4)) := (Below.refl _ _).alloc (Nat.le_refl _) _
  have hsz : (w.alloc (.cells (bn n) 4)).heap.size = w.heap.size + 1 := by simp
  have ha1 : Below (w.alloc (.cells (bn n) 4)).heap.size (w.alloc (.cells (bn n) 4)) ((w.alloc (.cells (bn n) 4)).alloc (.cells #[.int .i64 k] 2)) := (Below.refl _ _).alloc (Nat.le_refl _) _
  have hown1 := own_below hown0 ha1
  have htodo : ((w.alloc (.cells (bn n) 4)).alloc (.cells #[.int .i64 k] 2)).ownsRow (w.heap.size + 1) 2 1 (.slice (some ⟨w.heap.size + 1, 0, none⟩) 1 1) 1 (ints ((k : Int) :: [])) := by
    have h := World.ownsRow_lit (e := 2) (size := 1) (base := w.heap.size + 1) (w.alloc (.cells (bn n) 4)) #[.int .i64 k] 1 (by rw [hsz]; exact Nat.le_refl _) (by unfold maxLen; omega) (by simp)
    rw [hsz] at h
    exact h
  have H := Lib.hid h
  have HL := Lib.hid hl
  have HBF := Lib.hid hbf
  have HO1 := Lib.hid hown1
  have HT1 := Lib.hid htodo
  have HB1 := Lib.hid (hb0.trans (ha1.mono hb0.size))
  clear h hl hbf hown0 hown1 htodo hb0 ha1 hsz hok
  go_enter Tryd.func54, Tryd.ntmps54
  go_wp2
  go_loopw [6, 7] (fun vt vi wr => ∃ (i gt ct : Nat) (s : List Bool) (T : List Int), i ≤ T.length + 1 ∧ T.length ≤ n ∧ vi = .int .i64 i ∧ vt = .slice (some ⟨gt, 0, none⟩) (T.length + 1) ct ∧ Hid (BfI (bfsO ops) n k s T ∧ BfD (bfsO ops) k s T i) ∧
      wr.ownsRow w.heap.size 4 1 (.slice (some ⟨w.heap.size, 0, none⟩) n n) n (bs s) ∧ wr.ownsRow (w.heap.size + 1) 2 1 (.slice (some ⟨gt, 0, none⟩) (T.length + 1) ct) (T.length + 1) (ints ((k : Int) :: T)) ∧ Below w.heap.size w wr) (fun _ vi _ => n + 1 - (intOf vi).toNat)
  case atStart => exact ⟨0, _, _, _, [], Nat.zero_le _, Nat.zero_le _, rfl, rfl, Lib.hid ⟨bfi0 _ _ _, fun p _ _ hp => absurd hp (Nat.not_lt_zero _)⟩, HO1.out, HT1.out, HB1.out⟩
  case round =>
    obtain ⟨i, gt, ct, s, T, hiT, hTn, rfl, rfl, HI, hown, htodo, hb⟩ := hrel
    have htc := (Rd.of_own htodo).cap
    have htm := (Rd.of_own htodo).max
    by_cases hlt : i < T.length + 1
    · have hi0 : (0 : Int) ≤ (i : Int) := by omega
      have hi1 : (i : Int) < (T.length : Int) + 1 := by omega
      have hy0 := getD_of (l := (k : Int) :: T) (j := i) (by simp; omega)
      have hyr : 0 ≤ ((k : Int) :: T).getD i 0 ∧ ((k : Int) :: T).getD i 0 < n := by
        rcases List.mem_cons.1 (List.mem_of_getElem? hy0) with e | e
        · rw [e]; omega
        · exact HI.out.1.rg _ e
      have hci := own_int htodo hlt (by simp)
      generalize ((k : Int) :: T).getD i 0 = yv at *
      obtain ⟨y, rfl⟩ := Int.eq_ofNat_of_zero_le hyr.1
      have hyn : y < n := by omega
      have hyk0 : (0 : Int) ≤ (y : Int) := by omega
      have hyk1 : (y : Int) < (n : Int) := by omega
      obtain ⟨p, b, o, B, m, d, hp, hps, hA, hbl, e0, e1, e2, hrd⟩ := H.out.op hyn
      subst hA
      have c2 := cell_bel e2 hb
      have hrl := hrd.ilen
      have hr2 := hrd.cap
      have hr3 := hrd.max
      have hbfp := bf_at hp
      have HBP := Lib.hid hbfp
      have HRL := Lib.hid hrl
      have HR := Lib.hid hrd
      have HO := Lib.hid hown
      have HT := Lib.hid htodo
      have HB := Lib.hid hb
      have HY0 := Lib.hid hy0
      clear e0 e1 e2 hp hbfp hrd hrl hown htodo hb hy0
      go_wp2
      go_loopw [6, 9] (fun vt vj wr => ∃ (j gt ct : Nat) (s : List Bool) (T : List Int), j ≤ m ∧ i < T.length + 1 ∧ T.length ≤ n ∧ vj = .int .i64 j ∧ vt = .slice (some ⟨gt, 0, none⟩) (T.length + 1) ct ∧ Hid (BfI (bfsO ops) n k s T ∧ BfD (bfsO ops) k s T i ∧ ((k : Int) :: T)[i]? = some (y : Int) ∧ ∀ x ∈ p.bf.take j, seenAt s x.toNat = true) ∧
          wr.ownsRow w.heap.size 4 1 (.slice (some ⟨w.heap.size, 0, none⟩) n n) n (bs s) ∧ wr.ownsRow (w.heap.size + 1) 2 1 (.slice (some ⟨gt, 0, none⟩) (T.length + 1) ct) (T.length + 1) (ints ((k : Int) :: T)) ∧ Below w.heap.size w wr) (fun _ vj _ => m - (intOf vj).toNat)
      case atStart => exact ⟨0, gt, ct, s, T, Nat.zero_le _, hlt, hTn, rfl, rfl, Lib.hid ⟨HI.out.1, HI.out.2, HY0.out, by simp⟩, HO.out, HT.out, HB.out⟩
      case round =>
        clear HI HO HT HB HY0 hci c2 htc htm hiT hTn hlt hi0 hi1
        obtain ⟨j, gt, ct, s, T, hj, hiT, hTn, rfl, rfl, HI, hown, htodo, hb⟩ := hrel
        have htc := (Rd.of_own htodo).cap
        have htm := (Rd.of_own htodo).max
        have hgt := (own_block htodo gt rfl)
        by_cases hlj : j < m
        · obtain ⟨b3, o3, x, hB, hb3, hx, hc3⟩ := HR.out.int hlj
          subst hB
          have c3 := cell_bel hc3 hb
          have hxm := List.mem_of_getElem? hx
          have hxr := HBF.out.hb y x (by rw [HBP.out]; exact hxm)
          obtain ⟨q, rfl⟩ := Int.eq_ofNat_of_zero_le hxr.1
          have hq : q < n := by omega
          have hq0 : (0 : Int) ≤ (q : Int) := by omega
          have hq1 : (q : Int) < (n : Int) := by omega
          have hj0 : (0 : Int) ≤ (j : Int) := by omega
          have hj1 : (j : Int) < (m : Int) := by omega
          obtain ⟨hI1, hI2, hI3, hI4⟩ := HI.out
          have hEb : Eb (bfsO ops) y q := by unfold Eb; rw [HBP.out]; exact hxm
          have cs := own_bool hown hq hI1.sl
          have hf := hown.frozenAt
          cases hsq : seenAt s q with
          | true =>
            rw [hsq] at cs
            have HI' : Hid (BfI (bfsO ops) n k s T ∧ BfD (bfsO ops) k s T i ∧ ((k : Int) :: T)[i]? = some (y : Int) ∧ ∀ x ∈ p.bf.take (j + 1), seenAt s x.toNat = true) := Lib.hid ⟨hI1, hI2, hI3, fun x hx' => by
              rw [List.take_add_one, hx] at hx'
              rcases List.mem_append.1 hx' with hx' | hx'
              · exact hI4 x hx'
              · simp at hx'; subst hx'; simpa using hsq⟩
            have HO := Lib.hid hown
            have HT := Lib.hid htodo
            have HB := Lib.hid hb
            clear hown htodo hb HI hI1 hI2 hI3 hI4 hx hxm hEb hsq hc3
            go_wp2
            go_roundw
            case rel => exact ⟨j + 1, gt, ct, s, T, by omega, hiT, hTn, by go_num, rfl, HI', HO.out, HT.out, HB.out⟩
            case measure => simp [intOf]; omega
          | false =>
            rw [hsq] at cs
            have hlen : (T ++ [(q : Int)]).length = T.length + 1 := by simp
            have hym : (y : Int) ∈ (k : Int) :: T := List.mem_of_getElem? hI3
            have hI1' := hI1.add hq hsq hym hEb
            have HI' : Hid (BfI (bfsO ops) n k (s.set q true) (T ++ [(q : Int)]) ∧ BfD (bfsO ops) k (s.set q true) (T ++ [(q : Int)]) i ∧ ((k : Int) :: (T ++ [(q : Int)]))[i]? = some (y : Int) ∧ ∀ x ∈ p.bf.take (j + 1), seenAt (s.set q true) x.toNat = true) := Lib.hid ⟨hI1', BfD.add hI1 hI2 (by omega) hq, by
              rw [← List.cons_append, List.getElem?_append_left (by simp; omega)]; exact hI3, fun x hx' => by
              rw [seen_set (by rw [hI1.sl]; exact hq)]
              rw [List.take_add_one, hx] at hx'
              rcases List.mem_append.1 hx' with hx' | hx'
              · rw [hI4 x hx']; simp
              · simp at hx'; subst hx'; simp⟩
            have hTn' := hI1'.len
            rw [hlen] at hTn'
            have S := own_bset hown q true
            have ht2 := own_setO (b := w.heap.size) (j := q) (v := .bool true) htodo (by omega)
            have c4 := cell_other c3 S.2 (by omega)
            have hb2 := hb.setCell (p := ⟨w.heap.size, q, none⟩) (Nat.le_refl _) (.bool true)
            have hvs : (wr.setCell ⟨w.heap.size, q, none⟩ (.bool true)).heap.size = wr.heap.size := by simp
            have HS := Lib.hid S.1
            have HT2 := Lib.hid ht2
            have HB2 := Lib.hid hb2
            have HVS := Lib.hid hvs
            clear S ht2 hb2 hvs hown htodo hb HI hI1 hI2 hI3 hI4 hI1' hx hxm hEb hsq hym hc3
            go_wp2_with (at_builtin; refine wpList_append_own _ rfl (.tmp 49) (.tmp 54) 32 rfl (w.heap.size + 1) 2 i0 (.int .i64 0) 1 8 Tryd.underlying32 hi hz0 hz1 hz2 rfl (by decide) (Value.slice (some ⟨gt, 0, none⟩) (T.length + 1) ct) _ _ rfl (HT2.out.alloc _) ⟨_, 0, none⟩ 1 1 [.int .i64 q] rfl rfl (by have := cell_one_new (wr.setCell ⟨w.heap.size, q, none⟩ (.bool true)) (.int .i64 q) 2; rw [HVS.out] at this; exact this) (by intro u hu; simp at hu; subst hu; rfl) (by unfold maxLen; omega) (by omega) (by simp; omega) ?_; intro v' wa hown' hga hdel; clear hdel)
            have hal : Below (wr.setCell ⟨w.heap.size, q, none⟩ (.bool true)).heap.size (wr.setCell ⟨w.heap.size, q, none⟩ (.bool true)) ((wr.setCell ⟨w.heap.size, q, none⟩ (.bool true)).alloc (.cells #[.int .i64 q] 2)) := (Below.refl _ _).alloc (Nat.le_refl _) _
            obtain ⟨g3, d3, hv, hg3, _⟩ := own_form hown' (by omega)
            have b3 : Below w.heap.size w wa := (HB2.out.trans (hal.mono HB2.out.size)).grown hga (by simp; omega) (fun j hj => by simp [Value.ownBlock] at hj; omega)
            have hs3 := own_other (g' := gt) (own_below HS.out hal) hga (by omega)
            rw [ints_snoc, List.cons_append] at hown'
            subst hv
            have HS3 := Lib.hid hs3
            have HO3 := Lib.hid hown'
            have HB3 := Lib.hid b3
            have HLN := Lib.hid hlen
            clear hown' hga hal b3 hs3 hlen
            go_wp2
            go_roundw
            case rel => exact ⟨j + 1, g3, d3, _, T ++ [(q : Int)], by omega, by rw [HLN.out]; omega, by rw [HLN.out]; exact hTn', by go_num, by rw [HLN.out], HI', HS3.out, by rw [HLN.out]; exact HO3.out, HB3.out⟩
            case measure => simp [intOf]; omega
        · have hjm : j = m := by omega
          have HI' : Hid (BfI (bfsO ops) n k s T ∧ BfD (bfsO ops) k s T (i + 1)) := Lib.hid ⟨HI.out.1, fun p' y' x hp' hy' hx' => by
            by_cases e : p' = i
            · subst e
              have h3 := HI.out.2.2.1
              rw [h3] at hy'
              injection hy' with hy'
              have : y' = y := by omega
              subst this
              rw [HBP.out] at hx'
              exact HI.out.2.2.2 x (by rw [List.take_of_length_le (by rw [HRL.out]; omega)]; exact hx')
            · exact HI.out.2.1 p' y' x (by omega) hy' hx'⟩
          have HO := Lib.hid hown
          have HT := Lib.hid htodo
          have HB := Lib.hid hb
          clear hown htodo hb HI
          go_wp2
          go_roundw
          case rel => exact ⟨i + 1, gt, ct, s, T, by omega, hTn, by go_num, rfl, HI', HO.out, HT.out, HB.out⟩
          case measure => simp [intOf]; omega
    · have hie : i = T.length + 1 := by omega
      subst hie
      go_wp2
      go_ret
      exact ⟨_, s, rfl, hown, HI.out.1.sl, bf_done HI.out.1 HI.out.2, hb⟩
end Go.Proofs.YtgghjieeckkpbaaDoor
