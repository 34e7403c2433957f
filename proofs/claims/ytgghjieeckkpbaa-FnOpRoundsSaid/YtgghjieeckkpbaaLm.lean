/- LeastMinutes and RoundsOf: program, reference, laws. Printed by mklm.py. -/
import Derived.Test.YtgghjieeckkpbaaEs
import Derived.Test.YtgghjieeckkpbaaCr
namespace Go.Proofs.Ytgghjieeckkpbaa
open Go.RowKit

/-- The greatest of some numbers, at least 0. -/
def maxL (l : List Int) : Int := l.foldl max 0
theorem maxL_snoc (l : List Int) (x : Int) : maxL (l ++ [x]) = max (maxL l) x := by simp [maxL, List.foldl_append]
theorem maxL_take {l : List Int} {j : Nat} {x : Int} (h : l[j]? = some x) : maxL (l.take (j + 1)) = max (maxL (l.take j)) x := by
  rw [List.take_add_one, h]
  exact maxL_snoc _ _
noncomputable def lmZ (ops : List OpV) : Int × Int := if codeO ops = 0 then (maxL (endL ops (wtM ops)), 0) else (0, codeO ops)
theorem lmZ_ok {ops : List OpV} (h : codeO ops = 0) : lmZ ops = (maxL (endL ops (wtM ops)), 0) := by unfold lmZ; rw [if_pos h]
theorem lmZ_no {ops : List OpV} (h : codeO ops ≠ 0) : lmZ ops = (0, codeO ops) := by unfold lmZ; rw [if_neg h]
/-- One less each. -/
def decL (l : List Int) : List Int := l.map fun x => x - 1
/-- The first j are lessened. -/
def decT (l : List Int) (j : Nat) : List Int := (decL l).take j ++ l.drop j
theorem decT_zero (l : List Int) : decT l 0 = l := by simp [decT]
theorem decT_len (l : List Int) (j : Nat) : (decT l j).length = l.length := by simp [decT, decL]; omega
theorem decT_end {l : List Int} {j : Nat} (h : l.length ≤ j) : decT l j = decL l := by
  unfold decT
  rw [List.drop_of_length_le h, List.append_nil, List.take_of_length_le (by simp [decL]; exact h)]
theorem decT_at {l : List Int} {j : Nat} (h : j < l.length) : (decT l j).getD j 0 = l.getD j 0 := by
  unfold decT
  simp only [List.getD]
  rw [List.getElem?_append_right (by simp [decL]; omega), List.getElem?_drop]
  congr 2
  simp [decL]
  omega
theorem decT_set {l : List Int} {j : Nat} (h : j < l.length) : (decT l j).set j (l.getD j 0 - 1) = decT l (j + 1) := by
  apply List.ext_getElem?
  intro i
  rw [List.getElem?_set, decT_len]
  unfold decT
  have hd : (decL l).length = l.length := by simp [decL]
  rcases Nat.lt_trichotomy i j with h1 | h1 | h1
  · rw [if_neg (by omega), List.getElem?_append_left (by simp; omega), List.getElem?_append_left (by simp; omega), List.getElem?_take_of_lt h1, List.getElem?_take_of_lt (by omega)]
  · subst h1
    rw [if_pos rfl, if_pos h, List.getElem?_append_left (by simp; omega), List.getElem?_take_of_lt (by omega)]
    unfold decL
    rw [List.getElem?_map, getD_of h]
    rfl
  · rw [if_neg (by omega), List.getElem?_append_right (by simp; omega), List.getElem?_append_right (by simp; omega), List.getElem?_drop, List.getElem?_drop]
    congr 1
    simp only [List.length_take, hd]
    omega
noncomputable def roZ (ops : List OpV) : List Int × Int := if codeO ops = 0 then (decL (endL ops (wtR ops)), 0) else ([], codeO ops)
theorem roZ_ok {ops : List OpV} (h : codeO ops = 0) : roZ ops = (decL (endL ops (wtR ops)), 0) := by unfold roZ; rw [if_pos h]
theorem roZ_no {ops : List OpV} (h : codeO ops ≠ 0) : roZ ops = ([], codeO ops) := by unfold roZ; rw [if_neg h]
theorem roZ_len (ops : List OpV) : (roZ ops).1.length ≤ 1048576 := by
  by_cases h : codeO ops = 0
  · obtain ⟨h1, h2⟩ := codeO_ok h
    rw [roZ_ok h]
    have := endL_len (wtR ops) h1 h2
    have := h1.len
    simp only [decL, List.length_map]
    omega
  · rw [roZ_no h]; simp

set_option maxRecDepth 100000 in
set_option maxHeartbeats 2000000 in
theorem implRoundsOf_any (A : Option Addr) (n c : Nat) (ops : List OpV) (w : World) (h : RdO w A n c ops) :
    Calls Try.prog 19 #[.slice A n c] w (IntPost w (roZ ops).1 (roZ ops).2) := by
  have hcall := opsCode_any A n c ops w h
  have hl := h.len
  have h1 := h.cap
  have h2 := h.max
  have H := Lib.hid h
  by_cases hz : codeO ops = 0
  · obtain ⟨hok, hcc⟩ := codeO_ok hz
    rw [roZ_ok hz]
    rw [hz] at hcall
    have hn14 := hok.len
    rw [hl] at hn14
    have hends := fun W h => longest_is 61 (enters_of Try.func61 (by kernel_rfl) rfl) (wtR ops) A n c ops W h hok hcc (one_num ops) (wtR_bd ops)
    have hbd := fun j => endL_bd (wtR_bd ops) hok j
    have hel := endL_len (wtR ops) hok hcc
    rw [hl] at hel
    generalize endL ops (wtR ops) = R at *
    have HC := Lib.hid hcall
    have HE := Lib.hid hends
    have HBD := Lib.hid hbd
    have HEL := Lib.hid hel
    clear hcall hends h hok hcc hz hl hbd hel
    go_enter Try.func19, Try.ntmps19
    go_wp2_with fail
    refine (HC.out).mono ?_
    rintro e w1 ⟨rfl, hb1⟩
    have H1 := Lib.hid (H.out.below hb1)
    have Hb1 := Lib.hid hb1
    clear hb1
    go_wp2_with fail
    refine (HE.out _ H1.out).mono ?_
    rintro e w2 ⟨g, rfl, ho, hb2⟩
    have HO := Lib.hid (own_base ho Hb1.out.size)
    have HB := Lib.hid (Hb1.out.trans (hb2.mono Hb1.out.size))
    have hgb := (own_block HO.out g rfl)
    clear ho hb2
    go_wp2
    go_loopw [16] (fun vj wr => ∃ j : Nat, j ≤ n ∧ vj = .int .i64 j ∧ wr.ownsRow w.heap.size 2 1 (.slice (some ⟨g, 0, none⟩) n n) n (ints (decT R j)) ∧ Below w.heap.size w wr) (fun vj _ => n - (intOf vj).toNat)
    case atStart => exact ⟨0, Nat.zero_le _, rfl, by rw [decT_zero]; exact HO.out, HB.out⟩
    case round =>
      obtain ⟨j, hj, rfl, hown, hb⟩ := hrel
      by_cases hlt : j < n
      · have hj0 : (0 : Int) ≤ (j : Int) := by omega
        have hj1 : (j : Int) < (n : Int) := by omega
        have cj := own_int hown hlt (by rw [decT_len]; exact HEL.out)
        rw [decT_at (by rw [HEL.out]; exact hlt)] at cj
        have hf := hown.frozenAt
        have hbd := HBD.out j
        have S := own_iset hown j (R.getD j 0 - 1)
        rw [decT_set (by rw [HEL.out]; exact hlt)] at S
        have b2 := hb.setCell (p := ⟨g, j, none⟩) hgb.1 (.int .i64 (R.getD j 0 - 1))
        generalize R.getD j 0 = x at *
        have HS := Lib.hid S.1
        have HB2 := Lib.hid b2
        clear S b2 hown hb
        go_wp2
        go_roundw
        case rel => exact ⟨j + 1, by omega, by go_num, HS.out, HB2.out⟩
        case measure => simp [intOf]; omega
      · have hjn : j = n := by omega
        subst hjn
        rw [decT_end (by rw [HEL.out]; exact Nat.le_refl _)] at hown
        go_wp2
        go_ret2
        exact ⟨_, _, _, rfl, hown, hb⟩
  · rw [roZ_no hz]
    generalize codeO ops = z at *
    have hne : (z != 0) = true := by simpa using hz
    have HC := Lib.hid hcall
    clear hcall h hl
    go_enter Try.func19, Try.ntmps19
    go_wp2_with fail
    refine (HC.out).mono ?_
    rintro e w1 ⟨rfl, hb1⟩
    go_wp2
    go_ret2
    exact intPost_nil hb1

set_option maxRecDepth 100000 in
set_option maxHeartbeats 2000000 in
theorem specRoundsOf_any (A : Option Addr) (n c : Nat) (ops : List OpV) (w : World) (h : RdO w A n c ops) :
    Calls Try.prog 20 #[.slice A n c] w (IntPost w (roZ ops).1 (roZ ops).2) := by
  have hcall := l13Code_any A n c ops w h
  have hl := h.len
  have h1 := h.cap
  have h2 := h.max
  have H := Lib.hid h
  by_cases hz : codeO ops = 0
  · obtain ⟨hok, hcc⟩ := codeO_ok hz
    rw [roZ_ok hz]
    rw [hz] at hcall
    have hn14 := hok.len
    rw [hl] at hn14
    have hends := fun W h => l13Ends_false A n c ops W h hok hcc
    have hbd := fun j => endL_bd (wtR_bd ops) hok j
    have hel := endL_len (wtR ops) hok hcc
    rw [hl] at hel
    generalize endL ops (wtR ops) = R at *
    have HC := Lib.hid hcall
    have HE := Lib.hid hends
    have HBD := Lib.hid hbd
    have HEL := Lib.hid hel
    clear hcall hends h hok hcc hz hl hbd hel
    go_enter Try.func20, Try.ntmps20
    go_wp2_with fail
    refine (HC.out).mono ?_
    rintro e w1 ⟨rfl, hb1⟩
    have H1 := Lib.hid (H.out.below hb1)
    have Hb1 := Lib.hid hb1
    clear hb1
    go_wp2_with fail
    refine (HE.out _ H1.out).mono ?_
    rintro e w2 ⟨g, rfl, ho, hb2⟩
    have HO := Lib.hid (own_base ho Hb1.out.size)
    have HB := Lib.hid (Hb1.out.trans (hb2.mono Hb1.out.size))
    have hgb := (own_block HO.out g rfl)
    clear ho hb2
    go_wp2
    go_loopw [6] (fun vj wr => ∃ j : Nat, j ≤ n ∧ vj = .int .i64 j ∧ wr.ownsRow w.heap.size 2 1 (.slice (some ⟨g, 0, none⟩) n n) n (ints (decT R j)) ∧ Below w.heap.size w wr) (fun vj _ => n - (intOf vj).toNat)
    case atStart => exact ⟨0, Nat.zero_le _, rfl, by rw [decT_zero]; exact HO.out, HB.out⟩
    case round =>
      obtain ⟨j, hj, rfl, hown, hb⟩ := hrel
      by_cases hlt : j < n
      · have hj0 : (0 : Int) ≤ (j : Int) := by omega
        have hj1 : (j : Int) < (n : Int) := by omega
        have cj := own_int hown hlt (by rw [decT_len]; exact HEL.out)
        rw [decT_at (by rw [HEL.out]; exact hlt)] at cj
        have hf := hown.frozenAt
        have hbd := HBD.out j
        have S := own_iset hown j (R.getD j 0 - 1)
        rw [decT_set (by rw [HEL.out]; exact hlt)] at S
        have b2 := hb.setCell (p := ⟨g, j, none⟩) hgb.1 (.int .i64 (R.getD j 0 - 1))
        generalize R.getD j 0 = x at *
        have HS := Lib.hid S.1
        have HB2 := Lib.hid b2
        clear S b2 hown hb
        go_wp2
        go_roundw
        case rel => exact ⟨j + 1, by omega, by go_num, HS.out, HB2.out⟩
        case measure => simp [intOf]; omega
      · have hjn : j = n := by omega
        subst hjn
        rw [decT_end (by rw [HEL.out]; exact Nat.le_refl _)] at hown
        go_wp2
        go_ret2
        exact ⟨_, _, _, rfl, hown, hb⟩
  · rw [roZ_no hz]
    generalize codeO ops = z at *
    have hne : (z != 0) = true := by simpa using hz
    have HC := Lib.hid hcall
    clear hcall h hl
    go_enter Try.func20, Try.ntmps20
    go_wp2_with fail
    refine (HC.out).mono ?_
    rintro e w1 ⟨rfl, hb1⟩
    go_wp2
    go_ret2
    exact intPost_nil hb1

set_option maxRecDepth 100000 in
set_option maxHeartbeats 2000000 in
theorem implLeastMinutes_any (A : Option Addr) (n c : Nat) (ops : List OpV) (w : World) (h : RdO w A n c ops) :
    Calls Try.prog 21 #[.slice A n c] w (fun e w' => e = .returned (.tuple #[.int .i64 (lmZ ops).1, .int .i64 (lmZ ops).2]) ∧ Below w.heap.size w w') := by
  have hcall := opsCode_any A n c ops w h
  have hl := h.len
  have h1 := h.cap
  have h2 := h.max
  have H := Lib.hid h
  by_cases hz : codeO ops = 0
  · obtain ⟨hok, hcc⟩ := codeO_ok hz
    rw [lmZ_ok hz]
    rw [hz] at hcall
    have hn14 := hok.len
    rw [hl] at hn14
    have hends := fun W h => longest_is 63 (enters_of Try.func63 (by kernel_rfl) rfl) (wtM ops) A n c ops W h hok hcc (minutes_num ops) (wtM_bd hok)
    have hbd := fun j => endL_bd (wtM_bd hok) hok j
    have hel := endL_len (wtM ops) hok hcc
    rw [hl] at hel
    generalize endL ops (wtM ops) = R at *
    have HC := Lib.hid hcall
    have HE := Lib.hid hends
    have HBD := Lib.hid hbd
    have HEL := Lib.hid hel
    clear hcall hends h hok hcc hz hl hbd hel
    go_enter Try.func21, Try.ntmps21
    go_wp2_with fail
    refine (HC.out).mono ?_
    rintro e w1 ⟨rfl, hb1⟩
    have H1 := Lib.hid (H.out.below hb1)
    have Hb1 := Lib.hid hb1
    clear hb1
    go_wp2_with fail
    refine (HE.out _ H1.out).mono ?_
    rintro e w2 ⟨g, rfl, ho, hb2⟩
    have HO := Lib.hid (own_base ho Hb1.out.size)
    have HB := Lib.hid (Hb1.out.trans (hb2.mono Hb1.out.size))
    have hgb := (own_block HO.out g rfl)
    clear ho hb2
    go_wp2
    go_loopw [5, 16] (fun vm vj wr => ∃ j : Nat, j ≤ n ∧ vj = .int .i64 j ∧ vm = .int .i64 (maxL (R.take j)) ∧ w2 = wr) (fun _ vj _ => n - (intOf vj).toNat)
    case atStart => exact ⟨0, Nat.zero_le _, rfl, rfl, rfl⟩
    case round =>
      obtain ⟨j, hj, rfl, rfl, hrel⟩ := hrel
      subst hrel
      by_cases hlt : j < n
      · have hj0 : (0 : Int) ≤ (j : Int) := by omega
        have hj1 : (j : Int) < (n : Int) := by omega
        have cj := own_int HO.out hlt HEL.out
        have hnx := maxL_take (getD_of (l := R) (j := j) (by rw [HEL.out]; exact hlt))
        generalize R.getD j 0 = x at *
        generalize maxL (R.take j) = u at *
        have HNX := Lib.hid hnx
        clear hnx
        have e5 : Hid ((if u < x then x else u) = maxL (R.take (j + 1))) := Lib.hid (by rw [HNX.out]; split <;> omega)
        go_wp2
        rw [e5.out]
        go_roundw
        case rel => exact ⟨j + 1, by omega, by go_num, rfl, by trivial⟩
        case measure => simp [intOf]; omega
      · have hjn : j = n := by omega
        subst hjn
        have htk : R.take j = R := List.take_of_length_le (by rw [HEL.out]; exact Nat.le_refl _)
        rw [htk]
        go_wp2
        go_ret2
        exact ⟨rfl, HB.out⟩
  · rw [lmZ_no hz]
    generalize codeO ops = z at *
    have hne : (z != 0) = true := by simpa using hz
    have HC := Lib.hid hcall
    clear hcall h hl
    go_enter Try.func21, Try.ntmps21
    go_wp2_with fail
    refine (HC.out).mono ?_
    rintro e w1 ⟨rfl, hb1⟩
    go_wp2
    go_ret2
    exact ⟨rfl, hb1⟩

set_option maxRecDepth 100000 in
set_option maxHeartbeats 2000000 in
theorem specLeastMinutes_any (A : Option Addr) (n c : Nat) (ops : List OpV) (w : World) (h : RdO w A n c ops) :
    Calls Try.prog 22 #[.slice A n c] w (fun e w' => e = .returned (.tuple #[.int .i64 (lmZ ops).1, .int .i64 (lmZ ops).2]) ∧ Below w.heap.size w w') := by
  have hcall := l13Code_any A n c ops w h
  have hl := h.len
  have h1 := h.cap
  have h2 := h.max
  have H := Lib.hid h
  by_cases hz : codeO ops = 0
  · obtain ⟨hok, hcc⟩ := codeO_ok hz
    rw [lmZ_ok hz]
    rw [hz] at hcall
    have hn14 := hok.len
    rw [hl] at hn14
    have hends := fun W h => l13Ends_true A n c ops W h hok hcc
    have hbd := fun j => endL_bd (wtM_bd hok) hok j
    have hel := endL_len (wtM ops) hok hcc
    rw [hl] at hel
    generalize endL ops (wtM ops) = R at *
    have HC := Lib.hid hcall
    have HE := Lib.hid hends
    have HBD := Lib.hid hbd
    have HEL := Lib.hid hel
    clear hcall hends h hok hcc hz hl hbd hel
    go_enter Try.func22, Try.ntmps22
    go_wp2_with fail
    refine (HC.out).mono ?_
    rintro e w1 ⟨rfl, hb1⟩
    have H1 := Lib.hid (H.out.below hb1)
    have Hb1 := Lib.hid hb1
    clear hb1
    go_wp2_with fail
    refine (HE.out _ H1.out).mono ?_
    rintro e w2 ⟨g, rfl, ho, hb2⟩
    have HO := Lib.hid (own_base ho Hb1.out.size)
    have HB := Lib.hid (Hb1.out.trans (hb2.mono Hb1.out.size))
    have hgb := (own_block HO.out g rfl)
    clear ho hb2
    go_wp2
    go_loopw [5, 7] (fun vm vj wr => ∃ j : Nat, j ≤ n ∧ vj = .int .i64 j ∧ vm = .int .i64 (maxL (R.take j)) ∧ w2 = wr) (fun _ vj _ => n - (intOf vj).toNat)
    case atStart => exact ⟨0, Nat.zero_le _, rfl, rfl, rfl⟩
    case round =>
      obtain ⟨j, hj, rfl, rfl, hrel⟩ := hrel
      subst hrel
      by_cases hlt : j < n
      · have hj0 : (0 : Int) ≤ (j : Int) := by omega
        have hj1 : (j : Int) < (n : Int) := by omega
        have cj := own_int HO.out hlt HEL.out
        have hnx := maxL_take (getD_of (l := R) (j := j) (by rw [HEL.out]; exact hlt))
        generalize R.getD j 0 = x at *
        generalize maxL (R.take j) = u at *
        have HNX := Lib.hid hnx
        clear hnx
        go_wp2_with (go_at_call 64; refine (l00MaxM_any _ _ _).mono ?_; rintro e w' ⟨rfl, rfl⟩)
        go_roundw
        case rel => exact ⟨j + 1, by omega, by go_num, by rw [HNX.out], by trivial⟩
        case measure => simp [intOf]; omega
      · have hjn : j = n := by omega
        subst hjn
        have htk : R.take j = R := List.take_of_length_le (by rw [HEL.out]; exact Nat.le_refl _)
        rw [htk]
        go_wp2
        go_ret2
        exact ⟨rfl, HB.out⟩
  · rw [lmZ_no hz]
    generalize codeO ops = z at *
    have hne : (z != 0) = true := by simpa using hz
    have HC := Lib.hid hcall
    clear hcall h hl
    go_enter Try.func22, Try.ntmps22
    go_wp2_with fail
    refine (HC.out).mono ?_
    rintro e w1 ⟨rfl, hb1⟩
    go_wp2
    go_ret2
    exact ⟨rfl, hb1⟩

set_option maxRecDepth 100000 in
set_option maxHeartbeats 8000000 in
theorem law_RoundsOf (A : Option Addr) (n c : Nat) (ops : List OpV) (w : World) (hA : RdO w A n c ops) :
    Calls Try.prog 14 #[.slice A n c] w fun e w' => e = .returned (.bool true) ∧ Below w.heap.size w w' := by
  have eA1 := hA.cap
  have eA2 := hA.max
  have lA := hA.len
  have hsp := fun A n c W h => specRoundsOf_any A n c ops W h
  have him := fun A n c W h => implRoundsOf_any A n c ops W h
  have hlen := roZ_len ops
  generalize (roZ ops).1 = R at *
  generalize (roZ ops).2 = z at *
  have HA := Lib.hid hA
  have HSP := Lib.hid hsp
  have HIM := Lib.hid him
  clear hA hsp him lA
  have bz : Below w.heap.size w w := Below.refl _ _
  go_enter Try.func14, Try.ntmps14
  go_wp2_with fail
  refine (szOpS_any _ _ _ ops _ _ (HA.out.below bz) (by omega) (by omega)).mono ?_
  rintro e w0 ⟨q0, rfl, hq, hbz⟩
  have b0 : Below w.heap.size w w0 := bz.trans (hbz.mono bz.size)
  clear hbz
  rcases hq with rfl | ⟨hq0, hq1, hsh⟩
  · go_wp2
    go_ret
    exact ⟨rfl, b0⟩
  have SHA := Lib.hid hsh
  have hqn : ¬ q0 < 0 := by omega
  clear hsh
  have s0 := b0.size
  go_wp2_with fail
  refine (toOpS_any A n c ops _ (HA.out.below b0) SHA.out).mono ?_
  rintro e w1 ⟨gt0, cst0, Gt0, rfl, hP, hM, hb1⟩
  have b1 : Below w.heap.size w w1 := b0.trans (hb1.mono b0.size)
  have s1 := hb1.size
  have Pt01 := Lib.hid hP
  have Mt01 := Lib.hid hM
  clear hb1 hP hM
  go_wp2_with fail
  refine (HSP.out _ _ _ _ Pt01.out).mono ?_
  rintro e w2 ⟨Aw, nw, cw, rfl, ho, hb2⟩
  have b2 : Below w.heap.size w w2 := b1.trans (hb2.mono b1.size)
  have s2 := hb2.size
  have Pt02 := Lib.hid (Pt01.out.below hb2)
  have Mt02 := Lib.hid (Mt01.out.below hb2)
  have Ow2 := Lib.hid (OwnIn.new ho)
  clear hb2 Pt01 Mt01 ho
  go_wp2_with fail
  refine (toOpS_any A n c ops _ (HA.out.below b2) SHA.out).mono ?_
  rintro e w3 ⟨gx0, csx0, Gx0, rfl, hP, hM, hb3⟩
  have b3 : Below w.heap.size w w3 := b2.trans (hb3.mono b2.size)
  have s3 := hb3.size
  have Ow3 := Lib.hid (Ow2.out.below hb3)
  have Pt03 := Lib.hid (Pt02.out.below hb3)
  have Mt03 := Lib.hid (Mt02.out.below hb3)
  have Px03 := Lib.hid hP
  have Mx03 := Lib.hid hM
  clear hb3 Ow2 Pt02 Mt02 hP hM
  go_wp2_with fail
  refine (HIM.out _ _ _ _ Px03.out).mono ?_
  rintro e w4 ⟨Ag, ng, cg, rfl, ho, hb4⟩
  have b4 : Below w.heap.size w w4 := b3.trans (hb4.mono b3.size)
  have s4 := hb4.size
  have Ow4 := Lib.hid (Ow3.out.below hb4)
  have Pt04 := Lib.hid (Pt03.out.below hb4)
  have Mt04 := Lib.hid (Mt03.out.below hb4)
  have Px04 := Lib.hid (Px03.out.below hb4)
  have Mx04 := Lib.hid (Mx03.out.below hb4)
  have Og4 := Lib.hid (OwnIn.new ho)
  clear hb4 Ow3 Pt03 Mt03 Px03 Mx03 ho
  have lg := Og4.out.ilen
  go_wp2_with fail
  refine (eqInt64S_any _ _ _ R _ _ _ R _ Og4.out.rd Ow4.out.rd).mono ?_
  rw [eqL_self]
  rintro e w5 ⟨rfl, hb5⟩
  have b5 : Below w.heap.size w w5 := b4.trans (hb5.mono b4.size)
  have s5 := hb5.size
  have Ow5 := Lib.hid (Ow4.out.below hb5)
  have Og5 := Lib.hid (Og4.out.below hb5)
  have Pt05 := Lib.hid (Pt04.out.below hb5)
  have Mt05 := Lib.hid (Mt04.out.below hb5)
  have Px05 := Lib.hid (Px04.out.below hb5)
  have Mx05 := Lib.hid (Mx04.out.below hb5)
  clear hb5 Ow4 Og4 Pt04 Mt04 Px04 Mx04
  go_wp2_with fail
  refine (toOpS_any A n c ops _ (HA.out.below b5) SHA.out).mono ?_
  rintro e w6 ⟨gy0, csy0, Gy0, rfl, hP, hM, hb6⟩
  have b6 : Below w.heap.size w w6 := b5.trans (hb6.mono b5.size)
  have s6 := hb6.size
  have Ow6 := Lib.hid (Ow5.out.below hb6)
  have Og6 := Lib.hid (Og5.out.below hb6)
  have Pt06 := Lib.hid (Pt05.out.below hb6)
  have Mt06 := Lib.hid (Mt05.out.below hb6)
  have Px06 := Lib.hid (Px05.out.below hb6)
  have Mx06 := Lib.hid (Mx05.out.below hb6)
  have Py06 := Lib.hid hP
  have My06 := Lib.hid hM
  clear hb6 Ow5 Og5 Pt05 Mt05 Px05 Mx05 hP hM
  go_wp2_with fail
  refine (eqOpS_any _ _ _ _ _ ops _ Px06.out Py06.out).mono ?_
  rintro e w7 ⟨rfl, hb7⟩
  have b7 : Below w.heap.size w w7 := b6.trans (hb7.mono b6.size)
  have s7 := hb7.size
  have Ow7 := Lib.hid (Ow6.out.below hb7)
  have Og7 := Lib.hid (Og6.out.below hb7)
  have Pt07 := Lib.hid (Pt06.out.below hb7)
  have Mt07 := Lib.hid (Mt06.out.below hb7)
  have Px07 := Lib.hid (Px06.out.below hb7)
  have Mx07 := Lib.hid (Mx06.out.below hb7)
  have Py07 := Lib.hid (Py06.out.below hb7)
  have My07 := Lib.hid (My06.out.below hb7)
  clear hb7 Ow6 Og6 Pt06 Mt06 Px06 Mx06 Py06 My06
  go_wp2_with fail
  refine (markOpS_any _ _ _ _ _ _ _ _ Mx07.out SHA.out.1).mono ?_
  rintro e w8 ⟨⟨z8, rfl, z80, z81⟩, hout⟩
  have b8 : Below w.heap.size w w8 := Out.below b7 hout (by omega) b7.size
  have s8 := hout.size
  have Ow8 := Lib.hid (Ow7.out.out hout (by omega))
  have Og8 := Lib.hid (Og7.out.out hout (by omega))
  clear hout Ow7 Og7 Pt07 Mt07 Px07 Mx07 Py07 My07
  go_wp2_with fail
  refine (eqInt64S_any _ _ _ R _ _ _ R _ Og8.out.rd Ow8.out.rd).mono ?_
  rw [eqL_self]
  rintro e w9 ⟨rfl, hb9⟩
  have b9 : Below w.heap.size w w9 := b8.trans (hb9.mono b8.size)
  have s9 := hb9.size
  have Ow9 := Lib.hid (Ow8.out.below hb9)
  have Og9 := Lib.hid (Og8.out.below hb9)
  clear hb9 Ow8 Og8
  go_wp2_with fail
  refine (markInt64S_any _ _ _ _ R 1 _ Og9.out.own (by omega) (by omega)).mono ?_
  rintro e w10 ⟨rfl, ho, hg⟩
  have b10 : Below w.heap.size w w10 := Og9.out.base b9 hg (by omega) (Nat.le_refl _)
  have s10 := hg.size
  have Ow10 := Lib.hid (Ow9.out.other Og9.out hg (by omega))
  have Og10 := Lib.hid (Og9.out.self ho hg)
  clear ho hg Ow9 Og9
  go_wp2_with fail
  refine (heldInt64S_any _ _ _ 1 _ Og10.out.rd (by omega) (by omega)).mono ?_
  rintro e wz ⟨rfl, rfl⟩
  go_wp2_with fail
  refine (toOpS_any A n c ops _ (HA.out.below b10) SHA.out).mono ?_
  rintro e w11 ⟨gz0, csz0, Gz0, rfl, hP, hM, hb11⟩
  have b11 : Below w.heap.size w w11 := b10.trans (hb11.mono b10.size)
  have s11 := hb11.size
  have Ow11 := Lib.hid (Ow10.out.below hb11)
  have Og11 := Lib.hid (Og10.out.below hb11)
  have Pz011 := Lib.hid hP
  have Mz011 := Lib.hid hM
  clear hb11 Ow10 Og10 hP hM
  go_wp2_with fail
  refine (HIM.out _ _ _ _ Pz011.out).mono ?_
  rintro e w12 ⟨Ah, nh, ch, rfl, ho, hb12⟩
  have b12 : Below w.heap.size w w12 := b11.trans (hb12.mono b11.size)
  have s12 := hb12.size
  have Ow12 := Lib.hid (Ow11.out.below hb12)
  have Og12 := Lib.hid (Og11.out.below hb12)
  have Pz012 := Lib.hid (Pz011.out.below hb12)
  have Mz012 := Lib.hid (Mz011.out.below hb12)
  have Oh12 := Lib.hid (OwnIn.new ho)
  clear hb12 Ow11 Og11 Pz011 Mz011 ho
  go_wp2_with fail
  refine (eqInt64S_any _ _ _ R _ _ _ R _ Oh12.out.rd Ow12.out.rd).mono ?_
  rw [eqL_self]
  rintro e w13 ⟨rfl, hb13⟩
  have b13 : Below w.heap.size w w13 := b12.trans (hb13.mono b12.size)
  have s13 := hb13.size
  have Ow13 := Lib.hid (Ow12.out.below hb13)
  have Og13 := Lib.hid (Og12.out.below hb13)
  have Oh13 := Lib.hid (Oh12.out.below hb13)
  have Pz013 := Lib.hid (Pz012.out.below hb13)
  have Mz013 := Lib.hid (Mz012.out.below hb13)
  clear hb13 Ow12 Og12 Oh12 Pz012 Mz012
  go_wp2_with fail
  refine (heldInt64S_any _ _ _ 1 _ Og13.out.rd (by omega) (by omega)).mono ?_
  rintro e wz ⟨rfl, rfl⟩
  go_wp2_with fail
  go_ret
  exact ⟨rfl, b13⟩

set_option maxRecDepth 100000 in
set_option maxHeartbeats 8000000 in
theorem law_LeastMinutes (A : Option Addr) (n c : Nat) (ops : List OpV) (w : World) (hA : RdO w A n c ops) :
    Calls Try.prog 11 #[.slice A n c] w fun e w' => e = .returned (.bool true) ∧ Below w.heap.size w w' := by
  have eA1 := hA.cap
  have eA2 := hA.max
  have lA := hA.len
  have hsp := fun A n c W h => specLeastMinutes_any A n c ops W h
  have him := fun A n c W h => implLeastMinutes_any A n c ops W h
  generalize (lmZ ops).1 = R at *
  generalize (lmZ ops).2 = z at *
  have HA := Lib.hid hA
  have HSP := Lib.hid hsp
  have HIM := Lib.hid him
  clear hA hsp him lA
  have bz : Below w.heap.size w w := Below.refl _ _
  go_enter Try.func11, Try.ntmps11
  go_wp2_with fail
  refine (szOpS_any _ _ _ ops _ _ (HA.out.below bz) (by omega) (by omega)).mono ?_
  rintro e w0 ⟨q0, rfl, hq, hbz⟩
  have b0 : Below w.heap.size w w0 := bz.trans (hbz.mono bz.size)
  clear hbz
  rcases hq with rfl | ⟨hq0, hq1, hsh⟩
  · go_wp2
    go_ret
    exact ⟨rfl, b0⟩
  have SHA := Lib.hid hsh
  have hqn : ¬ q0 < 0 := by omega
  clear hsh
  have s0 := b0.size
  go_wp2_with fail
  refine (toOpS_any A n c ops _ (HA.out.below b0) SHA.out).mono ?_
  rintro e w1 ⟨gt0, cst0, Gt0, rfl, hP, hM, hb1⟩
  have b1 : Below w.heap.size w w1 := b0.trans (hb1.mono b0.size)
  have s1 := hb1.size
  have Pt01 := Lib.hid hP
  have Mt01 := Lib.hid hM
  clear hb1 hP hM
  go_wp2_with fail
  refine (HSP.out _ _ _ _ Pt01.out).mono ?_
  rintro e w2 ⟨rfl, hb2⟩
  have b2 : Below w.heap.size w w2 := b1.trans (hb2.mono b1.size)
  have s2 := hb2.size
  have Pt02 := Lib.hid (Pt01.out.below hb2)
  have Mt02 := Lib.hid (Mt01.out.below hb2)
  clear hb2 Pt01 Mt01
  go_wp2_with fail
  refine (toOpS_any A n c ops _ (HA.out.below b2) SHA.out).mono ?_
  rintro e w3 ⟨gx0, csx0, Gx0, rfl, hP, hM, hb3⟩
  have b3 : Below w.heap.size w w3 := b2.trans (hb3.mono b2.size)
  have s3 := hb3.size
  have Pt03 := Lib.hid (Pt02.out.below hb3)
  have Mt03 := Lib.hid (Mt02.out.below hb3)
  have Px03 := Lib.hid hP
  have Mx03 := Lib.hid hM
  clear hb3 Pt02 Mt02 hP hM
  go_wp2_with fail
  refine (HIM.out _ _ _ _ Px03.out).mono ?_
  rintro e w4 ⟨rfl, hb4⟩
  have b4 : Below w.heap.size w w4 := b3.trans (hb4.mono b3.size)
  have s4 := hb4.size
  have Pt04 := Lib.hid (Pt03.out.below hb4)
  have Mt04 := Lib.hid (Mt03.out.below hb4)
  have Px04 := Lib.hid (Px03.out.below hb4)
  have Mx04 := Lib.hid (Mx03.out.below hb4)
  clear hb4 Pt03 Mt03 Px03 Mx03
  go_wp2_with fail
  refine (toOpS_any A n c ops _ (HA.out.below b4) SHA.out).mono ?_
  rintro e w5 ⟨gy0, csy0, Gy0, rfl, hP, hM, hb5⟩
  have b5 : Below w.heap.size w w5 := b4.trans (hb5.mono b4.size)
  have s5 := hb5.size
  have Pt05 := Lib.hid (Pt04.out.below hb5)
  have Mt05 := Lib.hid (Mt04.out.below hb5)
  have Px05 := Lib.hid (Px04.out.below hb5)
  have Mx05 := Lib.hid (Mx04.out.below hb5)
  have Py05 := Lib.hid hP
  have My05 := Lib.hid hM
  clear hb5 Pt04 Mt04 Px04 Mx04 hP hM
  go_wp2_with fail
  refine (eqOpS_any _ _ _ _ _ ops _ Px05.out Py05.out).mono ?_
  rintro e w6 ⟨rfl, hb6⟩
  have b6 : Below w.heap.size w w6 := b5.trans (hb6.mono b5.size)
  have s6 := hb6.size
  have Pt06 := Lib.hid (Pt05.out.below hb6)
  have Mt06 := Lib.hid (Mt05.out.below hb6)
  have Px06 := Lib.hid (Px05.out.below hb6)
  have Mx06 := Lib.hid (Mx05.out.below hb6)
  have Py06 := Lib.hid (Py05.out.below hb6)
  have My06 := Lib.hid (My05.out.below hb6)
  clear hb6 Pt05 Mt05 Px05 Mx05 Py05 My05
  go_wp2_with fail
  go_ret
  exact ⟨rfl, b6⟩

end Go.Proofs.Ytgghjieeckkpbaa
