/- Ends and waits: EndsOf, WaitsOf (program, reference), and their laws. Printed by mken.py. -/
import Derived.Test.YtfjmohnlllbgmaaSp
import Derived.Deep.RegionHeld3
import Derived.Deep.AppendLies
import Derived.IntWalk
namespace Go.Proofs.Ytfjmohnlllbgmaa
open Go.RowKit Go.Shelf

def endsZ (ps : List (Int × Int)) (os : List Int) : List Int × Int := if codeJ ps os = 0 then ((timK ps os os.length).S, 0) else ([], codeJ ps os)
def waitL (t : Tim) : List Int := (List.range t.S.length).map fun i => t.B.getD i 0 - t.F.getD i 0
def waitsZ (ps : List (Int × Int)) (os : List Int) : List Int × Int := if codeJ ps os = 0 then (waitL (timK ps os os.length), 0) else ([], codeJ ps os)
theorem tim_len (ps : List (Int × Int)) (os : List Int) : ∀ k, (timK ps os k).F.length = ps.length ∧ (timK ps os k).B.length = ps.length ∧ (timK ps os k).S.length = ps.length
  | 0 => by simp [timK]
  | k + 1 => by
    have ih := tim_len ps os k
    unfold timK
    split
    · split
      · simp [Tim.step, ih]
      · exact ih
    · exact ih
theorem ends_len {ps : List (Int × Int)} {os : List Int} : (endsZ ps os).1.length ≤ ps.length := by
  unfold endsZ
  split
  · rw [(tim_len ps os _).2.2]; exact Nat.le_refl _
  · simp
theorem waits_len {ps : List (Int × Int)} {os : List Int} : (waitsZ ps os).1.length ≤ ps.length := by
  unfold waitsZ
  split
  · unfold waitL; rw [List.length_map, List.length_range, (tim_len ps os _).2.2]; exact Nat.le_refl _
  · simp
/-- With a whole order, each job has come: ends are begins and the times. -/
theorem tim_all {ps : List (Int × Int)} {os : List Int} {n : Nat} (hl : ps.length = n) (hp : os.Perm (upto n)) {i : Nat} (hi : i < n) : (timK ps os n).S.getD i 0 = (timK ps os n).B.getD i 0 + (jobF ps (i : Int)).2 ∧ (timK ps os n).F.getD i 0 ≤ (timK ps os n).B.getD i 0 := by
  obtain ⟨hlo, hin⟩ := perm_in hp
  refine tim_rel (fun j x hx => by have := hin j x hx; omega) n (by omega) i ?_
  rw [List.take_of_length_le (by omega)]
  exact hp.symm.subset (upto_mem'.2 ⟨by omega, by omega⟩)
theorem drop_consD {l : List Int} {k : Nat} (hk : k < l.length) : l.drop k = l.getD k 0 :: l.drop (k + 1) := by
  rw [List.drop_eq_getElem_cons hk]
  simp [List.getD, List.getElem?_eq_getElem hk]
theorem take_snocD {l : List Int} {k : Nat} (hk : k < l.length) : l.take (k + 1) = l.take k ++ [l.getD k 0] := by
  rw [List.take_add_one, getD_of hk]
  rfl
/-- Turning a list into another one, from the left. -/
theorem turn_set {l m : List Int} {k : Nat} (hk : k < l.length) (hm : l.length = m.length) : (l.take k ++ m.drop k).set k (l.getD k 0) = l.take (k + 1) ++ m.drop (k + 1) := by
  rw [drop_consD (l := m) (by omega), take_snocD hk, List.set_append_right _ _ (by simp; omega)]
  simp only [List.length_take, Nat.min_eq_left (by omega : k ≤ l.length), Nat.sub_self, List.set_cons_zero, List.append_assoc, List.cons_append, List.nil_append]
theorem turn_get {l m : List Int} {k : Nat} (hk : k < l.length) : (l.take k ++ m.drop k).getD k 0 = m.getD k 0 := by
  simp only [List.getD]
  rw [List.getElem?_append_right (by simp; omega), List.getElem?_drop, List.length_take, Nat.min_eq_left (by omega)]
  congr 2
  omega
theorem turn_len {l m : List Int} {k : Nat} (hm : l.length = m.length) : (l.take k ++ m.drop k).length = m.length := by simp; omega

set_option maxRecDepth 100000 in
set_option maxHeartbeats 4000000 in
theorem implEndsOf_any (A : Option Addr) (n c : Nat) (ps : List (Int × Int)) (B : Option Addr) (m d : Nat) (os : List Int) (w : World) (h : Rd w 2 A n c (pr ps)) (hB : Rd w 1 B m d (ints os)) (hm : m ≤ 1048576) :
    Calls Try.prog 42 #[.slice A n c, .slice B m d] w (IntPost w (endsZ ps os).1 (endsZ ps os).2) := by
  have hl := h.plen
  have hlo := hB.ilen
  have h1 := h.cap
  have h2 := h.max
  have h3 := hB.cap
  have h4 := hB.max
  have hcall := fun W h hB => jobsCode_any A n c ps B m d os W h hB hm
  unfold endsZ
  by_cases hz : codeJ ps os = 0
  · rw [if_pos hz]
    obtain ⟨hj, hp⟩ := codeJ_ok hz
    obtain ⟨hon, hin⟩ := perm_in hp
    have hn7 := hj.len
    have hmn : m = n := by omega
    subst hmn
    have hn7' : m ≤ 7 := by omega
    have hin' : ∀ (j : Nat) (i : Int), os[j]? = some i → 0 ≤ i ∧ i < m := fun j i hi => by have := hin j i hi; omega
    rw [hz] at hcall
    rw [hlo]
    have hf := fun W h hB => run_any A m c ps B m d os W h hB hj hn7' hin'
    generalize timK ps os m = t at *
    have HF := Lib.hid hf
    clear hf
    have HC := Lib.hid hcall
    have H := Lib.hid h
    have HB := Lib.hid hB
    have HJ := Lib.hid hj
    have HI := Lib.hid hin'
    have HP := Lib.hid hp
    clear hcall h hB hj hp hin hin' hz hl hlo hon hn7
    go_enter Try.func42, Try.ntmps42
    go_wp2_with fail
    refine (HC.out _ H.out HB.out).mono ?_
    rintro e w1 ⟨rfl, hb1⟩
    have H1 := Lib.hid (H.out.below hb1)
    have B1 := Lib.hid (HB.out.below hb1)
    have Hb1 := Lib.hid hb1
    have hs1 := hb1.size
    clear hb1
    go_wp2_with fail
    refine (HF.out _ H1.out B1.out).mono ?_
    rintro e w2 ⟨g1, g2, rfl, _, _, ho2, hb2⟩
    have HO := Lib.hid (own_base ho2 hs1)
    clear ho2
    go_wp2
    go_ret2
    exact ⟨_, _, _, rfl, HO.out, Hb1.out.trans (hb2.mono hs1)⟩
  · rw [if_neg hz]
    have hne : (codeJ ps os != 0) = true := by simpa using hz
    generalize codeJ ps os = z at *
    have HC := Lib.hid hcall
    have H := Lib.hid h
    have HB := Lib.hid hB
    clear hcall h hB hl hlo hz
    go_enter Try.func42, Try.ntmps42
    go_wp2_with fail
    refine (HC.out _ H.out HB.out).mono ?_
    rintro e w1 ⟨rfl, hb1⟩
    go_wp2
    go_ret2
    exact intPost_nil hb1

set_option maxRecDepth 100000 in
set_option maxHeartbeats 4000000 in
theorem specEndsOf_any (A : Option Addr) (n c : Nat) (ps : List (Int × Int)) (B : Option Addr) (m d : Nat) (os : List Int) (w : World) (h : Rd w 2 A n c (pr ps)) (hB : Rd w 1 B m d (ints os)) :
    Calls Try.prog 41 #[.slice A n c, .slice B m d] w (IntPost w (endsZ ps os).1 (endsZ ps os).2) := by
  have hl := h.plen
  have hlo := hB.ilen
  have h1 := h.cap
  have h2 := h.max
  have h3 := hB.cap
  have h4 := hB.max
  have hcall := fun W h hB => l14Code_any A n c ps B m d os W h hB
  unfold endsZ
  by_cases hz : codeJ ps os = 0
  · rw [if_pos hz]
    obtain ⟨hj, hp⟩ := codeJ_ok hz
    obtain ⟨hon, hin⟩ := perm_in hp
    have hn7 := hj.len
    have hmn : m = n := by omega
    subst hmn
    have hn7' : m ≤ 7 := by omega
    have hin' : ∀ (j : Nat) (i : Int), os[j]? = some i → 0 ≤ i ∧ i < m := fun j i hi => by have := hin j i hi; omega
    rw [hz] at hcall
    rw [hlo]
    have hT := timB_all (os := os) hj hin m (by omega)
    rw [hl] at hT
    have hta := fun i hi => tim_all (ps := ps) (os := os) (n := m) (i := i) hl (by have := hp; rw [hl] at this; exact this) hi
    have hf := fun W h hB => l14Times_any A m c ps B m d os W h hB hj hn7' hin'
    have hXL : (timK ps os m).S.length = m := hT.sl
    have hXV : ∀ k, k < m → (timK ps os m).S.getD k 0 = (timK ps os m).B.getD k 0 + (jobF ps (k : Int)).2 := fun k hk => (hta k hk).1
    generalize timK ps os m = t at *
    generalize t.S = X at *
    have HF := Lib.hid hf
    have HT := Lib.hid hT
    have HXL := Lib.hid hXL
    have HXV := Lib.hid hXV
    clear hf hT hXL hXV hta
    have HC := Lib.hid hcall
    have H := Lib.hid h
    have HB := Lib.hid hB
    have HJ := Lib.hid hj
    have HI := Lib.hid hin'
    have HP := Lib.hid hp
    clear hcall h hB hj hp hin hin' hz hl hlo hon hn7
    go_enter Try.func41, Try.ntmps41
    go_wp2_with fail
    refine (HC.out _ H.out HB.out).mono ?_
    rintro e w1 ⟨rfl, hb1⟩
    have H1 := Lib.hid (H.out.below hb1)
    have B1 := Lib.hid (HB.out.below hb1)
    have Hb1 := Lib.hid hb1
    have hs1 := hb1.size
    clear hb1
    go_wp2_with fail
    refine (HF.out _ H1.out B1.out).mono ?_
    rintro e w2 ⟨g1, g2, rfl, hne, ho1, ho2, hb2⟩
    have hg1 := (own_block ho1 g1 rfl)
    have hg2 := (own_block ho2 g2 rfl)
    have HO1 := Lib.hid (own_base ho1 hs1)
    have HO2 := Lib.hid (own_base ho2 hs1)
    have Hb2 := Lib.hid (Hb1.out.trans (hb2.mono hs1))
    clear ho1 ho2 hb2
    go_wp2_with fail
    go_loopw [10] (fun vi wr => ∃ k : Nat, k ≤ m ∧ vi = .int .i64 k ∧ wr.ownsRow w.heap.size 2 1 (.slice (some ⟨g1, 0, none⟩) m m) m (ints t.F) ∧ wr.ownsRow w.heap.size 2 1 (.slice (some ⟨g2, 0, none⟩) m m) m (ints (X.take k ++ t.B.drop k)) ∧ Below w.heap.size w wr) (fun vi _ => m - (intOf vi).toNat)
    case atStart => exact ⟨0, Nat.zero_le _, rfl, HO1.out, by simpa using HO2.out, Hb2.out⟩
    case round =>
      obtain ⟨k, hk, rfl, hown1, hown2, hb⟩ := hrel
      by_cases hlt : k < m
      · have hk0 : (0 : Int) ≤ (k : Int) := by omega
        have hk1 : (k : Int) < (m : Int) := by omega
        have hkd : decide ((k : Int) < (m : Int)) = true := decide_eq_true hk1
        have hXk : k < X.length := by rw [HXL.out]; exact hlt
        have hXm : X.length = t.B.length := by rw [HXL.out, HT.out.bl]
        have c2 := own_int hown2 (i := k) hlt (by rw [turn_len hXm, HT.out.bl])
        rw [turn_get hXk] at c2
        have c1 := own_int hown1 (i := k) hlt HT.out.fl
        have hXV := HXV.out k hlt
        have hbB := HT.out.bb k _ (getD_of (by rw [HT.out.bl]; exact hlt))
        have hbF := HT.out.fb k _ (getD_of (by rw [HT.out.fl]; exact hlt))
        obtain ⟨b, o, x, y, hA, hbl, hx, hc1, hc2⟩ := H.out.pair hlt
        subst hA
        have c3 := (hb.cell (p := ⟨b, o + k * 2 + 1, none⟩) hbl).trans hc2
        have hjob := (HJ.out.job k _ hx).2
        rw [jobF_at hx] at hXV
        simp only at hjob hXV
        obtain ⟨u2, G2⟩ := own_iset hown2 k (X.getD k 0)
        rw [turn_set hXk hXm] at u2
        rw [hXV] at u2 G2
        have f2 := hown2.frozenAt
        have u1 := own_other hown1 G2 (by omega)
        have bb : Below w.heap.size w (wr.setCell ⟨g2, k, none⟩ (.int .i64 (t.B.getD k 0 + y))) := hb.setCell (show w.heap.size ≤ g2 by omega) _
        generalize t.B.getD k 0 = vb at *
        generalize t.F.getD k 0 = vf at *
        have P1 := Lib.hid u1.drew
        have P2 := Lib.hid u2.drew
        have PB := Lib.hid bb.drew
        clear hown1 hown2 hb hx hc1 hc2 hXk hXm hXV u1 u2 G2 bb
        go_wp2
        go_region
        go_wp2
        go_roundw
        case rel => exact ⟨k + 1, by omega, by go_num, P1.out, P2.out, PB.out⟩
        case measure => simp [intOf]; omega
      · have : k = m := by omega
        subst this
        rw [List.take_of_length_le (by rw [HXL.out]; exact Nat.le_refl _), List.drop_of_length_le (by rw [HT.out.bl]; exact Nat.le_refl _), List.append_nil] at hown2
        have HO := Lib.hid hown2
        clear hown2 hown1
        go_wp2
        go_ret2
        exact ⟨_, _, _, rfl, HO.out, hb⟩
  · rw [if_neg hz]
    have hne : (codeJ ps os != 0) = true := by simpa using hz
    generalize codeJ ps os = z at *
    have HC := Lib.hid hcall
    have H := Lib.hid h
    have HB := Lib.hid hB
    clear hcall h hB hl hlo hz
    go_enter Try.func41, Try.ntmps41
    go_wp2_with fail
    refine (HC.out _ H.out HB.out).mono ?_
    rintro e w1 ⟨rfl, hb1⟩
    go_wp2
    go_ret2
    exact intPost_nil hb1

set_option maxRecDepth 100000 in
set_option maxHeartbeats 4000000 in
theorem specWaitsOf_any (A : Option Addr) (n c : Nat) (ps : List (Int × Int)) (B : Option Addr) (m d : Nat) (os : List Int) (w : World) (h : Rd w 2 A n c (pr ps)) (hB : Rd w 1 B m d (ints os)) :
    Calls Try.prog 49 #[.slice A n c, .slice B m d] w (IntPost w (waitsZ ps os).1 (waitsZ ps os).2) := by
  have hl := h.plen
  have hlo := hB.ilen
  have h1 := h.cap
  have h2 := h.max
  have h3 := hB.cap
  have h4 := hB.max
  have hcall := fun W h hB => l14Code_any A n c ps B m d os W h hB
  unfold waitsZ
  by_cases hz : codeJ ps os = 0
  · rw [if_pos hz]
    obtain ⟨hj, hp⟩ := codeJ_ok hz
    obtain ⟨hon, hin⟩ := perm_in hp
    have hn7 := hj.len
    have hmn : m = n := by omega
    subst hmn
    have hn7' : m ≤ 7 := by omega
    have hin' : ∀ (j : Nat) (i : Int), os[j]? = some i → 0 ≤ i ∧ i < m := fun j i hi => by have := hin j i hi; omega
    rw [hz] at hcall
    rw [hlo]
    have hT := timB_all (os := os) hj hin m (by omega)
    rw [hl] at hT
    have hta := fun i hi => tim_all (ps := ps) (os := os) (n := m) (i := i) hl (by have := hp; rw [hl] at this; exact this) hi
    have hf := fun W h hB => l14Times_any A m c ps B m d os W h hB hj hn7' hin'
    have hXL : (waitL (timK ps os m)).length = m := by unfold waitL; rw [List.length_map, List.length_range, hT.sl]
    have hXV : ∀ k, k < m → (waitL (timK ps os m)).getD k 0 = (timK ps os m).B.getD k 0 - (timK ps os m).F.getD k 0 := fun k hk => by
      unfold waitL
      simp [List.getD, hT.sl, hk]
    generalize timK ps os m = t at *
    generalize waitL t = X at *
    have HF := Lib.hid hf
    have HT := Lib.hid hT
    have HXL := Lib.hid hXL
    have HXV := Lib.hid hXV
    clear hf hT hXL hXV hta
    have HC := Lib.hid hcall
    have H := Lib.hid h
    have HB := Lib.hid hB
    have HJ := Lib.hid hj
    have HI := Lib.hid hin'
    have HP := Lib.hid hp
    clear hcall h hB hj hp hin hin' hz hl hlo hon hn7
    go_enter Try.func49, Try.ntmps49
    go_wp2_with fail
    refine (HC.out _ H.out HB.out).mono ?_
    rintro e w1 ⟨rfl, hb1⟩
    have H1 := Lib.hid (H.out.below hb1)
    have B1 := Lib.hid (HB.out.below hb1)
    have Hb1 := Lib.hid hb1
    have hs1 := hb1.size
    clear hb1
    go_wp2_with fail
    refine (HF.out _ H1.out B1.out).mono ?_
    rintro e w2 ⟨g1, g2, rfl, hne, ho1, ho2, hb2⟩
    have hg1 := (own_block ho1 g1 rfl)
    have hg2 := (own_block ho2 g2 rfl)
    have HO1 := Lib.hid (own_base ho1 hs1)
    have HO2 := Lib.hid (own_base ho2 hs1)
    have Hb2 := Lib.hid (Hb1.out.trans (hb2.mono hs1))
    clear ho1 ho2 hb2
    go_wp2_with fail
    go_loopw [10] (fun vi wr => ∃ k : Nat, k ≤ m ∧ vi = .int .i64 k ∧ wr.ownsRow w.heap.size 2 1 (.slice (some ⟨g1, 0, none⟩) m m) m (ints t.F) ∧ wr.ownsRow w.heap.size 2 1 (.slice (some ⟨g2, 0, none⟩) m m) m (ints (X.take k ++ t.B.drop k)) ∧ Below w.heap.size w wr) (fun vi _ => m - (intOf vi).toNat)
    case atStart => exact ⟨0, Nat.zero_le _, rfl, HO1.out, by simpa using HO2.out, Hb2.out⟩
    case round =>
      obtain ⟨k, hk, rfl, hown1, hown2, hb⟩ := hrel
      by_cases hlt : k < m
      · have hk0 : (0 : Int) ≤ (k : Int) := by omega
        have hk1 : (k : Int) < (m : Int) := by omega
        have hkd : decide ((k : Int) < (m : Int)) = true := decide_eq_true hk1
        have hXk : k < X.length := by rw [HXL.out]; exact hlt
        have hXm : X.length = t.B.length := by rw [HXL.out, HT.out.bl]
        have c2 := own_int hown2 (i := k) hlt (by rw [turn_len hXm, HT.out.bl])
        rw [turn_get hXk] at c2
        have c1 := own_int hown1 (i := k) hlt HT.out.fl
        have hXV := HXV.out k hlt
        have hbB := HT.out.bb k _ (getD_of (by rw [HT.out.bl]; exact hlt))
        have hbF := HT.out.fb k _ (getD_of (by rw [HT.out.fl]; exact hlt))
        obtain ⟨b, o, x, y, hA, hbl, hx, hc1, hc2⟩ := H.out.pair hlt
        subst hA
        have c3 := (hb.cell (p := ⟨b, o + k * 2 + 1, none⟩) hbl).trans hc2
        have hjob := (HJ.out.job k _ hx).2
        simp only at hjob
        obtain ⟨u2, G2⟩ := own_iset hown2 k (X.getD k 0)
        rw [turn_set hXk hXm] at u2
        rw [hXV] at u2 G2
        have f2 := hown2.frozenAt
        have u1 := own_other hown1 G2 (by omega)
        have bb : Below w.heap.size w (wr.setCell ⟨g2, k, none⟩ (.int .i64 (t.B.getD k 0 - t.F.getD k 0))) := hb.setCell (show w.heap.size ≤ g2 by omega) _
        generalize t.B.getD k 0 = vb at *
        generalize t.F.getD k 0 = vf at *
        have P1 := Lib.hid u1.drew
        have P2 := Lib.hid u2.drew
        have PB := Lib.hid bb.drew
        clear hown1 hown2 hb hx hc1 hc2 hXk hXm hXV u1 u2 G2 bb
        go_wp2
        go_region
        go_wp2
        go_roundw
        case rel => exact ⟨k + 1, by omega, by go_num, P1.out, P2.out, PB.out⟩
        case measure => simp [intOf]; omega
      · have : k = m := by omega
        subst this
        rw [List.take_of_length_le (by rw [HXL.out]; exact Nat.le_refl _), List.drop_of_length_le (by rw [HT.out.bl]; exact Nat.le_refl _), List.append_nil] at hown2
        have HO := Lib.hid hown2
        clear hown2 hown1
        go_wp2
        go_ret2
        exact ⟨_, _, _, rfl, HO.out, hb⟩
  · rw [if_neg hz]
    have hne : (codeJ ps os != 0) = true := by simpa using hz
    generalize codeJ ps os = z at *
    have HC := Lib.hid hcall
    have H := Lib.hid h
    have HB := Lib.hid hB
    clear hcall h hB hl hlo hz
    go_enter Try.func49, Try.ntmps49
    go_wp2_with fail
    refine (HC.out _ H.out HB.out).mono ?_
    rintro e w1 ⟨rfl, hb1⟩
    go_wp2
    go_ret2
    exact intPost_nil hb1

set_option maxRecDepth 100000 in
set_option maxHeartbeats 4000000 in
theorem implWaitsOf_any (A : Option Addr) (n c : Nat) (ps : List (Int × Int)) (B : Option Addr) (m d : Nat) (os : List Int) (w : World) (h : Rd w 2 A n c (pr ps)) (hB : Rd w 1 B m d (ints os)) (hm : m ≤ 1048576) :
    Calls Try.prog 43 #[.slice A n c, .slice B m d] w (IntPost w (waitsZ ps os).1 (waitsZ ps os).2) := by
  have hl := h.plen
  have hlo := hB.ilen
  have h1 := h.cap
  have h2 := h.max
  have h3 := hB.cap
  have h4 := hB.max
  have hcall := fun W h hB => jobsCode_any A n c ps B m d os W h hB hm
  unfold waitsZ
  by_cases hz : codeJ ps os = 0
  · rw [if_pos hz]
    obtain ⟨hj, hp⟩ := codeJ_ok hz
    obtain ⟨hon, hin⟩ := perm_in hp
    have hn7 := hj.len
    have hmn : m = n := by omega
    subst hmn
    have hn7' : m ≤ 7 := by omega
    have hin' : ∀ (j : Nat) (i : Int), os[j]? = some i → 0 ≤ i ∧ i < m := fun j i hi => by have := hin j i hi; omega
    rw [hz] at hcall
    rw [hlo]
    have hT := timB_all (os := os) hj hin m (by omega)
    rw [hl] at hT
    have hta := fun i hi => tim_all (ps := ps) (os := os) (n := m) (i := i) hl (by have := hp; rw [hl] at this; exact this) hi
    obtain ⟨i0, hi, hz0, hz1, hz2⟩ := info_parts info_i64r
    have hf := fun W h hB => run_any A m c ps B m d os W h hB hj hn7' hin'
    have hXL : (waitL (timK ps os m)).length = m := by unfold waitL; rw [List.length_map, List.length_range, hT.sl]
    have hXV : ∀ k, k < m → (waitL (timK ps os m)).getD k 0 = (timK ps os m).S.getD k 0 - (jobF ps (k : Int)).2 - (timK ps os m).F.getD k 0 := fun k hk => by
      have := (hta k hk).1
      unfold waitL
      simp only [List.getD, List.getElem?_map, List.getElem?_range, hT.sl, hk] at this ⊢
      simp only [Option.map_some, Option.getD_some]
      omega
    generalize timK ps os m = t at *
    generalize waitL t = X at *
    have HF := Lib.hid hf
    have HT := Lib.hid hT
    have HXL := Lib.hid hXL
    have HXV := Lib.hid hXV
    clear hf hT hXL hXV hta
    have HC := Lib.hid hcall
    have H := Lib.hid h
    have HB := Lib.hid hB
    have HJ := Lib.hid hj
    have HI := Lib.hid hin'
    have HP := Lib.hid hp
    clear hcall h hB hj hp hin hin' hz hl hlo hon hn7
    go_enter Try.func43, Try.ntmps43
    go_wp2_with fail
    refine (HC.out _ H.out HB.out).mono ?_
    rintro e w1 ⟨rfl, hb1⟩
    have H1 := Lib.hid (H.out.below hb1)
    have B1 := Lib.hid (HB.out.below hb1)
    have Hb1 := Lib.hid hb1
    have hs1 := hb1.size
    clear hb1
    go_wp2_with fail
    refine (HF.out _ (H1.out.below ((Below.refl _ _).alloc (Nat.le_refl _) _)) (B1.out.below ((Below.refl _ _).alloc (Nat.le_refl _) _))).mono ?_
    rintro e w2 ⟨g1, g2, rfl, hne, ho1, ho2, hb2⟩
    have hal : Below w1.heap.size w1 (w1.alloc (.cells #[] 2)) := (Below.refl _ _).alloc (Nat.le_refl _) _
    have hss := hal.size
    have hg1 := (own_block ho1 g1 rfl)
    have hg2 := (own_block ho2 g2 rfl)
    have ho0 : (w1.alloc (.cells #[] 2)).ownsRow w1.heap.size 2 1 (.slice (some ⟨w1.heap.size, 0, none⟩) 0 0) 0 (ints (X.take 0)) := by
      simpa [ints] using World.ownsRow_made (e := 2) (size := 1) w1 #[] 0 (Nat.le_refl _) (by unfold maxLen; omega) rfl
    have HO0 := Lib.hid (own_base (own_below ho0 hb2) hs1)
    have hsa : w1.heap.size + 1 = (w1.alloc (.cells #[] 2)).heap.size := by simp
    have HO1 := Lib.hid (own_base ho1 (Nat.le_trans hs1 hss))
    have HO2 := Lib.hid (own_base ho2 (Nat.le_trans hs1 hss))
    have Hb2 := Lib.hid ((Hb1.out.trans (hal.mono hs1)).trans (hb2.mono (Nat.le_trans hs1 hss)))
    have hgd : w1.heap.size < g1 ∧ w1.heap.size < g2 := by rw [← hsa] at hg1 hg2; omega
    clear ho1 ho2 ho0 hb2 hal hsa
    go_wp2_with fail
    go_loopw [7, 27] (fun vo vi wr => ∃ (k : Nat) (g oc : Nat), k ≤ m ∧ vi = .int .i64 k ∧ vo = .slice (some ⟨g, 0, none⟩) k oc ∧ g ≠ g1 ∧ g ≠ g2 ∧ wr.ownsRow w.heap.size 2 1 (.slice (some ⟨g, 0, none⟩) k oc) k (ints (X.take k)) ∧ wr.ownsRow w.heap.size 2 1 (.slice (some ⟨g1, 0, none⟩) m m) m (ints t.F) ∧ wr.ownsRow w.heap.size 2 1 (.slice (some ⟨g2, 0, none⟩) m m) m (ints t.S) ∧ Below w.heap.size w wr) (fun _ vi _ => m - (intOf vi).toNat)
    case atStart => exact ⟨0, _, _, Nat.zero_le _, rfl, rfl, by omega, by omega, HO0.out, HO1.out, HO2.out, Hb2.out⟩
    case round =>
      obtain ⟨k, g, oc, hk, rfl, rfl, hng1, hng2, hown, hown1, hown2, hb⟩ := hrel
      by_cases hlt : k < m
      · have hk0 : (0 : Int) ≤ (k : Int) := by omega
        have hk1 : (k : Int) < (m : Int) := by omega
        have hkd : decide ((k : Int) < (m : Int)) = true := decide_eq_true hk1
        have d2 := own_int hown2 (i := k) hlt HT.out.sl
        have d1 := own_int hown1 (i := k) hlt HT.out.fl
        have hXV := HXV.out k hlt
        have hbS := HT.out.sb k _ (getD_of (by rw [HT.out.sl]; exact hlt))
        have hbF := HT.out.fb k _ (getD_of (by rw [HT.out.fl]; exact hlt))
        obtain ⟨b, o, x, y, hA, hbl, hx, hc1, hc2⟩ := H.out.pair hlt
        subst hA
        have e1 := (hb.cell (p := ⟨b, o + k * 2, none⟩) hbl).trans hc1
        have e2 := (hb.cell (p := ⟨b, o + k * 2 + 1, none⟩) hbl).trans hc2
        have hjob := (HJ.out.job k _ hx).2
        rw [jobF_at hx] at hXV
        simp only at hjob hXV
        have hXk : k < X.length := by rw [HXL.out]; exact hlt
        have htk := take_snocD hXk
        rw [hXV] at htk
        generalize t.S.getD k 0 = vs at *
        generalize t.F.getD k 0 = vf at *
        have hgl := (own_block hown g rfl).2
        have hAX : Below wr.heap.size wr (wr.alloc (.cells #[.int .i64 x, .int .i64 y] 46)) := (by go_grown)
        have bx := (Box.new wr #[.int .i64 x, .int .i64 y] 46).cell 1
        have q1 := own_below hown1 hAX
        have q2 := own_below hown2 hAX
        have q0 := own_below hown hAX
        have qb := hb.trans (hAX.mono hb.size)
        have d1 := cell_bel d1 hAX
        have d2 := cell_bel d2 hAX
        have hss2 := hb.size
        have HTK := Lib.hid htk
        have Q0 := Lib.hid q0
        have Q1 := Lib.hid q1
        have Q2 := Lib.hid q2
        have QB := Lib.hid qb
        clear hown hown1 hown2 hb hx hc1 hc2 hXk hXV q0 q1 q2 qb htk hAX
        go_wp2
        generalize hwa : wr.alloc (.cells #[.int .i64 x, .int .i64 y] 46) = w5 at *
        clear hwa
        generalize hgb : wr.heap.size = gb at *
        clear hgb
        have QO := Lib.hid (own_block Q0.out)
        have hg0 := (own_block Q0.out g rfl)
        have hk1l := (own_block Q1.out g1 rfl).2
        have hk2l := (own_block Q2.out g2 rfl).2
        have hgbl : gb < w5.heap.size := World.block_lt_of_cell? _ _ bx
        have hgne : gb ≠ g := by omega
        have hs6 := QB.out.size
        have hw1 : IntKind.i64.wrap (vs - y) = vs - y := IntWalk.i64_in _ (by omega)
        have hw2 : IntKind.i64.wrap (vs - y - vf) = vs - y - vf := IntWalk.i64_in _ (by omega)
        go_region_held3 (fun w' => w'.cell? ⟨g2, k, none⟩ = some (.int .i64 vs) ∧ w'.cell? ⟨gb, 1, none⟩ = some (.int .i64 y) ∧ w'.cell? ⟨g1, k, none⟩ = some (.int .i64 vf))
          (first
            | go_keep
            | (go_split_ands
               refine ⟨?_, ?_, ?_⟩
               · (rw [hgrow.cell_far ⟨g2, k, none⟩ (show g2 < _ by simp; omega) (show some g2 ≠ some g by simp; omega)]; assumption)
               · (rw [hgrow.cell_far ⟨gb, 1, none⟩ (show gb < _ by simp; omega) (show some gb ≠ some g by simp; omega)]; assumption)
               · (rw [hgrow.cell_far ⟨g1, k, none⟩ (show g1 < _ by simp; omega) (show some g1 ≠ some g by simp; omega)]; assumption)))
          ((refine step_append_lies _ (by rfl) _ _ _ (by rfl) w.heap.size 2 i0 _ 1 8 Try.underlying34 hi hz0 hz1 hz2 rfl (by omega) (Value.slice (some ⟨g, 0, none⟩) k oc) k (ints (X.take k)) (by rfl) ((Q0.out.alloc _).drew) ⟨w5.heap.size, 0, none⟩ 1 1 [.int .i64 (vs - y - vf)] (by rfl) (by rfl) (World.news_of_block (cs := #[.int .i64 (vs - y - vf)]) (t := 2) (fr := (0, 0)) (heap_alloc_new w5 _)) (by simp [Value.oneCell']) (by omega) (by unfold maxLen; omega) (by omega) (by simp; omega) (w5.heap.size + 1) (by simp) ?_; intro gg cap wa hown' hgrow hat hlt))
        have hal : Below w5.heap.size w5 (w5.alloc (.cells #[.int .i64 (vs - y - vf)] 2)).drew := ((Below.refl _ _).alloc (Nat.le_refl _) _).drew
        have b7 : Below w.heap.size w wa := (QB.out.trans (hal.mono hs6)).grown hgrow (by simp; omega) (fun j hj => by simp [Value.ownBlock] at hj; omega)
        have p1 := own_other (g' := g) (own_below Q1.out hal) hgrow hng1.symm
        have p2 := own_other (g' := g) (own_below Q2.out hal) hgrow hng2.symm
        have hat' : g = gg ∨ gg = w5.heap.size + 1 := by simpa [Value.ownBlock] using hat
        rw [ints_snoc, ← HTK.out] at hown'
        clear hw1 hw2 hgrow hat hal
        go_wp2
        go_roundw
        case rel => exact ⟨k + 1, _, _, by omega, by go_num, rfl, by omega, by omega, hown', p1, p2, b7⟩
        case measure => simp [intOf]; omega
      · have : k = m := by omega
        subst this
        rw [List.take_of_length_le (by rw [HXL.out]; exact Nat.le_refl _)] at hown
        have HO := Lib.hid hown
        clear hown hown1 hown2
        go_wp2
        go_ret2
        exact ⟨_, _, _, rfl, HO.out, hb⟩
  · rw [if_neg hz]
    have hne : (codeJ ps os != 0) = true := by simpa using hz
    generalize codeJ ps os = z at *
    have HC := Lib.hid hcall
    have H := Lib.hid h
    have HB := Lib.hid hB
    clear hcall h hB hl hlo hz
    go_enter Try.func43, Try.ntmps43
    go_wp2_with fail
    refine (HC.out _ H.out HB.out).mono ?_
    rintro e w1 ⟨rfl, hb1⟩
    go_wp2
    go_ret2
    exact intPost_nil hb1

set_option maxRecDepth 100000 in
set_option maxHeartbeats 8000000 in
theorem law_EndsOf (A : Option Addr) (n c : Nat) (ps : List (Int × Int)) (B : Option Addr) (m d : Nat) (os : List Int) (w : World) (hA : Rd w 2 A n c (pr ps)) (hB : Rd w 1 B m d (ints os)) :
    Calls Try.prog 11 #[.slice A n c, .slice B m d] w fun e w' => e = .returned (.bool true) ∧ Below w.heap.size w w' := by
  have eA1 := hA.cap
  have eA2 := hA.max
  have eB1 := hB.cap
  have eB2 := hB.max
  have lA := hA.plen
  have lB := hB.ilen
  have hsp := fun A n c B m d W h1 h2 => specEndsOf_any A n c ps B m d os W h1 h2
  have him := fun A n c B m d W h1 h2 hm => implEndsOf_any A n c ps B m d os W h1 h2 hm
  have hlen := (show (endsZ ps os).1.length ≤ n from by have := ends_len (ps := ps) (os := os); omega)
  generalize (endsZ ps os).1 = R at *
  generalize (endsZ ps os).2 = z at *
  have HA := Lib.hid hA
  have HB := Lib.hid hB
  have HSP := Lib.hid hsp
  have HIM := Lib.hid him
  clear hA hB hsp him lA lB
  by_cases gB : (1048576 : Int) < (m : Int)
  · go_enter Try.func11, Try.ntmps11
    go_wp2
    go_ret
    exact ⟨rfl, Below.refl _ _⟩
  by_cases gA : (1048576 : Int) < (n : Int)
  · go_enter Try.func11, Try.ntmps11
    go_wp2_with fail
    refine (szPrS_any _ _ _ _ _ (by omega) (by omega) (by omega)).mono ?_
    rw [if_pos (by omega)]
    rintro e w' ⟨rfl, rfl⟩
    go_wp2
    go_ret
    exact ⟨rfl, Below.refl _ _⟩
  have b0 : Below w.heap.size w w := Below.refl _ _
  go_enter Try.func11, Try.ntmps11
  go_wp2_with fail
  refine (szPrS_any _ _ _ _ _ (by omega) (by omega) (by omega)).mono ?_
  rw [if_neg (by omega)]
  rintro e w' ⟨rfl, rfl⟩
  have sA : ¬ 1048576 - (n : Int) < 0 := by omega
  go_wp2_with fail
  refine (toPrS_any A n c ps _ (HA.out.below b0) (by omega)).mono ?_
  rintro e w1 ⟨gt0, rfl, ho, hb1⟩
  have b1 : Below w.heap.size w w1 := b0.trans (hb1.mono b0.size)
  have s1 := hb1.size
  have Ot01 := Lib.hid (OwnIn.new ho)
  clear hb1 ho
  go_wp2_with fail
  refine (toInt64S_any B m d os _ (HB.out.below b1) (by omega)).mono ?_
  rintro e w2 ⟨gt1, rfl, ho, hb2⟩
  have b2 : Below w.heap.size w w2 := b1.trans (hb2.mono b1.size)
  have s2 := hb2.size
  have Ot02 := Lib.hid (Ot01.out.below hb2)
  have Ot12 := Lib.hid (OwnIn.new ho)
  clear hb2 Ot01 ho
  go_wp2_with fail
  refine (HSP.out _ _ _ _ _ _ _ Ot02.out.rd Ot12.out.rd).mono ?_
  rintro e w3 ⟨Aw, nw, cw, rfl, ho, hb3⟩
  have b3 : Below w.heap.size w w3 := b2.trans (hb3.mono b2.size)
  have s3 := hb3.size
  have Ot03 := Lib.hid (Ot02.out.below hb3)
  have Ot13 := Lib.hid (Ot12.out.below hb3)
  have Ow3 := Lib.hid (OwnIn.new ho)
  clear hb3 Ot02 Ot12 ho
  go_wp2_with fail
  refine (toPrS_any A n c ps _ (HA.out.below b3) (by omega)).mono ?_
  rintro e w4 ⟨gx0, rfl, ho, hb4⟩
  have b4 : Below w.heap.size w w4 := b3.trans (hb4.mono b3.size)
  have s4 := hb4.size
  have Ot04 := Lib.hid (Ot03.out.below hb4)
  have Ot14 := Lib.hid (Ot13.out.below hb4)
  have Ow4 := Lib.hid (Ow3.out.below hb4)
  have Ox04 := Lib.hid (OwnIn.new ho)
  clear hb4 Ot03 Ot13 Ow3 ho
  go_wp2_with fail
  refine (toInt64S_any B m d os _ (HB.out.below b4) (by omega)).mono ?_
  rintro e w5 ⟨gx1, rfl, ho, hb5⟩
  have b5 : Below w.heap.size w w5 := b4.trans (hb5.mono b4.size)
  have s5 := hb5.size
  have Ot05 := Lib.hid (Ot04.out.below hb5)
  have Ot15 := Lib.hid (Ot14.out.below hb5)
  have Ow5 := Lib.hid (Ow4.out.below hb5)
  have Ox05 := Lib.hid (Ox04.out.below hb5)
  have Ox15 := Lib.hid (OwnIn.new ho)
  clear hb5 Ot04 Ot14 Ow4 Ox04 ho
  go_wp2_with fail
  refine (HIM.out _ _ _ _ _ _ _ Ox05.out.rd Ox15.out.rd (by omega)).mono ?_
  rintro e w6 ⟨Ag, ng, cg, rfl, ho, hb6⟩
  have b6 : Below w.heap.size w w6 := b5.trans (hb6.mono b5.size)
  have s6 := hb6.size
  have Ot06 := Lib.hid (Ot05.out.below hb6)
  have Ot16 := Lib.hid (Ot15.out.below hb6)
  have Ow6 := Lib.hid (Ow5.out.below hb6)
  have Ox06 := Lib.hid (Ox05.out.below hb6)
  have Ox16 := Lib.hid (Ox15.out.below hb6)
  have Og6 := Lib.hid (OwnIn.new ho)
  clear hb6 Ot05 Ot15 Ow5 Ox05 Ox15 ho
  have lg := Og6.out.ilen
  go_wp2_with fail
  refine (eqInt64S_any _ _ _ R _ _ _ R _ Og6.out.rd Ow6.out.rd).mono ?_
  rw [eqL_self]
  rintro e w7 ⟨rfl, hb7⟩
  have b7 : Below w.heap.size w w7 := b6.trans (hb7.mono b6.size)
  have s7 := hb7.size
  have Ot07 := Lib.hid (Ot06.out.below hb7)
  have Ot17 := Lib.hid (Ot16.out.below hb7)
  have Ow7 := Lib.hid (Ow6.out.below hb7)
  have Ox07 := Lib.hid (Ox06.out.below hb7)
  have Ox17 := Lib.hid (Ox16.out.below hb7)
  have Og7 := Lib.hid (Og6.out.below hb7)
  clear hb7 Ot06 Ot16 Ow6 Ox06 Ox16 Og6
  go_wp2_with fail
  refine (toPrS_any A n c ps _ (HA.out.below b7) (by omega)).mono ?_
  rintro e w8 ⟨gy0, rfl, ho, hb8⟩
  have b8 : Below w.heap.size w w8 := b7.trans (hb8.mono b7.size)
  have s8 := hb8.size
  have Ot08 := Lib.hid (Ot07.out.below hb8)
  have Ot18 := Lib.hid (Ot17.out.below hb8)
  have Ow8 := Lib.hid (Ow7.out.below hb8)
  have Ox08 := Lib.hid (Ox07.out.below hb8)
  have Ox18 := Lib.hid (Ox17.out.below hb8)
  have Og8 := Lib.hid (Og7.out.below hb8)
  have Oy08 := Lib.hid (OwnIn.new ho)
  clear hb8 Ot07 Ot17 Ow7 Ox07 Ox17 Og7 ho
  go_wp2_with fail
  refine (eqPrS_any _ _ _ ps _ _ _ ps _ Ox08.out.rd Oy08.out.rd).mono ?_
  rw [eqG_self]
  rintro e w9 ⟨rfl, hb9⟩
  have b9 : Below w.heap.size w w9 := b8.trans (hb9.mono b8.size)
  have s9 := hb9.size
  have Ot09 := Lib.hid (Ot08.out.below hb9)
  have Ot19 := Lib.hid (Ot18.out.below hb9)
  have Ow9 := Lib.hid (Ow8.out.below hb9)
  have Ox09 := Lib.hid (Ox08.out.below hb9)
  have Ox19 := Lib.hid (Ox18.out.below hb9)
  have Og9 := Lib.hid (Og8.out.below hb9)
  have Oy09 := Lib.hid (Oy08.out.below hb9)
  clear hb9 Ot08 Ot18 Ow8 Ox08 Ox18 Og8 Oy08
  go_wp2_with fail
  refine (toInt64S_any B m d os _ (HB.out.below b9) (by omega)).mono ?_
  rintro e w10 ⟨gy1, rfl, ho, hb10⟩
  have b10 : Below w.heap.size w w10 := b9.trans (hb10.mono b9.size)
  have s10 := hb10.size
  have Ot010 := Lib.hid (Ot09.out.below hb10)
  have Ot110 := Lib.hid (Ot19.out.below hb10)
  have Ow10 := Lib.hid (Ow9.out.below hb10)
  have Ox010 := Lib.hid (Ox09.out.below hb10)
  have Ox110 := Lib.hid (Ox19.out.below hb10)
  have Og10 := Lib.hid (Og9.out.below hb10)
  have Oy010 := Lib.hid (Oy09.out.below hb10)
  have Oy110 := Lib.hid (OwnIn.new ho)
  clear hb10 Ot09 Ot19 Ow9 Ox09 Ox19 Og9 Oy09 ho
  go_wp2_with fail
  refine (eqInt64S_any _ _ _ os _ _ _ os _ Ox110.out.rd Oy110.out.rd).mono ?_
  rw [eqL_self]
  rintro e w11 ⟨rfl, hb11⟩
  have b11 : Below w.heap.size w w11 := b10.trans (hb11.mono b10.size)
  have s11 := hb11.size
  have Ot011 := Lib.hid (Ot010.out.below hb11)
  have Ot111 := Lib.hid (Ot110.out.below hb11)
  have Ow11 := Lib.hid (Ow10.out.below hb11)
  have Ox011 := Lib.hid (Ox010.out.below hb11)
  have Ox111 := Lib.hid (Ox110.out.below hb11)
  have Og11 := Lib.hid (Og10.out.below hb11)
  have Oy011 := Lib.hid (Oy010.out.below hb11)
  have Oy111 := Lib.hid (Oy110.out.below hb11)
  clear hb11 Ot010 Ot110 Ow10 Ox010 Ox110 Og10 Oy010 Oy110
  go_wp2_with fail
  refine (markPrS_any _ _ _ _ ps _ _ Ox011.out.own (by omega) (by omega)).mono ?_
  rintro e w12 ⟨rfl, ho, hg⟩
  have b12 : Below w.heap.size w w12 := Ox011.out.base b11 hg (by omega) (Nat.le_refl _)
  have s12 := hg.size
  have Ot012 := Lib.hid (Ot011.out.other Ox011.out hg (by omega))
  have Ot112 := Lib.hid (Ot111.out.other Ox011.out hg (by omega))
  have Ow12 := Lib.hid (Ow11.out.other Ox011.out hg (by omega))
  have Ox012 := Lib.hid (Ox011.out.self ho hg)
  have Ox112 := Lib.hid (Ox111.out.other Ox011.out hg (by omega))
  have Og12 := Lib.hid (Og11.out.other Ox011.out hg (by omega))
  have Oy012 := Lib.hid (Oy011.out.other Ox011.out hg (by omega))
  have Oy112 := Lib.hid (Oy111.out.other Ox011.out hg (by omega))
  clear ho hg Ot011 Ot111 Ow11 Ox011 Ox111 Og11 Oy011 Oy111
  go_wp2_with fail
  refine (markInt64S_any _ _ _ _ os _ _ Ox112.out.own (by omega) (by omega)).mono ?_
  rintro e w13 ⟨rfl, ho, hg⟩
  have b13 : Below w.heap.size w w13 := Ox112.out.base b12 hg (by omega) (Nat.le_refl _)
  have s13 := hg.size
  have Ot013 := Lib.hid (Ot012.out.other Ox112.out hg (by omega))
  have Ot113 := Lib.hid (Ot112.out.other Ox112.out hg (by omega))
  have Ow13 := Lib.hid (Ow12.out.other Ox112.out hg (by omega))
  have Ox013 := Lib.hid (Ox012.out.other Ox112.out hg (by omega))
  have Ox113 := Lib.hid (Ox112.out.self ho hg)
  have Og13 := Lib.hid (Og12.out.other Ox112.out hg (by omega))
  have Oy013 := Lib.hid (Oy012.out.other Ox112.out hg (by omega))
  have Oy113 := Lib.hid (Oy112.out.other Ox112.out hg (by omega))
  clear ho hg Ot012 Ot112 Ow12 Ox012 Ox112 Og12 Oy012 Oy112
  go_wp2_with fail
  refine (eqInt64S_any _ _ _ R _ _ _ R _ Og13.out.rd Ow13.out.rd).mono ?_
  rw [eqL_self]
  rintro e w14 ⟨rfl, hb14⟩
  have b14 : Below w.heap.size w w14 := b13.trans (hb14.mono b13.size)
  have s14 := hb14.size
  have Ot014 := Lib.hid (Ot013.out.below hb14)
  have Ot114 := Lib.hid (Ot113.out.below hb14)
  have Ow14 := Lib.hid (Ow13.out.below hb14)
  have Ox014 := Lib.hid (Ox013.out.below hb14)
  have Ox114 := Lib.hid (Ox113.out.below hb14)
  have Og14 := Lib.hid (Og13.out.below hb14)
  have Oy014 := Lib.hid (Oy013.out.below hb14)
  have Oy114 := Lib.hid (Oy113.out.below hb14)
  clear hb14 Ot013 Ot113 Ow13 Ox013 Ox113 Og13 Oy013 Oy113
  go_wp2_with fail
  refine (markInt64S_any _ _ _ _ R 1 _ Og14.out.own (by omega) (by omega)).mono ?_
  rintro e w15 ⟨rfl, ho, hg⟩
  have b15 : Below w.heap.size w w15 := Og14.out.base b14 hg (by omega) (Nat.le_refl _)
  have s15 := hg.size
  have Ot015 := Lib.hid (Ot014.out.other Og14.out hg (by omega))
  have Ot115 := Lib.hid (Ot114.out.other Og14.out hg (by omega))
  have Ow15 := Lib.hid (Ow14.out.other Og14.out hg (by omega))
  have Ox015 := Lib.hid (Ox014.out.other Og14.out hg (by omega))
  have Ox115 := Lib.hid (Ox114.out.other Og14.out hg (by omega))
  have Og15 := Lib.hid (Og14.out.self ho hg)
  have Oy015 := Lib.hid (Oy014.out.other Og14.out hg (by omega))
  have Oy115 := Lib.hid (Oy114.out.other Og14.out hg (by omega))
  clear ho hg Ot014 Ot114 Ow14 Ox014 Ox114 Og14 Oy014 Oy114
  go_wp2_with fail
  refine (heldInt64S_any _ _ _ 1 _ Og15.out.rd (by omega) (by omega)).mono ?_
  rintro e wz ⟨rfl, rfl⟩
  go_wp2_with fail
  refine (toPrS_any A n c ps _ (HA.out.below b15) (by omega)).mono ?_
  rintro e w16 ⟨gz0, rfl, ho, hb16⟩
  have b16 : Below w.heap.size w w16 := b15.trans (hb16.mono b15.size)
  have s16 := hb16.size
  have Ot016 := Lib.hid (Ot015.out.below hb16)
  have Ot116 := Lib.hid (Ot115.out.below hb16)
  have Ow16 := Lib.hid (Ow15.out.below hb16)
  have Ox016 := Lib.hid (Ox015.out.below hb16)
  have Ox116 := Lib.hid (Ox115.out.below hb16)
  have Og16 := Lib.hid (Og15.out.below hb16)
  have Oy016 := Lib.hid (Oy015.out.below hb16)
  have Oy116 := Lib.hid (Oy115.out.below hb16)
  have Oz016 := Lib.hid (OwnIn.new ho)
  clear hb16 Ot015 Ot115 Ow15 Ox015 Ox115 Og15 Oy015 Oy115 ho
  go_wp2_with fail
  refine (toInt64S_any B m d os _ (HB.out.below b16) (by omega)).mono ?_
  rintro e w17 ⟨gz1, rfl, ho, hb17⟩
  have b17 : Below w.heap.size w w17 := b16.trans (hb17.mono b16.size)
  have s17 := hb17.size
  have Ot017 := Lib.hid (Ot016.out.below hb17)
  have Ot117 := Lib.hid (Ot116.out.below hb17)
  have Ow17 := Lib.hid (Ow16.out.below hb17)
  have Ox017 := Lib.hid (Ox016.out.below hb17)
  have Ox117 := Lib.hid (Ox116.out.below hb17)
  have Og17 := Lib.hid (Og16.out.below hb17)
  have Oy017 := Lib.hid (Oy016.out.below hb17)
  have Oy117 := Lib.hid (Oy116.out.below hb17)
  have Oz017 := Lib.hid (Oz016.out.below hb17)
  have Oz117 := Lib.hid (OwnIn.new ho)
  clear hb17 Ot016 Ot116 Ow16 Ox016 Ox116 Og16 Oy016 Oy116 Oz016 ho
  go_wp2_with fail
  refine (HIM.out _ _ _ _ _ _ _ Oz017.out.rd Oz117.out.rd (by omega)).mono ?_
  rintro e w18 ⟨Ah, nh, ch, rfl, ho, hb18⟩
  have b18 : Below w.heap.size w w18 := b17.trans (hb18.mono b17.size)
  have s18 := hb18.size
  have Ot018 := Lib.hid (Ot017.out.below hb18)
  have Ot118 := Lib.hid (Ot117.out.below hb18)
  have Ow18 := Lib.hid (Ow17.out.below hb18)
  have Ox018 := Lib.hid (Ox017.out.below hb18)
  have Ox118 := Lib.hid (Ox117.out.below hb18)
  have Og18 := Lib.hid (Og17.out.below hb18)
  have Oy018 := Lib.hid (Oy017.out.below hb18)
  have Oy118 := Lib.hid (Oy117.out.below hb18)
  have Oz018 := Lib.hid (Oz017.out.below hb18)
  have Oz118 := Lib.hid (Oz117.out.below hb18)
  have Oh18 := Lib.hid (OwnIn.new ho)
  clear hb18 Ot017 Ot117 Ow17 Ox017 Ox117 Og17 Oy017 Oy117 Oz017 Oz117 ho
  go_wp2_with fail
  refine (eqInt64S_any _ _ _ R _ _ _ R _ Oh18.out.rd Ow18.out.rd).mono ?_
  rw [eqL_self]
  rintro e w19 ⟨rfl, hb19⟩
  have b19 : Below w.heap.size w w19 := b18.trans (hb19.mono b18.size)
  have s19 := hb19.size
  have Ot019 := Lib.hid (Ot018.out.below hb19)
  have Ot119 := Lib.hid (Ot118.out.below hb19)
  have Ow19 := Lib.hid (Ow18.out.below hb19)
  have Ox019 := Lib.hid (Ox018.out.below hb19)
  have Ox119 := Lib.hid (Ox118.out.below hb19)
  have Og19 := Lib.hid (Og18.out.below hb19)
  have Oy019 := Lib.hid (Oy018.out.below hb19)
  have Oy119 := Lib.hid (Oy118.out.below hb19)
  have Oz019 := Lib.hid (Oz018.out.below hb19)
  have Oz119 := Lib.hid (Oz118.out.below hb19)
  have Oh19 := Lib.hid (Oh18.out.below hb19)
  clear hb19 Ot018 Ot118 Ow18 Ox018 Ox118 Og18 Oy018 Oy118 Oz018 Oz118 Oh18
  go_wp2_with fail
  refine (heldInt64S_any _ _ _ 1 _ Og19.out.rd (by omega) (by omega)).mono ?_
  rintro e wz ⟨rfl, rfl⟩
  go_wp2_with fail
  go_ret
  exact ⟨rfl, b19⟩

set_option maxRecDepth 100000 in
set_option maxHeartbeats 8000000 in
theorem law_WaitsOf (A : Option Addr) (n c : Nat) (ps : List (Int × Int)) (B : Option Addr) (m d : Nat) (os : List Int) (w : World) (hA : Rd w 2 A n c (pr ps)) (hB : Rd w 1 B m d (ints os)) :
    Calls Try.prog 13 #[.slice A n c, .slice B m d] w fun e w' => e = .returned (.bool true) ∧ Below w.heap.size w w' := by
  have eA1 := hA.cap
  have eA2 := hA.max
  have eB1 := hB.cap
  have eB2 := hB.max
  have lA := hA.plen
  have lB := hB.ilen
  have hsp := fun A n c B m d W h1 h2 => specWaitsOf_any A n c ps B m d os W h1 h2
  have him := fun A n c B m d W h1 h2 hm => implWaitsOf_any A n c ps B m d os W h1 h2 hm
  have hlen := (show (waitsZ ps os).1.length ≤ n from by have := waits_len (ps := ps) (os := os); omega)
  generalize (waitsZ ps os).1 = R at *
  generalize (waitsZ ps os).2 = z at *
  have HA := Lib.hid hA
  have HB := Lib.hid hB
  have HSP := Lib.hid hsp
  have HIM := Lib.hid him
  clear hA hB hsp him lA lB
  by_cases gB : (1048576 : Int) < (m : Int)
  · go_enter Try.func13, Try.ntmps13
    go_wp2
    go_ret
    exact ⟨rfl, Below.refl _ _⟩
  by_cases gA : (1048576 : Int) < (n : Int)
  · go_enter Try.func13, Try.ntmps13
    go_wp2_with fail
    refine (szPrS_any _ _ _ _ _ (by omega) (by omega) (by omega)).mono ?_
    rw [if_pos (by omega)]
    rintro e w' ⟨rfl, rfl⟩
    go_wp2
    go_ret
    exact ⟨rfl, Below.refl _ _⟩
  have b0 : Below w.heap.size w w := Below.refl _ _
  go_enter Try.func13, Try.ntmps13
  go_wp2_with fail
  refine (szPrS_any _ _ _ _ _ (by omega) (by omega) (by omega)).mono ?_
  rw [if_neg (by omega)]
  rintro e w' ⟨rfl, rfl⟩
  have sA : ¬ 1048576 - (n : Int) < 0 := by omega
  go_wp2_with fail
  refine (toPrS_any A n c ps _ (HA.out.below b0) (by omega)).mono ?_
  rintro e w1 ⟨gt0, rfl, ho, hb1⟩
  have b1 : Below w.heap.size w w1 := b0.trans (hb1.mono b0.size)
  have s1 := hb1.size
  have Ot01 := Lib.hid (OwnIn.new ho)
  clear hb1 ho
  go_wp2_with fail
  refine (toInt64S_any B m d os _ (HB.out.below b1) (by omega)).mono ?_
  rintro e w2 ⟨gt1, rfl, ho, hb2⟩
  have b2 : Below w.heap.size w w2 := b1.trans (hb2.mono b1.size)
  have s2 := hb2.size
  have Ot02 := Lib.hid (Ot01.out.below hb2)
  have Ot12 := Lib.hid (OwnIn.new ho)
  clear hb2 Ot01 ho
  go_wp2_with fail
  refine (HSP.out _ _ _ _ _ _ _ Ot02.out.rd Ot12.out.rd).mono ?_
  rintro e w3 ⟨Aw, nw, cw, rfl, ho, hb3⟩
  have b3 : Below w.heap.size w w3 := b2.trans (hb3.mono b2.size)
  have s3 := hb3.size
  have Ot03 := Lib.hid (Ot02.out.below hb3)
  have Ot13 := Lib.hid (Ot12.out.below hb3)
  have Ow3 := Lib.hid (OwnIn.new ho)
  clear hb3 Ot02 Ot12 ho
  go_wp2_with fail
  refine (toPrS_any A n c ps _ (HA.out.below b3) (by omega)).mono ?_
  rintro e w4 ⟨gx0, rfl, ho, hb4⟩
  have b4 : Below w.heap.size w w4 := b3.trans (hb4.mono b3.size)
  have s4 := hb4.size
  have Ot04 := Lib.hid (Ot03.out.below hb4)
  have Ot14 := Lib.hid (Ot13.out.below hb4)
  have Ow4 := Lib.hid (Ow3.out.below hb4)
  have Ox04 := Lib.hid (OwnIn.new ho)
  clear hb4 Ot03 Ot13 Ow3 ho
  go_wp2_with fail
  refine (toInt64S_any B m d os _ (HB.out.below b4) (by omega)).mono ?_
  rintro e w5 ⟨gx1, rfl, ho, hb5⟩
  have b5 : Below w.heap.size w w5 := b4.trans (hb5.mono b4.size)
  have s5 := hb5.size
  have Ot05 := Lib.hid (Ot04.out.below hb5)
  have Ot15 := Lib.hid (Ot14.out.below hb5)
  have Ow5 := Lib.hid (Ow4.out.below hb5)
  have Ox05 := Lib.hid (Ox04.out.below hb5)
  have Ox15 := Lib.hid (OwnIn.new ho)
  clear hb5 Ot04 Ot14 Ow4 Ox04 ho
  go_wp2_with fail
  refine (HIM.out _ _ _ _ _ _ _ Ox05.out.rd Ox15.out.rd (by omega)).mono ?_
  rintro e w6 ⟨Ag, ng, cg, rfl, ho, hb6⟩
  have b6 : Below w.heap.size w w6 := b5.trans (hb6.mono b5.size)
  have s6 := hb6.size
  have Ot06 := Lib.hid (Ot05.out.below hb6)
  have Ot16 := Lib.hid (Ot15.out.below hb6)
  have Ow6 := Lib.hid (Ow5.out.below hb6)
  have Ox06 := Lib.hid (Ox05.out.below hb6)
  have Ox16 := Lib.hid (Ox15.out.below hb6)
  have Og6 := Lib.hid (OwnIn.new ho)
  clear hb6 Ot05 Ot15 Ow5 Ox05 Ox15 ho
  have lg := Og6.out.ilen
  go_wp2_with fail
  refine (eqInt64S_any _ _ _ R _ _ _ R _ Og6.out.rd Ow6.out.rd).mono ?_
  rw [eqL_self]
  rintro e w7 ⟨rfl, hb7⟩
  have b7 : Below w.heap.size w w7 := b6.trans (hb7.mono b6.size)
  have s7 := hb7.size
  have Ot07 := Lib.hid (Ot06.out.below hb7)
  have Ot17 := Lib.hid (Ot16.out.below hb7)
  have Ow7 := Lib.hid (Ow6.out.below hb7)
  have Ox07 := Lib.hid (Ox06.out.below hb7)
  have Ox17 := Lib.hid (Ox16.out.below hb7)
  have Og7 := Lib.hid (Og6.out.below hb7)
  clear hb7 Ot06 Ot16 Ow6 Ox06 Ox16 Og6
  go_wp2_with fail
  refine (toPrS_any A n c ps _ (HA.out.below b7) (by omega)).mono ?_
  rintro e w8 ⟨gy0, rfl, ho, hb8⟩
  have b8 : Below w.heap.size w w8 := b7.trans (hb8.mono b7.size)
  have s8 := hb8.size
  have Ot08 := Lib.hid (Ot07.out.below hb8)
  have Ot18 := Lib.hid (Ot17.out.below hb8)
  have Ow8 := Lib.hid (Ow7.out.below hb8)
  have Ox08 := Lib.hid (Ox07.out.below hb8)
  have Ox18 := Lib.hid (Ox17.out.below hb8)
  have Og8 := Lib.hid (Og7.out.below hb8)
  have Oy08 := Lib.hid (OwnIn.new ho)
  clear hb8 Ot07 Ot17 Ow7 Ox07 Ox17 Og7 ho
  go_wp2_with fail
  refine (eqPrS_any _ _ _ ps _ _ _ ps _ Ox08.out.rd Oy08.out.rd).mono ?_
  rw [eqG_self]
  rintro e w9 ⟨rfl, hb9⟩
  have b9 : Below w.heap.size w w9 := b8.trans (hb9.mono b8.size)
  have s9 := hb9.size
  have Ot09 := Lib.hid (Ot08.out.below hb9)
  have Ot19 := Lib.hid (Ot18.out.below hb9)
  have Ow9 := Lib.hid (Ow8.out.below hb9)
  have Ox09 := Lib.hid (Ox08.out.below hb9)
  have Ox19 := Lib.hid (Ox18.out.below hb9)
  have Og9 := Lib.hid (Og8.out.below hb9)
  have Oy09 := Lib.hid (Oy08.out.below hb9)
  clear hb9 Ot08 Ot18 Ow8 Ox08 Ox18 Og8 Oy08
  go_wp2_with fail
  refine (toInt64S_any B m d os _ (HB.out.below b9) (by omega)).mono ?_
  rintro e w10 ⟨gy1, rfl, ho, hb10⟩
  have b10 : Below w.heap.size w w10 := b9.trans (hb10.mono b9.size)
  have s10 := hb10.size
  have Ot010 := Lib.hid (Ot09.out.below hb10)
  have Ot110 := Lib.hid (Ot19.out.below hb10)
  have Ow10 := Lib.hid (Ow9.out.below hb10)
  have Ox010 := Lib.hid (Ox09.out.below hb10)
  have Ox110 := Lib.hid (Ox19.out.below hb10)
  have Og10 := Lib.hid (Og9.out.below hb10)
  have Oy010 := Lib.hid (Oy09.out.below hb10)
  have Oy110 := Lib.hid (OwnIn.new ho)
  clear hb10 Ot09 Ot19 Ow9 Ox09 Ox19 Og9 Oy09 ho
  go_wp2_with fail
  refine (eqInt64S_any _ _ _ os _ _ _ os _ Ox110.out.rd Oy110.out.rd).mono ?_
  rw [eqL_self]
  rintro e w11 ⟨rfl, hb11⟩
  have b11 : Below w.heap.size w w11 := b10.trans (hb11.mono b10.size)
  have s11 := hb11.size
  have Ot011 := Lib.hid (Ot010.out.below hb11)
  have Ot111 := Lib.hid (Ot110.out.below hb11)
  have Ow11 := Lib.hid (Ow10.out.below hb11)
  have Ox011 := Lib.hid (Ox010.out.below hb11)
  have Ox111 := Lib.hid (Ox110.out.below hb11)
  have Og11 := Lib.hid (Og10.out.below hb11)
  have Oy011 := Lib.hid (Oy010.out.below hb11)
  have Oy111 := Lib.hid (Oy110.out.below hb11)
  clear hb11 Ot010 Ot110 Ow10 Ox010 Ox110 Og10 Oy010 Oy110
  go_wp2_with fail
  refine (markPrS_any _ _ _ _ ps _ _ Ox011.out.own (by omega) (by omega)).mono ?_
  rintro e w12 ⟨rfl, ho, hg⟩
  have b12 : Below w.heap.size w w12 := Ox011.out.base b11 hg (by omega) (Nat.le_refl _)
  have s12 := hg.size
  have Ot012 := Lib.hid (Ot011.out.other Ox011.out hg (by omega))
  have Ot112 := Lib.hid (Ot111.out.other Ox011.out hg (by omega))
  have Ow12 := Lib.hid (Ow11.out.other Ox011.out hg (by omega))
  have Ox012 := Lib.hid (Ox011.out.self ho hg)
  have Ox112 := Lib.hid (Ox111.out.other Ox011.out hg (by omega))
  have Og12 := Lib.hid (Og11.out.other Ox011.out hg (by omega))
  have Oy012 := Lib.hid (Oy011.out.other Ox011.out hg (by omega))
  have Oy112 := Lib.hid (Oy111.out.other Ox011.out hg (by omega))
  clear ho hg Ot011 Ot111 Ow11 Ox011 Ox111 Og11 Oy011 Oy111
  go_wp2_with fail
  refine (markInt64S_any _ _ _ _ os _ _ Ox112.out.own (by omega) (by omega)).mono ?_
  rintro e w13 ⟨rfl, ho, hg⟩
  have b13 : Below w.heap.size w w13 := Ox112.out.base b12 hg (by omega) (Nat.le_refl _)
  have s13 := hg.size
  have Ot013 := Lib.hid (Ot012.out.other Ox112.out hg (by omega))
  have Ot113 := Lib.hid (Ot112.out.other Ox112.out hg (by omega))
  have Ow13 := Lib.hid (Ow12.out.other Ox112.out hg (by omega))
  have Ox013 := Lib.hid (Ox012.out.other Ox112.out hg (by omega))
  have Ox113 := Lib.hid (Ox112.out.self ho hg)
  have Og13 := Lib.hid (Og12.out.other Ox112.out hg (by omega))
  have Oy013 := Lib.hid (Oy012.out.other Ox112.out hg (by omega))
  have Oy113 := Lib.hid (Oy112.out.other Ox112.out hg (by omega))
  clear ho hg Ot012 Ot112 Ow12 Ox012 Ox112 Og12 Oy012 Oy112
  go_wp2_with fail
  refine (eqInt64S_any _ _ _ R _ _ _ R _ Og13.out.rd Ow13.out.rd).mono ?_
  rw [eqL_self]
  rintro e w14 ⟨rfl, hb14⟩
  have b14 : Below w.heap.size w w14 := b13.trans (hb14.mono b13.size)
  have s14 := hb14.size
  have Ot014 := Lib.hid (Ot013.out.below hb14)
  have Ot114 := Lib.hid (Ot113.out.below hb14)
  have Ow14 := Lib.hid (Ow13.out.below hb14)
  have Ox014 := Lib.hid (Ox013.out.below hb14)
  have Ox114 := Lib.hid (Ox113.out.below hb14)
  have Og14 := Lib.hid (Og13.out.below hb14)
  have Oy014 := Lib.hid (Oy013.out.below hb14)
  have Oy114 := Lib.hid (Oy113.out.below hb14)
  clear hb14 Ot013 Ot113 Ow13 Ox013 Ox113 Og13 Oy013 Oy113
  go_wp2_with fail
  refine (markInt64S_any _ _ _ _ R 1 _ Og14.out.own (by omega) (by omega)).mono ?_
  rintro e w15 ⟨rfl, ho, hg⟩
  have b15 : Below w.heap.size w w15 := Og14.out.base b14 hg (by omega) (Nat.le_refl _)
  have s15 := hg.size
  have Ot015 := Lib.hid (Ot014.out.other Og14.out hg (by omega))
  have Ot115 := Lib.hid (Ot114.out.other Og14.out hg (by omega))
  have Ow15 := Lib.hid (Ow14.out.other Og14.out hg (by omega))
  have Ox015 := Lib.hid (Ox014.out.other Og14.out hg (by omega))
  have Ox115 := Lib.hid (Ox114.out.other Og14.out hg (by omega))
  have Og15 := Lib.hid (Og14.out.self ho hg)
  have Oy015 := Lib.hid (Oy014.out.other Og14.out hg (by omega))
  have Oy115 := Lib.hid (Oy114.out.other Og14.out hg (by omega))
  clear ho hg Ot014 Ot114 Ow14 Ox014 Ox114 Og14 Oy014 Oy114
  go_wp2_with fail
  refine (heldInt64S_any _ _ _ 1 _ Og15.out.rd (by omega) (by omega)).mono ?_
  rintro e wz ⟨rfl, rfl⟩
  go_wp2_with fail
  refine (toPrS_any A n c ps _ (HA.out.below b15) (by omega)).mono ?_
  rintro e w16 ⟨gz0, rfl, ho, hb16⟩
  have b16 : Below w.heap.size w w16 := b15.trans (hb16.mono b15.size)
  have s16 := hb16.size
  have Ot016 := Lib.hid (Ot015.out.below hb16)
  have Ot116 := Lib.hid (Ot115.out.below hb16)
  have Ow16 := Lib.hid (Ow15.out.below hb16)
  have Ox016 := Lib.hid (Ox015.out.below hb16)
  have Ox116 := Lib.hid (Ox115.out.below hb16)
  have Og16 := Lib.hid (Og15.out.below hb16)
  have Oy016 := Lib.hid (Oy015.out.below hb16)
  have Oy116 := Lib.hid (Oy115.out.below hb16)
  have Oz016 := Lib.hid (OwnIn.new ho)
  clear hb16 Ot015 Ot115 Ow15 Ox015 Ox115 Og15 Oy015 Oy115 ho
  go_wp2_with fail
  refine (toInt64S_any B m d os _ (HB.out.below b16) (by omega)).mono ?_
  rintro e w17 ⟨gz1, rfl, ho, hb17⟩
  have b17 : Below w.heap.size w w17 := b16.trans (hb17.mono b16.size)
  have s17 := hb17.size
  have Ot017 := Lib.hid (Ot016.out.below hb17)
  have Ot117 := Lib.hid (Ot116.out.below hb17)
  have Ow17 := Lib.hid (Ow16.out.below hb17)
  have Ox017 := Lib.hid (Ox016.out.below hb17)
  have Ox117 := Lib.hid (Ox116.out.below hb17)
  have Og17 := Lib.hid (Og16.out.below hb17)
  have Oy017 := Lib.hid (Oy016.out.below hb17)
  have Oy117 := Lib.hid (Oy116.out.below hb17)
  have Oz017 := Lib.hid (Oz016.out.below hb17)
  have Oz117 := Lib.hid (OwnIn.new ho)
  clear hb17 Ot016 Ot116 Ow16 Ox016 Ox116 Og16 Oy016 Oy116 Oz016 ho
  go_wp2_with fail
  refine (HIM.out _ _ _ _ _ _ _ Oz017.out.rd Oz117.out.rd (by omega)).mono ?_
  rintro e w18 ⟨Ah, nh, ch, rfl, ho, hb18⟩
  have b18 : Below w.heap.size w w18 := b17.trans (hb18.mono b17.size)
  have s18 := hb18.size
  have Ot018 := Lib.hid (Ot017.out.below hb18)
  have Ot118 := Lib.hid (Ot117.out.below hb18)
  have Ow18 := Lib.hid (Ow17.out.below hb18)
  have Ox018 := Lib.hid (Ox017.out.below hb18)
  have Ox118 := Lib.hid (Ox117.out.below hb18)
  have Og18 := Lib.hid (Og17.out.below hb18)
  have Oy018 := Lib.hid (Oy017.out.below hb18)
  have Oy118 := Lib.hid (Oy117.out.below hb18)
  have Oz018 := Lib.hid (Oz017.out.below hb18)
  have Oz118 := Lib.hid (Oz117.out.below hb18)
  have Oh18 := Lib.hid (OwnIn.new ho)
  clear hb18 Ot017 Ot117 Ow17 Ox017 Ox117 Og17 Oy017 Oy117 Oz017 Oz117 ho
  go_wp2_with fail
  refine (eqInt64S_any _ _ _ R _ _ _ R _ Oh18.out.rd Ow18.out.rd).mono ?_
  rw [eqL_self]
  rintro e w19 ⟨rfl, hb19⟩
  have b19 : Below w.heap.size w w19 := b18.trans (hb19.mono b18.size)
  have s19 := hb19.size
  have Ot019 := Lib.hid (Ot018.out.below hb19)
  have Ot119 := Lib.hid (Ot118.out.below hb19)
  have Ow19 := Lib.hid (Ow18.out.below hb19)
  have Ox019 := Lib.hid (Ox018.out.below hb19)
  have Ox119 := Lib.hid (Ox118.out.below hb19)
  have Og19 := Lib.hid (Og18.out.below hb19)
  have Oy019 := Lib.hid (Oy018.out.below hb19)
  have Oy119 := Lib.hid (Oy118.out.below hb19)
  have Oz019 := Lib.hid (Oz018.out.below hb19)
  have Oz119 := Lib.hid (Oz118.out.below hb19)
  have Oh19 := Lib.hid (Oh18.out.below hb19)
  clear hb19 Ot018 Ot118 Ow18 Ox018 Ox118 Og18 Oy018 Oy118 Oz018 Oz118 Oh18
  go_wp2_with fail
  refine (heldInt64S_any _ _ _ 1 _ Og19.out.rd (by omega) (by omega)).mono ?_
  rintro e wz ⟨rfl, rfl⟩
  go_wp2_with fail
  go_ret
  exact ⟨rfl, b19⟩

end Go.Proofs.Ytfjmohnlllbgmaa
