/- SameOps: l00Same, slices.Equal, EqualFunc; program, reference, law. Printed by mksm.py. -/
import Derived.Test.YtgghjieeckkpbaaDoorOk
import Derived.Test.YtgghjieeckkpbaaDoorOwn
namespace Go.Proofs.YtgghjieeckkpbaaDoor
open Go.RowKit

set_option maxRecDepth 100000 in
set_option maxHeartbeats 1000000 in
theorem l00Same_any (A : Option Addr) (n c : Nat) (xs : List Int) (B : Option Addr) (m d : Nat) (ys : List Int) (w : World) (hA : Rd w 1 A n c (ints xs)) (hB : Rd w 1 B m d (ints ys)) :
    Calls Tryd.prog 61 #[.slice A n c, .slice B m d] w fun e w' => e = .returned (.bool (eqL xs ys)) ∧ ∃ q, w' = w.drewN q := by
  have hlx := hA.ilen
  have hly := hB.ilen
  have h1 := hA.cap
  have h2 := hA.max
  have h3 := hB.cap
  have h4 := hB.max
  by_cases hnm : n = m
  · subst hnm
    have HA := Lib.hid hA
    have HB := Lib.hid hB
    have HX := Lib.hid hlx
    have HY := Lib.hid hly
    clear hA hB hlx hly
    go_enter Tryd.func61, Tryd.ntmps61
    go_wp2
    go_loopw [5] (fun i wr => ∃ k : Nat, k ≤ n ∧ i = .int .i64 k ∧ Hid (xs.take k = ys.take k) ∧ ∃ q, wr = w.drewN q) (fun i _ => n - (intOf i).toNat)
    case atStart => exact ⟨0, Nat.zero_le _, rfl, (show Hid _ from rfl), 0, rfl⟩
    case round =>
      obtain ⟨k, hk, rfl, HT, q0, hq0⟩ := hrel
      have hb : Below w.heap.size w wr := by rw [hq0]; exact below_drewN (Below.refl _ _) _
      have HQ := Lib.hid hq0
      by_cases hlt : k < n
      · obtain ⟨b, o, x, hA, hbl, hx, hc⟩ := HA.out.int hlt
        obtain ⟨b', o', y, hB, hbl', hy, hc'⟩ := HB.out.int hlt
        subst hA
        subst hB
        have hcx := cell_bel hc hb
        have hcy := cell_bel hc' hb
        have HX' := Lib.hid hx
        have HY' := Lib.hid hy
        clear hx hy hc hc' hb hq0
        have hk0 : (0 : Int) ≤ (k : Int) := by omega
        have hk1 : (k : Int) < (n : Int) := by omega
        by_cases hxy : x = y
        · subst hxy
          go_wp2
          go_quiet (fail)
          go_wp2
          go_roundw
          case rel => exact ⟨k + 1, by omega, by go_num, Lib.hid (take_eq_succ HT.out HX'.out HY'.out), q0 + nq, by rw [HQ.out]; simp⟩
          case measure => simp [intOf]; omega
        · have hne : (x != y) = true := by simpa using hxy
          go_wp2
          go_quiet (fail)
          go_wp2
          go_ret
          exact ⟨ret_b (ne_of_at HX'.out HY'.out hxy).symm, q0 + nq, by rw [HQ.out]; simp⟩
      · clear hb hq0
        go_wp2
        go_ret
        refine ⟨ret_b ?_, q0, HQ.out⟩
        have e1 := HX.out
        have e2 := HY.out
        have e3 := HT.out
        rw [List.take_of_length_le (by omega), List.take_of_length_le (by omega)] at e3
        rw [e3, eqL_self]
  · go_enter Tryd.func61, Tryd.ntmps61
    go_wp2
    go_ret
    refine ⟨ret_b ?_, 0, rfl⟩
    unfold eqL
    rw [eq_comm, decide_eq_false_iff_not]
    intro e
    rw [e] at hlx
    omega

set_option maxRecDepth 100000 in
set_option maxHeartbeats 1000000 in
theorem equal_any (A : Option Addr) (n c : Nat) (xs : List Int) (B : Option Addr) (m d : Nat) (ys : List Int) (w : World) (hA : Rd w 1 A n c (ints xs)) (hB : Rd w 1 B m d (ints ys)) :
    Calls Tryd.prog 60 #[.slice A n c, .slice B m d] w fun e w' => e = .returned (.bool (eqL xs ys)) ∧ ∃ q, w' = w.drewN q := by
  have hlx := hA.ilen
  have hly := hB.ilen
  have h1 := hA.cap
  have h2 := hA.max
  have h3 := hB.cap
  have h4 := hB.max
  by_cases hnm : n = m
  · subst hnm
    have HA := Lib.hid hA
    have HB := Lib.hid hB
    have HX := Lib.hid hlx
    have HY := Lib.hid hly
    clear hA hB hlx hly
    go_enter Tryd.func60, Tryd.ntmps60
    go_wp2
    go_loopw [13] (fun i wr => ∃ k : Nat, k ≤ n ∧ i = .int .i64 k ∧ Hid (xs.take k = ys.take k) ∧ ∃ q, wr = w.drewN q) (fun i _ => n - (intOf i).toNat)
    case atStart => exact ⟨0, Nat.zero_le _, rfl, (show Hid _ from rfl), 0, rfl⟩
    case round =>
      obtain ⟨k, hk, rfl, HT, q0, hq0⟩ := hrel
      have hb : Below w.heap.size w wr := by rw [hq0]; exact below_drewN (Below.refl _ _) _
      have HQ := Lib.hid hq0
      by_cases hlt : k < n
      · obtain ⟨b, o, x, hA, hbl, hx, hc⟩ := HA.out.int hlt
        obtain ⟨b', o', y, hB, hbl', hy, hc'⟩ := HB.out.int hlt
        subst hA
        subst hB
        have hcx := cell_bel hc hb
        have hcy := cell_bel hc' hb
        have HX' := Lib.hid hx
        have HY' := Lib.hid hy
        clear hx hy hc hc' hb hq0
        have hk0 : (0 : Int) ≤ (k : Int) := by omega
        have hk1 : (k : Int) < (n : Int) := by omega
        by_cases hxy : x = y
        · subst hxy
          go_wp2
          go_quiet (fail)
          go_wp2
          go_roundw
          case rel => exact ⟨k + 1, by omega, by go_num, Lib.hid (take_eq_succ HT.out HX'.out HY'.out), q0 + nq, by rw [HQ.out]; simp⟩
          case measure => simp [intOf]; omega
        · have hne : (x != y) = true := by simpa using hxy
          go_wp2
          go_quiet (fail)
          go_wp2
          go_ret
          exact ⟨ret_b (ne_of_at HX'.out HY'.out hxy).symm, q0 + nq, by rw [HQ.out]; simp⟩
      · clear hb hq0
        go_wp2
        go_ret
        refine ⟨ret_b ?_, q0, HQ.out⟩
        have e1 := HX.out
        have e2 := HY.out
        have e3 := HT.out
        rw [List.take_of_length_le (by omega), List.take_of_length_le (by omega)] at e3
        rw [e3, eqL_self]
  · go_enter Tryd.func60, Tryd.ntmps60
    go_wp2
    go_ret
    refine ⟨ret_b ?_, 0, rfl⟩
    unfold eqL
    rw [eq_comm, decide_eq_false_iff_not]
    intro e
    rw [e] at hlx
    omega

/-- Are two operations equal? -/
def sameP (p q : OpV) : Bool := (p.nm.toList == q.nm.toList) && (p.mn == q.mn) && eqL p.bf q.bf
def sameAt (a b : List OpV) (k : Nat) : Bool := match a[k]?, b[k]? with
  | some p, some q => sameP p q
  | _, _ => false
def sameO (a b : List OpV) : Bool := decide (a.length = b.length) && (List.range a.length).all (sameAt a b)
theorem same_len {a b : List OpV} (h : a.length ≠ b.length) : sameO a b = false := by
  unfold sameO
  rw [decide_eq_false h, Bool.false_and]
theorem same_no {a b : List OpV} {k : Nat} {p q : OpV} (hp : a[k]? = some p) (hq : b[k]? = some q) (h : sameP p q = false) : sameO a b = false := by
  unfold sameO
  have : (List.range a.length).all (sameAt a b) = false := by
    rw [List.all_eq_false]
    refine ⟨k, List.mem_range.2 (List.getElem?_eq_some_iff.1 hp).1, ?_⟩
    unfold sameAt
    rw [hp, hq]
    simp [h]
  rw [this, Bool.and_false]
theorem same_yes {a b : List OpV} (hl : a.length = b.length) (h : ∀ (k : Nat) (p q : OpV), a[k]? = some p → b[k]? = some q → sameP p q = true) : sameO a b = true := by
  unfold sameO
  rw [decide_eq_true hl, Bool.true_and, List.all_eq_true]
  intro k hk
  have hk := List.mem_range.1 hk
  have hp := List.getElem?_eq_getElem (l := a) (i := k) hk
  have hq := List.getElem?_eq_getElem (l := b) (i := k) (by omega)
  unfold sameAt
  rw [hp, hq]
  exact h k _ _ hp hq

set_option maxRecDepth 100000 in
set_option maxHeartbeats 1000000 in
theorem samePr_any (p q : OpV) (A : Option Addr) (n c : Nat) (B : Option Addr) (m d : Nat) (w : World) (hA : Rd w 1 A n c (ints p.bf)) (hB : Rd w 1 B m d (ints q.bf)) :
    Calls Tryd.prog 59 #[.agg #[.string p.nm, .int .i64 p.mn, .slice A n c], .agg #[.string q.nm, .int .i64 q.mn, .slice B m d]] w fun e w' => e = .returned (.bool (sameP p q)) ∧ Below w.heap.size w w' := by
  have hb1 : Below w.heap.size w ((w.alloc (Obj.cells #[.string p.nm, .int .i64 p.mn, .slice A n c] 53)).alloc (Obj.cells #[.string q.nm, .int .i64 q.mn, .slice B m d] 53)) := (by go_grown)
  have hcall := equal_any A n c p.bf B m d q.bf _ (hA.below hb1) (hB.below hb1)
  unfold sameP
  generalize eqL p.bf q.bf = z at *
  have HC := Lib.hid hcall
  have HB1 := Lib.hid hb1
  clear hA hB hcall hb1
  cases e1 : (p.nm.toList == q.nm.toList) with
  | false =>
    go_enter Tryd.func59, Tryd.ntmps59
    go_wp2
    go_ret
    exact ⟨rfl, HB1.out⟩
  | true =>
    cases e2 : (p.mn == q.mn) with
    | false =>
      go_enter Tryd.func59, Tryd.ntmps59
      go_wp2
      go_ret
      exact ⟨rfl, HB1.out⟩
    | true =>
      go_enter Tryd.func59, Tryd.ntmps59
      go_wp2_with fail
      refine (HC.out).mono ?_
      rintro e w2 ⟨rfl, x, rfl⟩
      go_wp2
      go_ret
      exact ⟨rfl, below_drewN HB1.out _⟩

set_option maxRecDepth 100000 in
set_option maxHeartbeats 1000000 in
theorem equalFunc_any (A : Option Addr) (n c : Nat) (a : List OpV) (B : Option Addr) (m d : Nat) (b : List OpV) (w : World) (h : RdO w A n c a) (h' : RdO w B m d b) :
    Calls Tryd.prog 58 #[.slice A n c, .slice B m d, .func (.func 59) #[] #[]] w fun e w' => e = .returned (.bool (sameO a b)) ∧ Below w.heap.size w w' := by
  have eg : ∀ args w, (callFunc 59 args).run Tryd.prog w = .ok (.enter 59 args) w := enters_of Tryd.func59 (by kernel_rfl) rfl
  have hl := h.len
  have hl' := h'.len
  have h1 := h.cap
  have h2 := h.max
  have h3 := h'.cap
  have h4 := h'.max
  have hlen := same_len (a := a) (b := b)
  have hno := fun k p q hp hq => same_no (a := a) (b := b) (k := k) (p := p) (q := q) hp hq
  have hyes := same_yes (a := a) (b := b)
  generalize sameO a b = R at *
  by_cases hnm : n = m
  · subst hnm
    have H := Lib.hid h
    have H' := Lib.hid h'
    have HL := Lib.hid hl
    have HL' := Lib.hid hl'
    have HNO := Lib.hid hno
    have HYE := Lib.hid hyes
    clear h h' hl hl' hlen hno hyes
    go_enter Tryd.func58, Tryd.ntmps58
    go_wp2
    go_loopw [17] (fun i wr => ∃ k : Nat, k ≤ n ∧ i = .int .i64 k ∧ Hid (∀ (j : Nat) (p q : OpV), j < k → a[j]? = some p → b[j]? = some q → sameP p q = true) ∧ Below w.heap.size w wr) (fun i _ => n - (intOf i).toNat)
    case atStart => exact ⟨0, Nat.zero_le _, rfl, (show Hid _ from fun j _ _ hj => absurd hj (Nat.not_lt_zero _)), Below.refl _ _⟩
    case round =>
      obtain ⟨k, hk, rfl, HE, hb⟩ := hrel
      have Hb := Lib.hid hb
      by_cases hlt : k < n
      · have hk0 : (0 : Int) ≤ (k : Int) := by omega
        have hk1 : (k : Int) < (n : Int) := by omega
        obtain ⟨p, x, o, C, m1, d1, hp, hps, hA, hbl, c0, c1, c2, hr⟩ := (H.out.below hb).op hlt
        obtain ⟨q, x', o', C', m1', d1', hq, hqs, hA', hbl', e0, e1, e2, hr'⟩ := (H'.out.below hb).op hlt
        subst hA
        subst hA'
        have ha1 : Below wr.heap.size wr (wr.alloc (Obj.cells #[.string p.nm, .int .i64 p.mn, .slice C m1 d1] 53)) := (by go_grown)
        have f0 := cell_bel e0 ha1
        have f1 := cell_bel e1 ha1
        have f2 := cell_bel e2 ha1
        have ha2 : Below wr.heap.size wr ((wr.alloc (Obj.cells #[.string p.nm, .int .i64 p.mn, .slice C m1 d1] 53)).alloc (Obj.cells #[.string q.nm, .int .i64 q.mn, .slice C' m1' d1'] 53)) := (by go_grown)
        have hcall := samePr_any p q C m1 d1 C' m1' d1' _ (hr.below ha2) (hr'.below ha2)
        have hnk := HNO.out k p q hp hq
        have HP := Lib.hid hp
        have HQ := Lib.hid hq
        have HSQ : Hid (sameP p q = true → ∀ (j : Nat) (p q : OpV), j < k + 1 → a[j]? = some p → b[j]? = some q → sameP p q = true) := Lib.hid (fun hs j p' q' hj hp' hq' => by
          by_cases e : j = k
          · subst e
            rw [HP.out] at hp'
            rw [HQ.out] at hq'
            injection hp' with hp'
            injection hq' with hq'
            subst hp'
            subst hq'
            exact hs
          · exact HE.out j p' q' (by omega) hp' hq')
        generalize sameP p q = s at *
        have HC := Lib.hid hcall
        have HNK := Lib.hid hnk
        have HA2 := Lib.hid (Hb.out.trans (ha2.mono Hb.out.size))
        clear hcall hnk ha1 ha2 hr hr' hp hq hb
        cases s with
        | true =>
          have HE2 := Lib.hid (HSQ.out (by trivial))
          go_wp2_with (go_at_fn 59; refine (HC.out).mono ?_; rintro e w2 ⟨rfl, hb2⟩)
          have HB2 := Lib.hid (HA2.out.trans (hb2.mono HA2.out.size))
          go_roundw
          case rel => exact ⟨k + 1, by omega, by go_num, HE2, HB2.out⟩
          case measure => simp [intOf]; omega
        | false =>
          have hR := HNK.out (by trivial)
          subst hR
          go_wp2_with (go_at_fn 59; refine (HC.out).mono ?_; rintro e w2 ⟨rfl, hb2⟩)
          go_ret
          exact ⟨rfl, HA2.out.trans (hb2.mono HA2.out.size)⟩
      · have hR := HYE.out (by rw [HL.out, HL'.out]) (fun j p q hp hq => HE.out j p q (by have := (List.getElem?_eq_some_iff.1 hp).1; rw [HL.out] at this; omega) hp hq)
        subst hR
        clear hb
        go_wp2
        go_ret
        exact ⟨rfl, Hb.out⟩
  · have hR := hlen (by omega)
    subst hR
    clear h h' hlen hno hyes
    go_enter Tryd.func58, Tryd.ntmps58
    go_wp2
    go_ret
    exact ⟨rfl, Below.refl _ _⟩

set_option maxHeartbeats 1000000 in
theorem implSameOps_any (A : Option Addr) (n c : Nat) (a : List OpV) (B : Option Addr) (m d : Nat) (b : List OpV) (w : World) (h : RdO w A n c a) (h' : RdO w B m d b) :
    Calls Tryd.prog 25 #[.slice A n c, .slice B m d] w fun e w' => e = .returned (.bool (sameO a b)) ∧ Below w.heap.size w w' := by
  have hcall := equalFunc_any A n c a B m d b w h h'
  generalize sameO a b = R at *
  have HC := Lib.hid hcall
  clear hcall h h'
  go_enter Tryd.func25, Tryd.ntmps25
  go_wp2_with fail
  refine (HC.out).mono ?_
  rintro e w2 ⟨rfl, hb⟩
  go_wp2
  go_ret
  exact ⟨rfl, hb⟩

set_option maxRecDepth 100000 in
set_option maxHeartbeats 1000000 in
theorem specSameOps_any (A : Option Addr) (n c : Nat) (a : List OpV) (B : Option Addr) (m d : Nat) (b : List OpV) (w : World) (h : RdO w A n c a) (h' : RdO w B m d b) :
    Calls Tryd.prog 26 #[.slice A n c, .slice B m d] w fun e w' => e = .returned (.bool (sameO a b)) ∧ Below w.heap.size w w' := by
  have hl := h.len
  have hl' := h'.len
  have h1 := h.cap
  have h2 := h.max
  have h3 := h'.cap
  have h4 := h'.max
  have hlen := same_len (a := a) (b := b)
  have hno := fun k p q hp hq => same_no (a := a) (b := b) (k := k) (p := p) (q := q) hp hq
  have hyes := same_yes (a := a) (b := b)
  generalize sameO a b = R at *
  by_cases hnm : n = m
  · subst hnm
    have H := Lib.hid h
    have H' := Lib.hid h'
    have HL := Lib.hid hl
    have HL' := Lib.hid hl'
    have HNO := Lib.hid hno
    have HYE := Lib.hid hyes
    clear h h' hl hl' hlen hno hyes
    go_enter Tryd.func26, Tryd.ntmps26
    go_wp2
    go_loopw [5] (fun i wr => ∃ k : Nat, k ≤ n ∧ i = .int .i64 k ∧ Hid (∀ (j : Nat) (p q : OpV), j < k → a[j]? = some p → b[j]? = some q → sameP p q = true) ∧ Below w.heap.size w wr) (fun i _ => n - (intOf i).toNat)
    case atStart => exact ⟨0, Nat.zero_le _, rfl, (show Hid _ from fun j _ _ hj => absurd hj (Nat.not_lt_zero _)), Below.refl _ _⟩
    case round =>
      obtain ⟨k, hk, rfl, HE, hb⟩ := hrel
      have Hb := Lib.hid hb
      by_cases hlt : k < n
      · have hk0 : (0 : Int) ≤ (k : Int) := by omega
        have hk1 : (k : Int) < (n : Int) := by omega
        obtain ⟨p, x, o, C, m1, d1, hp, hps, hA, hbl, c0, c1, c2, hr⟩ := (H.out.below hb).op hlt
        obtain ⟨q, x', o', C', m1', d1', hq, hqs, hA', hbl', e0, e1, e2, hr'⟩ := (H'.out.below hb).op hlt
        subst hA
        subst hA'
        have hcall := fun y => l00Same_any C m1 d1 p.bf C' m1' d1' q.bf (wr.drewN y) (hr.below (below_drewN (Below.refl _ _) y)) (hr'.below (below_drewN (Below.refl _ _) y))
        have hnk := HNO.out k p q hp hq
        have HP := Lib.hid hp
        have HQ := Lib.hid hq
        have HSQ : Hid (sameP p q = true → ∀ (j : Nat) (p q : OpV), j < k + 1 → a[j]? = some p → b[j]? = some q → sameP p q = true) := Lib.hid (fun hs j p' q' hj hp' hq' => by
          by_cases e : j = k
          · subst e
            rw [HP.out] at hp'
            rw [HQ.out] at hq'
            injection hp' with hp'
            injection hq' with hq'
            subst hp'
            subst hq'
            exact hs
          · exact HE.out j p' q' (by omega) hp' hq')
        have hsp : sameP p q = ((p.nm.toList == q.nm.toList) && (p.mn == q.mn) && eqL p.bf q.bf) := rfl
        generalize eqL p.bf q.bf = z at *
        generalize sameP p q = s at *
        have HC := Lib.hid hcall
        have HNK := Lib.hid hnk
        clear hcall hnk hr hr' hp hq hb
        cases x1 : (p.nm.toList == q.nm.toList) with
        | false =>
          have y1 : (p.nm.toList != q.nm.toList) = true := by simp [bne, x1]
          rw [x1] at hsp
          have hR := HNK.out (by rw [hsp]; rfl)
          subst hR
          clear hsp HNK HSQ
          go_wp2
          go_quiet (first | (go_at_call 61; exact Calls.quiet_of (HC.out _)))
          go_wp2
          go_ret
          exact ⟨rfl, below_drewN Hb.out _⟩
        | true =>
          have y1 : (p.nm.toList != q.nm.toList) = false := by simp [bne, x1]
          rw [x1] at hsp
          cases x2 : (p.mn == q.mn) with
          | false =>
            have y2 : (p.mn != q.mn) = true := by simp [bne, x2]
            rw [x2] at hsp
            have hR := HNK.out (by rw [hsp]; rfl)
            subst hR
            clear hsp HNK HSQ
            go_wp2
            go_quiet (first | (go_at_call 61; exact Calls.quiet_of (HC.out _)))
            go_wp2
            go_ret
            exact ⟨rfl, below_drewN Hb.out _⟩
          | true =>
            have y2 : (p.mn != q.mn) = false := by simp [bne, x2]
            rw [x2] at hsp
            cases z with
            | false =>
              have hR := HNK.out (by rw [hsp]; rfl)
              subst hR
              clear hsp HNK HSQ
              go_wp2
              go_quiet (first | (go_at_call 61; exact Calls.quiet_of (HC.out _)))
              go_wp2
              go_ret
              exact ⟨rfl, below_drewN Hb.out _⟩
            | true =>
              have HE2 := Lib.hid (HSQ.out (by rw [hsp]; rfl))
              clear hsp HNK HSQ
              go_wp2
              go_quiet (first | (go_at_call 61; exact Calls.quiet_of (HC.out _)))
              go_wp2
              go_roundw
              case rel => exact ⟨k + 1, by omega, by go_num, HE2, below_drewN Hb.out _⟩
              case measure => simp [intOf]; omega
      · have hR := HYE.out (by rw [HL.out, HL'.out]) (fun j p q hp hq => HE.out j p q (by have := (List.getElem?_eq_some_iff.1 hp).1; rw [HL.out] at this; omega) hp hq)
        subst hR
        clear hb
        go_wp2
        go_ret
        exact ⟨rfl, Hb.out⟩
  · have hR := hlen (by omega)
    subst hR
    clear h h' hlen hno hyes
    go_enter Tryd.func26, Tryd.ntmps26
    go_wp2
    go_ret
    exact ⟨rfl, Below.refl _ _⟩

end Go.Proofs.YtgghjieeckkpbaaDoor
