/- SameOps: l00Same, slices.Equal, EqualFunc; program, reference, law. Printed by mksm.py. -/
import Derived.Test.YtgghjieeckkpbaaOk
import Derived.Test.YtgghjieeckkpbaaOwn
namespace Go.Proofs.Ytgghjieeckkpbaa
open Go.RowKit

set_option maxRecDepth 100000 in
set_option maxHeartbeats 1000000 in
theorem l00Same_any (A : Option Addr) (n c : Nat) (xs : List Int) (B : Option Addr) (m d : Nat) (ys : List Int) (w : World) (hA : Rd w 1 A n c (ints xs)) (hB : Rd w 1 B m d (ints ys)) :
    Calls Try.prog 77 #[.slice A n c, .slice B m d] w fun e w' => e = .returned (.bool (eqL xs ys)) ∧ ∃ q, w' = w.drewN q := by
  have hlx := hA.ilen
  have hly := hB.ilen
  have h1 := hA.cap
  have h2 := hA.max
  have h3 := hB.cap
  have h4 := hB.max
  by_cases hnm : n = m
  · subst hnm
    have HA := Lib.hid hA
    have HB := Lib.hid hB
    have HX := Lib.hid hlx
    have HY := Lib.hid hly
    clear hA hB hlx hly
    go_enter Try.func77, Try.ntmps77
    go_wp2
    go_loopw [5] (fun i wr => ∃ k : Nat, k ≤ n ∧ i = .int .i64 k ∧ Hid (xs.take k = ys.take k) ∧ ∃ q, wr = w.drewN q) (fun i _ => n - (intOf i).toNat)
    case atStart => exact ⟨0, Nat.zero_le _, rfl, (show Hid _ from rfl), 0, rfl⟩
    case round =>
      obtain ⟨k, hk, rfl, HT, q0, hq0⟩ := hrel
      have hb : Below w.heap.size w wr := by rw [hq0]; exact below_drewN (Below.refl _ _) _
      have HQ := Lib.hid hq0
      by_cases hlt : k < n
      · obtain ⟨b, o, x, hA, hbl, hx, hc⟩ := HA.out.int hlt
        obtain ⟨b', o', y, hB, hbl', hy, hc'⟩ := HB.out.int hlt
        subst hA
        subst hB
        have hcx := cell_bel hc hb
        have hcy := cell_bel hc' hb
        have HX' := Lib.hid hx
        have HY' := Lib.hid hy
        clear hx hy hc hc' hb hq0
        have hk0 : (0 : Int) ≤ (k : Int) := by omega
        have hk1 : (k : Int) < (n : Int) := by omega
        by_cases hxy : x = y
        · subst hxy
          go_wp2
          go_quiet (fail)
          go_wp2
          go_roundw
          case rel => exact ⟨k + 1, by omega, by go_num, Lib.hid (take_eq_succ HT.out HX'.out HY'.out), q0 + nq, by rw [HQ.out]; simp⟩
          case measure => simp [intOf]; omega
        · have hne : (x != y) = true := by simpa using hxy
          go_wp2
          go_quiet (fail)
          go_wp2
          go_ret
          exact ⟨ret_b (ne_of_at HX'.out HY'.out hxy).symm, q0 + nq, by rw [HQ.out]; simp⟩
      · clear hb hq0
        go_wp2
        go_ret
        refine ⟨ret_b ?_, q0, HQ.out⟩
        have e1 := HX.out
        have e2 := HY.out
        have e3 := HT.out
        rw [List.take_of_length_le (by omega), List.take_of_length_le (by omega)] at e3
        rw [e3, eqL_self]
  · go_enter Try.func77, Try.ntmps77
    go_wp2
    go_ret
    refine ⟨ret_b ?_, 0, rfl⟩
    unfold eqL
    rw [eq_comm, decide_eq_false_iff_not]
    intro e
    rw [e] at hlx
    omega

set_option maxRecDepth 100000 in
set_option maxHeartbeats 1000000 in
theorem equal_any (A : Option Addr) (n c : Nat) (xs : List Int) (B : Option Addr) (m d : Nat) (ys : List Int) (w : World) (hA : Rd w 1 A n c (ints xs)) (hB : Rd w 1 B m d (ints ys)) :
    Calls Try.prog 81 #[.slice A n c, .slice B m d] w fun e w' => e = .returned (.bool (eqL xs ys)) ∧ ∃ q, w' = w.drewN q := by
  have hlx := hA.ilen
  have hly := hB.ilen
  have h1 := hA.cap
  have h2 := hA.max
  have h3 := hB.cap
  have h4 := hB.max
  by_cases hnm : n = m
  · subst hnm
    have HA := Lib.hid hA
    have HB := Lib.hid hB
    have HX := Lib.hid hlx
    have HY := Lib.hid hly
    clear hA hB hlx hly
    go_enter Try.func81, Try.ntmps81
    go_wp2
    go_loopw [13] (fun i wr => ∃ k : Nat, k ≤ n ∧ i = .int .i64 k ∧ Hid (xs.take k = ys.take k) ∧ ∃ q, wr = w.drewN q) (fun i _ => n - (intOf i).toNat)
    case atStart => exact ⟨0, Nat.zero_le _, rfl, (show Hid _ from rfl), 0, rfl⟩
    case round =>
      obtain ⟨k, hk, rfl, HT, q0, hq0⟩ := hrel
      have hb : Below w.heap.size w wr := by rw [hq0]; exact below_drewN (Below.refl _ _) _
      have HQ := Lib.hid hq0
      by_cases hlt : k < n
      · obtain ⟨b, o, x, hA, hbl, hx, hc⟩ := HA.out.int hlt
        obtain ⟨b', o', y, hB, hbl', hy, hc'⟩ := HB.out.int hlt
        subst hA
        subst hB
        have hcx := cell_bel hc hb
        have hcy := cell_bel hc' hb
        have HX' := Lib.hid hx
        have HY' := Lib.hid hy
        clear hx hy hc hc' hb hq0
        have hk0 : (0 : Int) ≤ (k : Int) := by omega
        have hk1 : (k : Int) < (n : Int) := by omega
        by_cases hxy : x = y
        · subst hxy
          go_wp2
          go_quiet (fail)
          go_wp2
          go_roundw
          case rel => exact ⟨k + 1, by omega, by go_num, Lib.hid (take_eq_succ HT.out HX'.out HY'.out), q0 + nq, by rw [HQ.out]; simp⟩
          case measure => simp [intOf]; omega
        · have hne : (x != y) = true := by simpa using hxy
          go_wp2
          go_quiet (fail)
          go_wp2
          go_ret
          exact ⟨ret_b (ne_of_at HX'.out HY'.out hxy).symm, q0 + nq, by rw [HQ.out]; simp⟩
      · clear hb hq0
        go_wp2
        go_ret
        refine ⟨ret_b ?_, q0, HQ.out⟩
        have e1 := HX.out
        have e2 := HY.out
        have e3 := HT.out
        rw [List.take_of_length_le (by omega), List.take_of_length_le (by omega)] at e3
        rw [e3, eqL_self]
  · go_enter Try.func81, Try.ntmps81
    go_wp2
    go_ret
    refine ⟨ret_b ?_, 0, rfl⟩
    unfold eqL
    rw [eq_comm, decide_eq_false_iff_not]
    intro e
    rw [e] at hlx
    omega

/-- Are two operations equal? -/
def sameP (p q : OpV) : Bool := (p.nm.toList == q.nm.toList) && (p.mn == q.mn) && eqL p.bf q.bf
def sameAt (a b : List OpV) (k : Nat) : Bool := match a[k]?, b[k]? with
  | some p, some q => sameP p q
  | _, _ => false
def sameO (a b : List OpV) : Bool := decide (a.length = b.length) && (List.range a.length).all (sameAt a b)
theorem same_len {a b : List OpV} (h : a.length ≠ b.length) : sameO a b = false := by
  unfold sameO
  rw [decide_eq_false h, Bool.false_and]
theorem same_no {a b : List OpV} {k : Nat} {p q : OpV} (hp : a[k]? = some p) (hq : b[k]? = some q) (h : sameP p q = false) : sameO a b = false := by
  unfold sameO
  have : (List.range a.length).all (sameAt a b) = false := by
    rw [List.all_eq_false]
    refine ⟨k, List.mem_range.2 (List.getElem?_eq_some_iff.1 hp).1, ?_⟩
    unfold sameAt
    rw [hp, hq]
    simp [h]
  rw [this, Bool.and_false]
theorem same_yes {a b : List OpV} (hl : a.length = b.length) (h : ∀ (k : Nat) (p q : OpV), a[k]? = some p → b[k]? = some q → sameP p q = true) : sameO a b = true := by
  unfold sameO
  rw [decide_eq_true hl, Bool.true_and, List.all_eq_true]
  intro k hk
  have hk := List.mem_range.1 hk
  have hp := List.getElem?_eq_getElem (l := a) (i := k) hk
  have hq := List.getElem?_eq_getElem (l := b) (i := k) (by omega)
  unfold sameAt
  rw [hp, hq]
  exact h k _ _ hp hq

set_option maxRecDepth 100000 in
set_option maxHeartbeats 1000000 in
theorem samePr_any (p q : OpV) (A : Option Addr) (n c : Nat) (B : Option Addr) (m d : Nat) (w : World) (hA : Rd w 1 A n c (ints p.bf)) (hB : Rd w 1 B m d (ints q.bf)) :
    Calls Try.prog 80 #[.agg #[.string p.nm, .int .i64 p.mn, .slice A n c], .agg #[.string q.nm, .int .i64 q.mn, .slice B m d]] w fun e w' => e = .returned (.bool (sameP p q)) ∧ Below w.heap.size w w' := by
  have hb1 : Below w.heap.size w ((w.alloc (Obj.cells #[.string p.nm, .int .i64 p.mn, .slice A n c] 41)).alloc (Obj.cells #[.string q.nm, .int .i64 q.mn, .slice B m d] 41)) := (by go_grown)
  have hcall := equal_any A n c p.bf B m d q.bf _ (hA.below hb1) (hB.below hb1)
  unfold sameP
  generalize eqL p.bf q.bf = z at *
  have HC := Lib.hid hcall
  have HB1 := Lib.hid hb1
  clear hA hB hcall hb1
  cases e1 : (p.nm.toList == q.nm.toList) with
  | false =>
    go_enter Try.func80, Try.ntmps80
    go_wp2
    go_ret
    exact ⟨rfl, HB1.out⟩
  | true =>
    cases e2 : (p.mn == q.mn) with
    | false =>
      go_enter Try.func80, Try.ntmps80
      go_wp2
      go_ret
      exact ⟨rfl, HB1.out⟩
    | true =>
      go_enter Try.func80, Try.ntmps80
      go_wp2_with fail
      refine (HC.out).mono ?_
      rintro e w2 ⟨rfl, x, rfl⟩
      go_wp2
      go_ret
      exact ⟨rfl, below_drewN HB1.out _⟩

set_option maxRecDepth 100000 in
set_option maxHeartbeats 1000000 in
theorem equalFunc_any (A : Option Addr) (n c : Nat) (a : List OpV) (B : Option Addr) (m d : Nat) (b : List OpV) (w : World) (h : RdO w A n c a) (h' : RdO w B m d b) :
    Calls Try.prog 79 #[.slice A n c, .slice B m d, .func (.func 80) #[] #[]] w fun e w' => e = .returned (.bool (sameO a b)) ∧ Below w.heap.size w w' := by
  have eg : ∀ args w, (callFunc 80 args).run Try.prog w = .ok (.enter 80 args) w := enters_of Try.func80 (by kernel_rfl) rfl
  have hl := h.len
  have hl' := h'.len
  have h1 := h.cap
  have h2 := h.max
  have h3 := h'.cap
  have h4 := h'.max
  have hlen := same_len (a := a) (b := b)
  have hno := fun k p q hp hq => same_no (a := a) (b := b) (k := k) (p := p) (q := q) hp hq
  have hyes := same_yes (a := a) (b := b)
  generalize sameO a b = R at *
  by_cases hnm : n = m
  · subst hnm
    have H := Lib.hid h
    have H' := Lib.hid h'
    have HL := Lib.hid hl
    have HL' := Lib.hid hl'
    have HNO := Lib.hid hno
    have HYE := Lib.hid hyes
    clear h h' hl hl' hlen hno hyes
    go_enter Try.func79, Try.ntmps79
    go_wp2
    go_loopw [17] (fun i wr => ∃ k : Nat, k ≤ n ∧ i = .int .i64 k ∧ Hid (∀ (j : Nat) (p q : OpV), j < k → a[j]? = some p → b[j]? = some q → sameP p q = true) ∧ Below w.heap.size w wr) (fun i _ => n - (intOf i).toNat)
    case atStart => exact ⟨0, Nat.zero_le _, rfl, (show Hid _ from fun j _ _ hj => absurd hj (Nat.not_lt_zero _)), Below.refl _ _⟩
    case round =>
      obtain ⟨k, hk, rfl, HE, hb⟩ := hrel
      have Hb := Lib.hid hb
      by_cases hlt : k < n
      · have hk0 : (0 : Int) ≤ (k : Int) := by omega
        have hk1 : (k : Int) < (n : Int) := by omega
        obtain ⟨p, x, o, C, m1, d1, hp, hps, hA, hbl, c0, c1, c2, hr⟩ := (H.out.below hb).op hlt
        obtain ⟨q, x', o', C', m1', d1', hq, hqs, hA', hbl', e0, e1, e2, hr'⟩ := (H'.out.below hb).op hlt
        subst hA
        subst hA'
        have ha1 : Below wr.heap.size wr (wr.alloc (Obj.cells #[.string p.nm, .int .i64 p.mn, .slice C m1 d1] 41)) := (by go_grown)
        have f0 := cell_bel e0 ha1
        have f1 := cell_bel e1 ha1
        have f2 := cell_bel e2 ha1
        have ha2 : Below wr.heap.size wr ((wr.alloc (Obj.cells #[.string p.nm, .int .i64 p.mn, .slice C m1 d1] 41)).alloc (Obj.cells #[.string q.nm, .int .i64 q.mn, .slice C' m1' d1'] 41)) := (by go_grown)
        have hcall := samePr_any p q C m1 d1 C' m1' d1' _ (hr.below ha2) (hr'.below ha2)
        have hnk := HNO.out k p q hp hq
        have HP := Lib.hid hp
        have HQ := Lib.hid hq
        have HSQ : Hid (sameP p q = true → ∀ (j : Nat) (p q : OpV), j < k + 1 → a[j]? = some p → b[j]? = some q → sameP p q = true) := Lib.hid (fun hs j p' q' hj hp' hq' => by
          by_cases e : j = k
          · subst e
            rw [HP.out] at hp'
            rw [HQ.out] at hq'
            injection hp' with hp'
            injection hq' with hq'
            subst hp'
            subst hq'
            exact hs
          · exact HE.out j p' q' (by omega) hp' hq')
        generalize sameP p q = s at *
        have HC := Lib.hid hcall
        have HNK := Lib.hid hnk
        have HA2 := Lib.hid (Hb.out.trans (ha2.mono Hb.out.size))
        clear hcall hnk ha1 ha2 hr hr' hp hq hb
        cases s with
        | true =>
          have HE2 := Lib.hid (HSQ.out (by trivial))
          go_wp2_with (go_at_fn 80; refine (HC.out).mono ?_; rintro e w2 ⟨rfl, hb2⟩)
          have HB2 := Lib.hid (HA2.out.trans (hb2.mono HA2.out.size))
          go_roundw
          case rel => exact ⟨k + 1, by omega, by go_num, HE2, HB2.out⟩
          case measure => simp [intOf]; omega
        | false =>
          have hR := HNK.out (by trivial)
          subst hR
          go_wp2_with (go_at_fn 80; refine (HC.out).mono ?_; rintro e w2 ⟨rfl, hb2⟩)
          go_ret
          exact ⟨rfl, HA2.out.trans (hb2.mono HA2.out.size)⟩
      · have hR := HYE.out (by rw [HL.out, HL'.out]) (fun j p q hp hq => HE.out j p q (by have := (List.getElem?_eq_some_iff.1 hp).1; rw [HL.out] at this; omega) hp hq)
        subst hR
        clear hb
        go_wp2
        go_ret
        exact ⟨rfl, Hb.out⟩
  · have hR := hlen (by omega)
    subst hR
    clear h h' hlen hno hyes
    go_enter Try.func79, Try.ntmps79
    go_wp2
    go_ret
    exact ⟨rfl, Below.refl _ _⟩

set_option maxHeartbeats 1000000 in
theorem implSameOps_any (A : Option Addr) (n c : Nat) (a : List OpV) (B : Option Addr) (m d : Nat) (b : List OpV) (w : World) (h : RdO w A n c a) (h' : RdO w B m d b) :
    Calls Try.prog 34 #[.slice A n c, .slice B m d] w fun e w' => e = .returned (.bool (sameO a b)) ∧ Below w.heap.size w w' := by
  have hcall := equalFunc_any A n c a B m d b w h h'
  generalize sameO a b = R at *
  have HC := Lib.hid hcall
  clear hcall h h'
  go_enter Try.func34, Try.ntmps34
  go_wp2_with fail
  refine (HC.out).mono ?_
  rintro e w2 ⟨rfl, hb⟩
  go_wp2
  go_ret
  exact ⟨rfl, hb⟩

set_option maxRecDepth 100000 in
set_option maxHeartbeats 1000000 in
theorem specSameOps_any (A : Option Addr) (n c : Nat) (a : List OpV) (B : Option Addr) (m d : Nat) (b : List OpV) (w : World) (h : RdO w A n c a) (h' : RdO w B m d b) :
    Calls Try.prog 32 #[.slice A n c, .slice B m d] w fun e w' => e = .returned (.bool (sameO a b)) ∧ Below w.heap.size w w' := by
  have hl := h.len
  have hl' := h'.len
  have h1 := h.cap
  have h2 := h.max
  have h3 := h'.cap
  have h4 := h'.max
  have hlen := same_len (a := a) (b := b)
  have hno := fun k p q hp hq => same_no (a := a) (b := b) (k := k) (p := p) (q := q) hp hq
  have hyes := same_yes (a := a) (b := b)
  generalize sameO a b = R at *
  by_cases hnm : n = m
  · subst hnm
    have H := Lib.hid h
    have H' := Lib.hid h'
    have HL := Lib.hid hl
    have HL' := Lib.hid hl'
    have HNO := Lib.hid hno
    have HYE := Lib.hid hyes
    clear h h' hl hl' hlen hno hyes
    go_enter Try.func32, Try.ntmps32
    go_wp2
    go_loopw [5] (fun i wr => ∃ k : Nat, k ≤ n ∧ i = .int .i64 k ∧ Hid (∀ (j : Nat) (p q : OpV), j < k → a[j]? = some p → b[j]? = some q → sameP p q = true) ∧ Below w.heap.size w wr) (fun i _ => n - (intOf i).toNat)
    case atStart => exact ⟨0, Nat.zero_le _, rfl, (show Hid _ from fun j _ _ hj => absurd hj (Nat.not_lt_zero _)), Below.refl _ _⟩
    case round =>
      obtain ⟨k, hk, rfl, HE, hb⟩ := hrel
      have Hb := Lib.hid hb
      by_cases hlt : k < n
      · have hk0 : (0 : Int) ≤ (k : Int) := by omega
        have hk1 : (k : Int) < (n : Int) := by omega
        obtain ⟨p, x, o, C, m1, d1, hp, hps, hA, hbl, c0, c1, c2, hr⟩ := (H.out.below hb).op hlt
        obtain ⟨q, x', o', C', m1', d1', hq, hqs, hA', hbl', e0, e1, e2, hr'⟩ := (H'.out.below hb).op hlt
        subst hA
        subst hA'
        have hcall := fun y => l00Same_any C m1 d1 p.bf C' m1' d1' q.bf (wr.drewN y) (hr.below (below_drewN (Below.refl _ _) y)) (hr'.below (below_drewN (Below.refl _ _) y))
        have hnk := HNO.out k p q hp hq
        have HP := Lib.hid hp
        have HQ := Lib.hid hq
        have HSQ : Hid (sameP p q = true → ∀ (j : Nat) (p q : OpV), j < k + 1 → a[j]? = some p → b[j]? = some q → sameP p q = true) := Lib.hid (fun hs j p' q' hj hp' hq' => by
          by_cases e : j = k
          · subst e
            rw [HP.out] at hp'
            rw [HQ.out] at hq'
            injection hp' with hp'
            injection hq' with hq'
            subst hp'
            subst hq'
            exact hs
          · exact HE.out j p' q' (by omega) hp' hq')
        have hsp : sameP p q = ((p.nm.toList == q.nm.toList) && (p.mn == q.mn) && eqL p.bf q.bf) := rfl
        generalize eqL p.bf q.bf = z at *
        generalize sameP p q = s at *
        have HC := Lib.hid hcall
        have HNK := Lib.hid hnk
        clear hcall hnk hr hr' hp hq hb
        cases x1 : (p.nm.toList == q.nm.toList) with
        | false =>
          have y1 : (p.nm.toList != q.nm.toList) = true := by simp [bne, x1]
          rw [x1] at hsp
          have hR := HNK.out (by rw [hsp]; rfl)
          subst hR
          clear hsp HNK HSQ
          go_wp2
          go_quiet (first | (go_at_call 77; exact Calls.quiet_of (HC.out _)))
          go_wp2
          go_ret
          exact ⟨rfl, below_drewN Hb.out _⟩
        | true =>
          have y1 : (p.nm.toList != q.nm.toList) = false := by simp [bne, x1]
          rw [x1] at hsp
          cases x2 : (p.mn == q.mn) with
          | false =>
            have y2 : (p.mn != q.mn) = true := by simp [bne, x2]
            rw [x2] at hsp
            have hR := HNK.out (by rw [hsp]; rfl)
            subst hR
            clear hsp HNK HSQ
            go_wp2
            go_quiet (first | (go_at_call 77; exact Calls.quiet_of (HC.out _)))
            go_wp2
            go_ret
            exact ⟨rfl, below_drewN Hb.out _⟩
          | true =>
            have y2 : (p.mn != q.mn) = false := by simp [bne, x2]
            rw [x2] at hsp
            cases z with
            | false =>
              have hR := HNK.out (by rw [hsp]; rfl)
              subst hR
              clear hsp HNK HSQ
              go_wp2
              go_quiet (first | (go_at_call 77; exact Calls.quiet_of (HC.out _)))
              go_wp2
              go_ret
              exact ⟨rfl, below_drewN Hb.out _⟩
            | true =>
              have HE2 := Lib.hid (HSQ.out (by rw [hsp]; rfl))
              clear hsp HNK HSQ
              go_wp2
              go_quiet (first | (go_at_call 77; exact Calls.quiet_of (HC.out _)))
              go_wp2
              go_roundw
              case rel => exact ⟨k + 1, by omega, by go_num, HE2, below_drewN Hb.out _⟩
              case measure => simp [intOf]; omega
      · have hR := HYE.out (by rw [HL.out, HL'.out]) (fun j p q hp hq => HE.out j p q (by have := (List.getElem?_eq_some_iff.1 hp).1; rw [HL.out] at this; omega) hp hq)
        subst hR
        clear hb
        go_wp2
        go_ret
        exact ⟨rfl, Hb.out⟩
  · have hR := hlen (by omega)
    subst hR
    clear h h' hlen hno hyes
    go_enter Try.func32, Try.ntmps32
    go_wp2
    go_ret
    exact ⟨rfl, Below.refl _ _⟩

set_option maxRecDepth 100000 in
set_option maxHeartbeats 8000000 in
theorem law_SameOps (A : Option Addr) (n c : Nat) (a : List OpV) (B : Option Addr) (m d : Nat) (b : List OpV) (w : World) (hA : RdO w A n c a) (hB : RdO w B m d b) :
    Calls Try.prog 4 #[.slice A n c, .slice B m d] w fun e w' => e = .returned (.bool true) ∧ Below w.heap.size w w' := by
  have eA1 := hA.cap
  have eA2 := hA.max
  have lA := hA.len
  have eB1 := hB.cap
  have eB2 := hB.max
  have lB := hB.len
  have hsp := fun A n c B m d W h1 h2 => specSameOps_any A n c a B m d b W h1 h2
  have him := fun A n c B m d W h1 h2 => implSameOps_any A n c a B m d b W h1 h2
  generalize sameO a b = R at *
  have HA := Lib.hid hA
  have HB := Lib.hid hB
  have HSP := Lib.hid hsp
  have HIM := Lib.hid him
  clear hA hB hsp him lA lB
  have bz : Below w.heap.size w w := Below.refl _ _
  go_enter Try.func4, Try.ntmps4
  go_wp2_with fail
  refine (szOpS_any _ _ _ a _ _ (HA.out.below bz) (by omega) (by omega)).mono ?_
  rintro e v0 ⟨q0, rfl, hq, hbz⟩
  have bz0 : Below w.heap.size w v0 := bz.trans (hbz.mono bz.size)
  clear hbz
  rcases hq with rfl | ⟨hq0, hq1, hsh⟩
  · go_wp2
    go_ret
    exact ⟨rfl, bz0⟩
  have SHA := Lib.hid hsh
  have hqn : ¬ q0 < 0 := by omega
  clear hsh
  go_wp2_with fail
  refine (szOpS_any _ _ _ b _ _ (HB.out.below bz0) (by omega) (by omega)).mono ?_
  rintro e w0 ⟨q1, rfl, hq, hbz⟩
  have b0 : Below w.heap.size w w0 := bz0.trans (hbz.mono bz0.size)
  clear hbz
  rcases hq with rfl | ⟨hq0, hq1, hsh⟩
  · go_wp2
    go_ret
    exact ⟨rfl, b0⟩
  have SHB := Lib.hid hsh
  have hqn : ¬ q1 < 0 := by omega
  clear hsh
  have s0 := b0.size
  go_wp2_with fail
  refine (toOpS_any A n c a _ (HA.out.below b0) SHA.out).mono ?_
  rintro e w1 ⟨gt0, cst0, Gt0, rfl, hP, hM, hb1⟩
  have b1 : Below w.heap.size w w1 := b0.trans (hb1.mono b0.size)
  have s1 := hb1.size
  have Pt01 := Lib.hid hP
  have Mt01 := Lib.hid hM
  clear hb1 hP hM
  go_wp2_with fail
  refine (toOpS_any B m d b _ (HB.out.below b1) SHB.out).mono ?_
  rintro e w2 ⟨gt1, cst1, Gt1, rfl, hP, hM, hb2⟩
  have b2 : Below w.heap.size w w2 := b1.trans (hb2.mono b1.size)
  have s2 := hb2.size
  have Pt02 := Lib.hid (Pt01.out.below hb2)
  have Mt02 := Lib.hid (Mt01.out.below hb2)
  have Pt12 := Lib.hid hP
  have Mt12 := Lib.hid hM
  clear hb2 Pt01 Mt01 hP hM
  go_wp2_with fail
  refine (HSP.out _ _ _ _ _ _ _ Pt02.out Pt12.out).mono ?_
  rintro e w3 ⟨rfl, hb3⟩
  have b3 : Below w.heap.size w w3 := b2.trans (hb3.mono b2.size)
  have s3 := hb3.size
  have Pt03 := Lib.hid (Pt02.out.below hb3)
  have Mt03 := Lib.hid (Mt02.out.below hb3)
  have Pt13 := Lib.hid (Pt12.out.below hb3)
  have Mt13 := Lib.hid (Mt12.out.below hb3)
  clear hb3 Pt02 Mt02 Pt12 Mt12
  go_wp2_with fail
  refine (toOpS_any A n c a _ (HA.out.below b3) SHA.out).mono ?_
  rintro e w4 ⟨gx0, csx0, Gx0, rfl, hP, hM, hb4⟩
  have b4 : Below w.heap.size w w4 := b3.trans (hb4.mono b3.size)
  have s4 := hb4.size
  have Pt04 := Lib.hid (Pt03.out.below hb4)
  have Mt04 := Lib.hid (Mt03.out.below hb4)
  have Pt14 := Lib.hid (Pt13.out.below hb4)
  have Mt14 := Lib.hid (Mt13.out.below hb4)
  have Px04 := Lib.hid hP
  have Mx04 := Lib.hid hM
  clear hb4 Pt03 Mt03 Pt13 Mt13 hP hM
  go_wp2_with fail
  refine (toOpS_any B m d b _ (HB.out.below b4) SHB.out).mono ?_
  rintro e w5 ⟨gx1, csx1, Gx1, rfl, hP, hM, hb5⟩
  have b5 : Below w.heap.size w w5 := b4.trans (hb5.mono b4.size)
  have s5 := hb5.size
  have Pt05 := Lib.hid (Pt04.out.below hb5)
  have Mt05 := Lib.hid (Mt04.out.below hb5)
  have Pt15 := Lib.hid (Pt14.out.below hb5)
  have Mt15 := Lib.hid (Mt14.out.below hb5)
  have Px05 := Lib.hid (Px04.out.below hb5)
  have Mx05 := Lib.hid (Mx04.out.below hb5)
  have Px15 := Lib.hid hP
  have Mx15 := Lib.hid hM
  clear hb5 Pt04 Mt04 Pt14 Mt14 Px04 Mx04 hP hM
  go_wp2_with fail
  refine (HIM.out _ _ _ _ _ _ _ Px05.out Px15.out).mono ?_
  rintro e w6 ⟨rfl, hb6⟩
  have b6 : Below w.heap.size w w6 := b5.trans (hb6.mono b5.size)
  have s6 := hb6.size
  have Pt06 := Lib.hid (Pt05.out.below hb6)
  have Mt06 := Lib.hid (Mt05.out.below hb6)
  have Pt16 := Lib.hid (Pt15.out.below hb6)
  have Mt16 := Lib.hid (Mt15.out.below hb6)
  have Px06 := Lib.hid (Px05.out.below hb6)
  have Mx06 := Lib.hid (Mx05.out.below hb6)
  have Px16 := Lib.hid (Px15.out.below hb6)
  have Mx16 := Lib.hid (Mx15.out.below hb6)
  clear hb6 Pt05 Mt05 Pt15 Mt15 Px05 Mx05 Px15 Mx15
  go_wp2_with fail
  refine (toOpS_any A n c a _ (HA.out.below b6) SHA.out).mono ?_
  rintro e w7 ⟨gy0, csy0, Gy0, rfl, hP, hM, hb7⟩
  have b7 : Below w.heap.size w w7 := b6.trans (hb7.mono b6.size)
  have s7 := hb7.size
  have Pt07 := Lib.hid (Pt06.out.below hb7)
  have Mt07 := Lib.hid (Mt06.out.below hb7)
  have Pt17 := Lib.hid (Pt16.out.below hb7)
  have Mt17 := Lib.hid (Mt16.out.below hb7)
  have Px07 := Lib.hid (Px06.out.below hb7)
  have Mx07 := Lib.hid (Mx06.out.below hb7)
  have Px17 := Lib.hid (Px16.out.below hb7)
  have Mx17 := Lib.hid (Mx16.out.below hb7)
  have Py07 := Lib.hid hP
  have My07 := Lib.hid hM
  clear hb7 Pt06 Mt06 Pt16 Mt16 Px06 Mx06 Px16 Mx16 hP hM
  go_wp2_with fail
  refine (eqOpS_any _ _ _ _ _ a _ Px07.out Py07.out).mono ?_
  rintro e w8 ⟨rfl, hb8⟩
  have b8 : Below w.heap.size w w8 := b7.trans (hb8.mono b7.size)
  have s8 := hb8.size
  have Pt08 := Lib.hid (Pt07.out.below hb8)
  have Mt08 := Lib.hid (Mt07.out.below hb8)
  have Pt18 := Lib.hid (Pt17.out.below hb8)
  have Mt18 := Lib.hid (Mt17.out.below hb8)
  have Px08 := Lib.hid (Px07.out.below hb8)
  have Mx08 := Lib.hid (Mx07.out.below hb8)
  have Px18 := Lib.hid (Px17.out.below hb8)
  have Mx18 := Lib.hid (Mx17.out.below hb8)
  have Py08 := Lib.hid (Py07.out.below hb8)
  have My08 := Lib.hid (My07.out.below hb8)
  clear hb8 Pt07 Mt07 Pt17 Mt17 Px07 Mx07 Px17 Mx17 Py07 My07
  go_wp2_with fail
  refine (toOpS_any B m d b _ (HB.out.below b8) SHB.out).mono ?_
  rintro e w9 ⟨gy1, csy1, Gy1, rfl, hP, hM, hb9⟩
  have b9 : Below w.heap.size w w9 := b8.trans (hb9.mono b8.size)
  have s9 := hb9.size
  have Pt09 := Lib.hid (Pt08.out.below hb9)
  have Mt09 := Lib.hid (Mt08.out.below hb9)
  have Pt19 := Lib.hid (Pt18.out.below hb9)
  have Mt19 := Lib.hid (Mt18.out.below hb9)
  have Px09 := Lib.hid (Px08.out.below hb9)
  have Mx09 := Lib.hid (Mx08.out.below hb9)
  have Px19 := Lib.hid (Px18.out.below hb9)
  have Mx19 := Lib.hid (Mx18.out.below hb9)
  have Py09 := Lib.hid (Py08.out.below hb9)
  have My09 := Lib.hid (My08.out.below hb9)
  have Py19 := Lib.hid hP
  have My19 := Lib.hid hM
  clear hb9 Pt08 Mt08 Pt18 Mt18 Px08 Mx08 Px18 Mx18 Py08 My08 hP hM
  go_wp2_with fail
  refine (eqOpS_any _ _ _ _ _ b _ Px19.out Py19.out).mono ?_
  rintro e w10 ⟨rfl, hb10⟩
  have b10 : Below w.heap.size w w10 := b9.trans (hb10.mono b9.size)
  have s10 := hb10.size
  have Pt010 := Lib.hid (Pt09.out.below hb10)
  have Mt010 := Lib.hid (Mt09.out.below hb10)
  have Pt110 := Lib.hid (Pt19.out.below hb10)
  have Mt110 := Lib.hid (Mt19.out.below hb10)
  have Px010 := Lib.hid (Px09.out.below hb10)
  have Mx010 := Lib.hid (Mx09.out.below hb10)
  have Px110 := Lib.hid (Px19.out.below hb10)
  have Mx110 := Lib.hid (Mx19.out.below hb10)
  have Py010 := Lib.hid (Py09.out.below hb10)
  have My010 := Lib.hid (My09.out.below hb10)
  have Py110 := Lib.hid (Py19.out.below hb10)
  have My110 := Lib.hid (My19.out.below hb10)
  clear hb10 Pt09 Mt09 Pt19 Mt19 Px09 Mx09 Px19 Mx19 Py09 My09 Py19 My19
  go_wp2_with fail
  go_ret
  exact ⟨rfl, b10⟩

end Go.Proofs.Ytgghjieeckkpbaa
