/- Valid operations: l13Ok of the reference, ValidOps of the program. Printed by mkok.py. -/
import Derived.Test.YtgghjieeckkpbaaDoorNm
import Derived.Test.YtgghjieeckkpbaaDoorRi
import Derived.Test.YtgghjieeckkpbaaDoorSl
namespace Go.Proofs.YtgghjieeckkpbaaDoor
open Go.RowKit

/-- The k-th operation is valid by itself. -/
def opB (ops : List OpV) (k : Nat) (p : OpV) : Prop := nmB p.nm = true ∧ inB p.mn 1 600 = true ∧ incB p.bf 0 ((ops.length : Int) - 1) = true ∧ hasB p.bf (k : Int) = false
structure OOk (ops : List OpV) : Prop where
  len : ops.length ≤ 14
  op : ∀ (k : Nat) (p : OpV), ops[k]? = some p → opB ops k p
  nm : ∀ (k j : Nat) (p q : OpV), j < k → ops[k]? = some p → ops[j]? = some q → (q.nm.toList == p.nm.toList) = false
open Classical in
noncomputable def okO (ops : List OpV) : Bool := decide (OOk ops)
open Classical in
theorem ok_yes {ops : List OpV} (h : OOk ops) : okO ops = true := by unfold okO; exact decide_eq_true h
open Classical in
theorem ok_no {ops : List OpV} (h : ¬ OOk ops) : okO ops = false := by unfold okO; exact decide_eq_false h
open Classical in
theorem okO_true {ops : List OpV} (h : okO ops = true) : OOk ops := of_decide_eq_true h
theorem incB_len {s : List Int} {n : Nat} (h : incB s 0 ((n : Int) - 1) = true) : s.length ≤ n := by
  obtain ⟨h1, h2⟩ := incB_at h
  cases hs : s.length with
  | zero => omega
  | succ m =>
    have hx := List.getElem?_eq_getElem (l := s) (i := m) (by omega)
    have h3 := inc_ge (s := s) (fun j x hx => (h1 j x hx).1) h2 m _ hx
    have h4 := (h1 m _ hx).2
    omega
/-- The first k are valid. -/
structure OTo (ops : List OpV) (i : Nat) : Prop where
  op : ∀ (k : Nat) (p : OpV), k < i → ops[k]? = some p → opB ops k p
  nm : ∀ (k j : Nat) (p q : OpV), k < i → j < k → ops[k]? = some p → ops[j]? = some q → (q.nm.toList == p.nm.toList) = false
theorem OTo.zero (ops : List OpV) : OTo ops 0 := ⟨fun _ _ h => absurd h (Nat.not_lt_zero _), fun _ _ _ _ h => absurd h (Nat.not_lt_zero _)⟩
theorem OTo.step {ops : List OpV} {i : Nat} {p : OpV} (h : OTo ops i) (hp : ops[i]? = some p) (ho : opB ops i p) (hn : ∀ (j : Nat) (q : OpV), j < i → ops[j]? = some q → (q.nm.toList == p.nm.toList) = false) : OTo ops (i + 1) := by
  refine ⟨fun k q hk hq => ?_, fun k j q r hk hj hq hr => ?_⟩
  · by_cases e : k = i
    · subst e
      rw [hp] at hq
      injection hq with hq
      subst hq
      exact ho
    · exact h.op k q (by omega) hq
  · by_cases e : k = i
    · subst e
      rw [hp] at hq
      injection hq with hq
      subst hq
      exact hn j r hj hr
    · exact h.nm k j q r (by omega) hj hq hr
theorem OTo.all {ops : List OpV} {n : Nat} (h : OTo ops n) (hl : ops.length = n) (hn : n ≤ 14) : OOk ops :=
  ⟨by omega, fun k p hp => h.op k p (by have := (List.getElem?_eq_some_iff.1 hp).1; omega) hp, fun k j p q hj hp hq => h.nm k j p q (by have := (List.getElem?_eq_some_iff.1 hp).1; omega) hj hp hq⟩
theorem RdO.take {w : World} {A : Option Addr} {n c : Nat} {ops : List OpV} (h : RdO w A n c ops) {j : Nat} (hj : j ≤ n) : RdO w A j c (ops.take j) :=
  ⟨by rw [List.length_take, h.len]; omega, Nat.le_trans hj h.cap, h.max, fun p hp => h.sz p (List.mem_of_mem_take hp), fun k p hp => by
    have hk := (List.getElem?_eq_some_iff.1 hp).1
    rw [List.length_take] at hk
    rw [List.getElem?_take_of_lt (by omega)] at hp
    exact h.el k p hp⟩

set_option maxRecDepth 100000 in
set_option maxHeartbeats 4000000 in
theorem l13Ok_any (A : Option Addr) (n c : Nat) (ops : List OpV) (w : World) (h : RdO w A n c ops) :
    Calls Tryd.prog 31 #[.slice A n c] w fun e w' => e = .returned (.bool (okO ops)) ∧ Below w.heap.size w w' := by
  have hl := h.len
  have h1 := h.cap
  have h2 := h.max
  have hyes := ok_yes (ops := ops)
  have hno := ok_no (ops := ops)
  generalize okO ops = r at *
  have H := Lib.hid h
  have HL := Lib.hid hl
  have HY := Lib.hid hyes
  have HN := Lib.hid hno
  clear h hl hyes hno
  go_enter Tryd.func31, Tryd.ntmps31
  go_wp2
  go_loopw [4] (fun i wr => ∃ k : Nat, k ≤ n ∧ i = .int .i64 k ∧ Hid (OTo ops k) ∧ Below w.heap.size w wr) (fun i _ => n - (intOf i).toNat)
  case atStart => exact ⟨0, Nat.zero_le _, rfl, Lib.hid (OTo.zero _), Below.refl _ _⟩
  case round =>
    obtain ⟨k, hk, rfl, HT, hb⟩ := hrel
    by_cases hlt : k < n
    · obtain ⟨p, b, o, B, m, d, hp, hps, hA, hbl, c0, c1, c2, hr⟩ := (H.out.below hb).op hlt
      subst hA
      have Hb := Lib.hid hb
      have HP := Lib.hid hp
      have HR := Lib.hid hr
      have hk0 : (0 : Int) ≤ (k : Int) := by omega
      have hk1 : (k : Int) < (n : Int) := by omega
      clear hb hp hr
      have hbad : ¬ opB ops k p → r = false := fun hx => HN.out (fun ho => hx (ho.op k p HP.out))
      have hgood := HT.out.step HP.out
      unfold opB at hbad hgood
      rw [HL.out] at hbad hgood
      have HBAD := Lib.hid hbad
      have HGOOD := Lib.hid hgood
      clear hbad hgood
      have d1 := specIsName_any p.nm wr hps
      have d2 := l00In_any p.mn 1 600 wr
      have d3 := l00Rises_any B m d p.bf 0 ((n : Int) - 1) wr HR.out
      have d4 := fun W hr => l00Has_any B m d p.bf (k : Int) W hr
      have D4 := Lib.hid d4
      generalize h1q : nmB p.nm = q1 at *
      generalize h2q : inB p.mn 1 600 = q2 at *
      generalize h3q : incB p.bf 0 ((n : Int) - 1) = q3 at *
      generalize h4q : hasB p.bf (k : Int) = q4 at *
      have D1 := Lib.hid d1
      have D2 := Lib.hid d2
      have D3 := Lib.hid d3
      clear d1 d2 d3 d4 h1q h2q h3q h4q
      have hs1 := Hb.out.size
      cases q1 with
      | false =>
        have hr := HBAD.out (fun h => by have := h.1; simp at this)
        subst hr
        clear HBAD HGOOD HN HY HT
        go_wp2_with fail
        refine (D1.out).mono ?_
        rintro e wz ⟨rfl, rfl⟩
        go_wp2
        go_ret
        exact ⟨rfl, Hb.out⟩
      | true =>
        cases q2 with
        | false =>
          have hr := HBAD.out (fun h => by have := h.2.1; simp at this)
          subst hr
          clear HBAD HGOOD HN HY HT
          go_wp2_with fail
          refine (D1.out).mono ?_
          rintro e wz ⟨rfl, rfl⟩
          go_wp2_with fail
          refine (D2.out).mono ?_
          rintro e wz ⟨rfl, rfl⟩
          go_wp2
          go_ret
          exact ⟨rfl, Hb.out⟩
        | true =>
          cases q3 with
          | false =>
            have hr := HBAD.out (fun h => by have := h.2.2.1; simp at this)
            subst hr
            clear HBAD HGOOD HN HY HT
            go_wp2_with fail
            refine (D1.out).mono ?_
            rintro e wz ⟨rfl, rfl⟩
            go_wp2_with fail
            refine (D2.out).mono ?_
            rintro e wz ⟨rfl, rfl⟩
            go_wp2_with fail
            refine (D3.out).mono ?_
            rintro e w3 ⟨rfl, hb3⟩
            have k0 := cell_bel c0 hb3
            have k2 := cell_bel c2 hb3
            have HR3 := Lib.hid (HR.out.below hb3)
            have Hb3 := Lib.hid (Hb.out.trans (hb3.mono hs1))
            clear hb3 c0 c1 c2
            go_wp2
            go_ret
            exact ⟨rfl, Hb3.out⟩
          | true =>
            cases q4 with
            | true =>
              have hr := HBAD.out (fun h => by have := h.2.2.2; simp at this)
              subst hr
              clear HBAD HGOOD HN HY HT
              go_wp2_with fail
              refine (D1.out).mono ?_
              rintro e wz ⟨rfl, rfl⟩
              go_wp2_with fail
              refine (D2.out).mono ?_
              rintro e wz ⟨rfl, rfl⟩
              go_wp2_with fail
              refine (D3.out).mono ?_
              rintro e w3 ⟨rfl, hb3⟩
              have k0 := cell_bel c0 hb3
              have k2 := cell_bel c2 hb3
              have HR3 := Lib.hid (HR.out.below hb3)
              have Hb3 := Lib.hid (Hb.out.trans (hb3.mono hs1))
              clear hb3 c0 c1 c2
              go_wp2_with fail
              refine (D4.out _ HR3.out).mono ?_
              rintro e wz ⟨rfl, rfl⟩
              go_wp2
              go_ret
              exact ⟨rfl, Hb3.out⟩
            | false =>
              clear HBAD
              go_wp2_with fail
              refine (D1.out).mono ?_
              rintro e wz ⟨rfl, rfl⟩
              go_wp2_with fail
              refine (D2.out).mono ?_
              rintro e wz ⟨rfl, rfl⟩
              go_wp2_with fail
              refine (D3.out).mono ?_
              rintro e w3 ⟨rfl, hb3⟩
              have k0 := cell_bel c0 hb3
              have k2 := cell_bel c2 hb3
              have HR3 := Lib.hid (HR.out.below hb3)
              have Hb3 := Lib.hid (Hb.out.trans (hb3.mono hs1))
              clear hb3 c0 c1 c2
              go_wp2_with fail
              refine (D4.out _ HR3.out).mono ?_
              rintro e wz ⟨rfl, rfl⟩
              go_wp2_with fail
              go_loopw [5] (fun i wr => ∃ j : Nat, j ≤ k ∧ i = .int .i64 j ∧ Hid (∀ (i : Nat) (q : OpV), i < j → ops[i]? = some q → (q.nm.toList == p.nm.toList) = false) ∧ Below w3.heap.size w3 wr) (fun i _ => k - (intOf i).toNat)
              case atStart => exact ⟨0, Nat.zero_le _, rfl, (show Hid _ from fun i _ hi => absurd hi (Nat.not_lt_zero _)), Below.refl _ _⟩
              case round =>
                obtain ⟨j, hj, rfl, HE, hb⟩ := hrel
                have Hb4 := Lib.hid (Hb3.out.trans (hb.mono Hb3.out.size))
                by_cases hjk : j < k
                · obtain ⟨q, b', o', B', m', d', hq, _, hA', _, e0, _, _, _⟩ := (H.out.below Hb4.out).op (show j < n by omega)
                  injection hA' with hA'
                  injection hA' with x1 x2
                  subst x1
                  subst x2
                  have f0 := cell_bel k0 hb
                  have HQ := Lib.hid hq
                  have Hb5 := Lib.hid hb
                  have hj0 : (0 : Int) ≤ (j : Int) := by omega
                  have hj1 : (j : Int) < (k : Int) := by omega
                  have hj2 : (j : Int) < (n : Int) := by omega
                  clear hq hb k0
                  cases hx : (q.nm.toList == p.nm.toList) with
                  | true =>
                    have hr := HN.out (fun ho => by have := ho.nm k j p q hjk HP.out HQ.out; rw [hx] at this; simp at this)
                    subst hr
                    clear HN HY HT HGOOD HE
                    go_wp2
                    go_quiet (fail)
                    go_wp2
                    go_ret
                    exact ⟨rfl, below_drewN Hb4.out _⟩
                  | false =>
                    have HX := Lib.hid hx
                    go_wp2
                    go_quiet (fail)
                    go_wp2
                    go_roundw
                    case rel => exact ⟨j + 1, by omega, by go_num, (show Hid _ from fun i q' hi hq' => by
                      by_cases e : i = j
                      · subst e
                        have := HQ.out
                        rw [this] at hq'
                        injection hq' with hq'
                        subst hq'
                        exact HX.out
                      · exact HE.out i q' (by omega) hq'), below_drewN Hb5.out _⟩
                    case measure => simp [intOf]; omega
                · have hjk' : j = k := by omega
                  have HE' : Hid (OTo ops (k + 1)) := Lib.hid (HGOOD.out (by simp) (fun i q hi hq => HE.out i q (by omega) hq))
                  clear HGOOD HE HN HY HT
                  go_wp2
                  go_roundw
                  case rel => exact ⟨k + 1, by omega, by go_num, HE', Hb4.out⟩
                  case measure => simp [intOf]; omega
    · have hkn : k = n := by omega
      subst hkn
      by_cases h14 : (k : Int) ≤ 14
      · have hr := HY.out (HT.out.all HL.out (by omega))
        subst hr
        clear HY HN
        go_wp2
        go_ret
        exact ⟨rfl, hb⟩
      · have hr := HN.out (fun ho => by have := ho.len; rw [HL.out] at this; omega)
        subst hr
        clear HY HN
        go_wp2
        go_ret
        exact ⟨rfl, hb⟩

theorem slice_headO (g o k oc j : Nat) (z : Int) (hz : z = (j : Int)) (hj : j ≤ oc) (W : World) : (Instr.slice 25 (.slice (some ⟨g, o, none⟩) k oc) none (some (.int .i64 z)) none).run Tryd.prog W = .ok (.slice (some ⟨g, o, none⟩) j oc) W := by
  subst hz
  have hj0 : (0 : Int) ≤ (j : Int) := by omega
  have hj1 : (j : Int) ≤ (oc : Int) := by omega
  go_simp

/-- The function value g, bound to the cells lb, answers p at every operation of ops. -/
def PredO (g : Nat) (lb : Array Value) (p : OpV → Bool) (ops : List OpV) (w : World) : Prop :=
  ∀ (W : World) (q : OpV) (B : Option Addr) (m d : Nat), q ∈ ops → Below w.heap.size w W → Calls Tryd.prog g (#[.agg #[.string q.nm, .int .i64 q.mn, .slice B m d]] ++ lb) W fun e w' => e = .returned (.bool (p q)) ∧ Below W.heap.size W w'

set_option maxHeartbeats 1000000 in
theorem indexFunc_op (g : Nat) (lb : Array Value) (eg : ∀ args w, (callFunc g args).run Tryd.prog w = .ok (.enter g args) w) (p : OpV → Bool) (A : Option Addr) (n c : Nat) (xs : List OpV) (w : World) (h : RdO w A n c xs) (hp : PredO g lb p xs w) :
    Calls Tryd.prog 83 #[.slice A n c, .func (.func g) #[] lb] w fun e w' => e = .returned (.int .i64 (idxF p xs)) ∧ Below w.heap.size w w' := by
  have hl := h.len
  have h1 := h.cap
  have h2 := h.max
  have H := Lib.hid h
  have HP := Lib.hid hp
  have HL := Lib.hid hl
  obtain ⟨R, hR⟩ : ∃ R, idxF p xs = R := ⟨_, rfl⟩
  rw [hR]
  have HR := Lib.hid hR
  clear h hp hl hR
  go_enter Tryd.func83, Tryd.ntmps83
  go_wp2
  go_loopg [8] n (fun gg i wr => ∃ k : Nat, k ≤ n ∧ n - k ≤ gg ∧ i = .int .i64 k ∧ Hid (∀ j y, j < k → xs[j]? = some y → p y = false) ∧ Below w.heap.size w wr)
  case atStart => exact ⟨0, Nat.zero_le _, by omega, rfl, (show Hid _ from fun j _ hj => absurd hj (Nat.not_lt_zero _)), Below.refl _ _⟩
  case round =>
    obtain ⟨k, hk, hgg, rfl, HB, hb⟩ := hrel
    by_cases hlt : k < n
    · have hltz : (k : Int) < (n : Int) := by omega
      obtain ⟨x, b, o, B, m, d, hx, hps, hA, hbl, c0, c1, c2, hr⟩ := (H.out.below hb).op hlt
      subst hA
      have HX := Lib.hid hx
      have hcall := HP.out wr x B m d (List.mem_of_getElem? hx) hb
      have Hb := Lib.hid hb
      clear hx hr hb
      cases hq : p x with
      | true =>
        rw [hq] at hcall
        have HC := Lib.hid hcall
        have HQ := Lib.hid hq
        clear hcall hq
        go_wp2_with (go_at_fn g; refine (HC.out).mono ?_; rintro e w' ⟨rfl, hb'⟩)
        go_ret
        exact ⟨ret_i (by rw [← HR.out]; exact (idxF_hit HX.out HQ.out HB.out).symm), Hb.out.trans (hb'.mono Hb.out.size)⟩
      | false =>
        rw [hq] at hcall
        have HC := Lib.hid hcall
        have HQ := Lib.hid hq
        clear hcall hq
        go_wp2_with (go_at_fn g; refine (HC.out).mono ?_; rintro e w' ⟨rfl, hb'⟩)
        go_roundg (n - (k + 1))
        case measure => omega
        case rel =>
          refine ⟨k + 1, by omega, by omega, by go_num, (show Hid _ from fun j y hj hy => ?_), Hb.out.trans (hb'.mono Hb.out.size)⟩
          by_cases e : j = k
          · subst e
            have := HX.out
            rw [this] at hy
            injection hy with hy
            rw [← hy]
            exact HQ.out
          · exact HB.out j y (by omega) hy
    · have hltz : ¬ (k : Int) < (n : Int) := by omega
      have : k = n := by omega
      subst this
      go_wp2
      go_ret
      exact ⟨ret_i (by rw [← HR.out]; exact (idxF_miss (by rw [HL.out]; exact HB.out)).symm), hb⟩

set_option maxHeartbeats 1000000 in
theorem containsFunc_op (g : Nat) (lb : Array Value) (eg : ∀ args w, (callFunc g args).run Tryd.prog w = .ok (.enter g args) w) (p : OpV → Bool) (A : Option Addr) (n c : Nat) (xs : List OpV) (w : World) (h : RdO w A n c xs) (hp : PredO g lb p xs w) :
    Calls Tryd.prog 65 #[.slice A n c, .func (.func g) #[] lb] w fun e w' => e = .returned (.bool (xs.any p)) ∧ Below w.heap.size w w' := by
  have hany := idxF_any p xs
  generalize xs.any p = r at *
  have hcall := indexFunc_op g lb eg p A n c xs w h hp
  generalize idxF p xs = i at *
  have HC := Lib.hid hcall
  have HA := Lib.hid hany
  clear hcall hany h hp
  go_enter Tryd.func65, Tryd.ntmps65
  go_wp2_with fail
  refine (HC.out).mono ?_
  rintro e w' ⟨rfl, hb⟩
  go_wp2_with fail
  go_ret
  exact ⟨ret_b HA.out, hb⟩

set_option maxHeartbeats 1000000 in
theorem sameName_pred (nm : ByteArray) (gb : Nat) (ops : List OpV) (w : World) (hc : w.cell? ⟨gb, 0, none⟩ = some (.string nm)) : PredO 66 #[.pointer (some ⟨gb, 0, none⟩)] (fun q => q.nm.toList == nm.toList) ops w := fun W q B m d _ hb => by
  have c0 := cell_bel hc hb
  clear hb hc
  show Calls Tryd.prog 66 #[.agg #[.string q.nm, .int .i64 q.mn, .slice B m d], .pointer (some ⟨gb, 0, none⟩)] W _
  have hl := World.block_lt_of_cell? _ _ c0
  have c1 : (W.alloc (Obj.cells #[.string q.nm, .int .i64 q.mn, .slice B m d] 53)).cell? ⟨gb, 0, none⟩ = some (.string nm) := cell_bel c0 (by go_grown)
  go_enter Tryd.func66, Tryd.ntmps66
  go_wp2
  go_ret
  exact ⟨rfl, (by go_grown)⟩
theorem any_no {ops : List OpV} {k : Nat} {nm : ByteArray} (h : (ops.take k).any (fun q => q.nm.toList == nm.toList) = false) : ∀ (j : Nat) (q : OpV), j < k → ops[j]? = some q → (q.nm.toList == nm.toList) = false := by
  intro j q hj hq
  rw [List.any_eq_false] at h
  have hm : q ∈ ops.take k := by
    rw [← List.getElem?_take_of_lt hj] at hq
    exact List.mem_of_getElem? hq
  simpa using h q hm
theorem any_yes {ops : List OpV} {k : Nat} {nm : ByteArray} (h : (ops.take k).any (fun q => q.nm.toList == nm.toList) = true) : ∃ (j : Nat) (q : OpV), j < k ∧ ops[j]? = some q ∧ (q.nm.toList == nm.toList) = true := by
  rw [List.any_eq_true] at h
  obtain ⟨q, hm, hq⟩ := h
  obtain ⟨j, hj⟩ := List.getElem?_of_mem hm
  have hl := (List.getElem?_eq_some_iff.1 hj).1
  rw [List.length_take] at hl
  rw [List.getElem?_take_of_lt (by omega)] at hj
  exact ⟨j, q, by omega, hj, hq⟩

set_option maxRecDepth 100000 in
set_option maxHeartbeats 4000000 in
theorem implValidOps_any (A : Option Addr) (n c : Nat) (ops : List OpV) (w : World) (h : RdO w A n c ops) :
    Calls Tryd.prog 27 #[.slice A n c] w fun e w' => e = .returned (.bool (okO ops)) ∧ Below w.heap.size w w' := by
  have hl := h.len
  have h1 := h.cap
  have h2 := h.max
  have hyes := ok_yes (ops := ops)
  have hno := ok_no (ops := ops)
  generalize okO ops = r at *
  have eg : ∀ args w, (callFunc 66 args).run Tryd.prog w = .ok (.enter 66 args) w := enters_of Tryd.func66 (by kernel_rfl) rfl
  by_cases h14 : (14 : Int) < n
  · have hr := hno (fun ho => by have := ho.len; omega)
    subst hr
    clear hyes hno h eg
    go_enter Tryd.func27, Tryd.ntmps27
    go_wp2
    go_ret
    exact ⟨rfl, Below.refl _ _⟩
  · have H := Lib.hid h
    have HL := Lib.hid hl
    have HY := Lib.hid hyes
    have HN := Lib.hid hno
    have EG := Lib.hid eg
    clear h hl hyes hno eg
    go_enter Tryd.func27, Tryd.ntmps27
    go_wp2
    go_loopw [10] (fun i wr => ∃ k : Nat, k ≤ n ∧ i = .int .i64 k ∧ Hid (OTo ops k) ∧ Below w.heap.size w wr) (fun i _ => n - (intOf i).toNat)
    case atStart => exact ⟨0, Nat.zero_le _, rfl, Lib.hid (OTo.zero _), Below.refl _ _⟩
    case round =>
      obtain ⟨k, hk, rfl, HT, hb⟩ := hrel
      by_cases hlt : k < n
      · obtain ⟨p, b, o, B, m, d, hp, hps, hA, hbl, c0, c1, c2, hr⟩ := (H.out.below hb).op hlt
        subst hA
        have Hb := Lib.hid hb
        have HP := Lib.hid hp
        have hk0 : (0 : Int) ≤ (k : Int) := by omega
        have hk1 : (k : Int) < (n : Int) := by omega
        have hbad : ¬ opB ops k p → r = false := fun hx => HN.out (fun ho => hx (ho.op k p HP.out))
        have hgood := HT.out.step HP.out
        unfold opB at hbad hgood
        rw [HL.out] at hbad hgood
        have HBAD := Lib.hid hbad
        have HGOOD := Lib.hid hgood
        clear hbad hgood hp
        have hs1 := Hb.out.size
        have ha1 : Below wr.heap.size wr (wr.alloc (Obj.cells #[.string p.nm, .int .i64 p.mn, .slice B m d] 53)) := (by go_grown)
        have HA1 := Lib.hid ha1
        have hr1 := hr.below ha1
        have hml : incB p.bf 0 ((n : Int) - 1) = true → m ≤ 1048576 := fun h => by have := incB_len h; have := hr.ilen; omega
        have d1 := implIsName_any p.nm (wr.alloc (Obj.cells #[.string p.nm, .int .i64 p.mn, .slice B m d] 53)) hps
        have d2 := within_any p.mn 1 600 (wr.alloc (Obj.cells #[.string p.nm, .int .i64 p.mn, .slice B m d] 53))
        have d3 := isIncreasing_any B m d p.bf 0 ((n : Int) - 1) _ hr1
        have d4 := fun hm => contains_any B m d p.bf (k : Int) _ hr1 hm
        have hsl := slice_headO b o n c k (k : Int) rfl (by omega)
        have hcf := containsFunc_op 66 #[.pointer (some ⟨wr.heap.size, 0, none⟩)] EG.out (fun q => q.nm.toList == p.nm.toList) (some ⟨b, o, none⟩) k c (ops.take k) (wr.alloc (Obj.cells #[.string p.nm, .int .i64 p.mn, .slice B m d] 53)) ((H.out.below (Hb.out.trans (ha1.mono hs1))).take (by omega)) (sameName_pred p.nm wr.heap.size _ _ (by simp))
        have hay := any_yes (ops := ops) (k := k) (nm := p.nm)
        have han := any_no (ops := ops) (k := k) (nm := p.nm)
        generalize (ops.take k).any (fun q => q.nm.toList == p.nm.toList) = q5 at *
        generalize h1q : nmB p.nm = q1 at *
        generalize h2q : inB p.mn 1 600 = q2 at *
        generalize h3q : incB p.bf 0 ((n : Int) - 1) = q3 at *
        generalize h4q : hasB p.bf (k : Int) = q4 at *
        have D1 := Lib.hid d1
        have D2 := Lib.hid d2
        have D3 := Lib.hid d3
        have D4 := Lib.hid d4
        have D5 := Lib.hid hcf
        have HML := Lib.hid hml
        have HAY := Lib.hid hay
        have HAN := Lib.hid han
        have HB1 := Lib.hid (Hb.out.trans (ha1.mono hs1))
        clear d1 d2 d3 d4 h1q h2q h3q h4q hcf hml hay han hr hr1 ha1 hb
        cases q1 with
        | false =>
          have hr := HBAD.out (fun h => by have := h.1; simp at this)
          subst hr
          clear HBAD HGOOD HN HY HT
          go_wp2_with fail
          refine (D1.out).mono ?_
          rintro e wz ⟨rfl, rfl⟩
          go_wp2
          go_ret
          exact ⟨rfl, HB1.out⟩
        | true =>
          cases q2 with
          | false =>
            have hr := HBAD.out (fun h => by have := h.2.1; simp at this)
            subst hr
            clear HBAD HGOOD HN HY HT
            go_wp2_with fail
            refine (D1.out).mono ?_
            rintro e wz ⟨rfl, rfl⟩
            go_wp2_with fail
            refine (D2.out).mono ?_
            rintro e wz ⟨rfl, rfl⟩
            go_wp2
            go_ret
            exact ⟨rfl, HB1.out⟩
          | true =>
            cases q3 with
            | false =>
              have hr := HBAD.out (fun h => by have := h.2.2.1; simp at this)
              subst hr
              clear HBAD HGOOD HN HY HT
              go_wp2_with fail
              refine (D1.out).mono ?_
              rintro e wz ⟨rfl, rfl⟩
              go_wp2_with fail
              refine (D2.out).mono ?_
              rintro e wz ⟨rfl, rfl⟩
              go_wp2_with fail
              refine (D3.out).mono ?_
              rintro e wz ⟨rfl, rfl⟩
              go_wp2
              go_ret
              exact ⟨rfl, HB1.out⟩
            | true =>
              cases q4 with
              | true =>
                have hr := HBAD.out (fun h => by have := h.2.2.2; simp at this)
                subst hr
                clear HBAD HGOOD HN HY HT
                go_wp2_with fail
                refine (D1.out).mono ?_
                rintro e wz ⟨rfl, rfl⟩
                go_wp2_with fail
                refine (D2.out).mono ?_
                rintro e wz ⟨rfl, rfl⟩
                go_wp2_with fail
                refine (D3.out).mono ?_
                rintro e wz ⟨rfl, rfl⟩
                go_wp2_with fail
                refine (D4.out (HML.out (by trivial))).mono ?_
                rintro e wz ⟨rfl, rfl⟩
                go_wp2
                go_ret
                exact ⟨rfl, HB1.out⟩
              | false =>
                cases q5 with
                | true =>
                  have hr := HN.out (fun ho => by obtain ⟨j, q, hj, hq, hx⟩ := HAY.out rfl; have := ho.nm k j p q hj HP.out hq; rw [hx] at this; simp at this)
                  subst hr
                  clear HBAD HGOOD HN HY HT
                  go_wp2_with fail
                  refine (D1.out).mono ?_
                  rintro e wz ⟨rfl, rfl⟩
                  go_wp2_with fail
                  refine (D2.out).mono ?_
                  rintro e wz ⟨rfl, rfl⟩
                  go_wp2_with fail
                  refine (D3.out).mono ?_
                  rintro e wz ⟨rfl, rfl⟩
                  go_wp2_with fail
                  refine (D4.out (HML.out (by trivial))).mono ?_
                  rintro e wz ⟨rfl, rfl⟩
                  go_wp2_with fail
                  refine (D5.out).mono ?_
                  rintro e w5 ⟨rfl, hb5⟩
                  go_wp2
                  go_ret
                  exact ⟨rfl, HB1.out.trans (hb5.mono HB1.out.size)⟩
                | false =>
                  have HT2 := Lib.hid (HGOOD.out (by simp) (HAN.out rfl))
                  clear HBAD HGOOD HN HY HT
                  go_wp2_with fail
                  refine (D1.out).mono ?_
                  rintro e wz ⟨rfl, rfl⟩
                  go_wp2_with fail
                  refine (D2.out).mono ?_
                  rintro e wz ⟨rfl, rfl⟩
                  go_wp2_with fail
                  refine (D3.out).mono ?_
                  rintro e wz ⟨rfl, rfl⟩
                  go_wp2_with fail
                  refine (D4.out (HML.out (by trivial))).mono ?_
                  rintro e wz ⟨rfl, rfl⟩
                  go_wp2_with fail
                  refine (D5.out).mono ?_
                  rintro e w5 ⟨rfl, hb5⟩
                  have HB5 := Lib.hid (HB1.out.trans (hb5.mono HB1.out.size))
                  clear hb5
                  go_wp2
                  go_roundw
                  case rel => exact ⟨k + 1, by omega, by go_num, HT2, HB5.out⟩
                  case measure => simp [intOf]; omega
      · have hkn : k = n := by omega
        subst hkn
        have hr := HY.out (HT.out.all HL.out (by omega))
        subst hr
        clear HY HN
        go_wp2
        go_ret
        exact ⟨rfl, hb⟩
end Go.Proofs.YtgghjieeckkpbaaDoor
