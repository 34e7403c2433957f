/- How an argument that is a slice of operations is opened. -/
import Derived.Test.YtgghjieeckkpbaaDoorFrame
import Derived.Test.YtgghjieeckkpbaaDoorOpR
import Derived.Deep.Strs
namespace Go.Proofs.YtgghjieeckkpbaaDoor
open Go.ChangeShapes Go.WideShapes Go.ChangeAt Go.RowKit Go.Deep

theorem list_of {α : Type} {Q : Nat → α → Prop} : ∀ n : Nat, (∀ i, i < n → ∃ x, Q i x) → ∃ xs : List α, xs.length = n ∧ ∀ i x, xs[i]? = some x → Q i x
  | 0, _ => ⟨[], rfl, by simp⟩
  | n + 1, h => by
    obtain ⟨xs, hl, hq⟩ := list_of n fun i hi => h i (by omega)
    obtain ⟨x, hx⟩ := h n (by omega)
    refine ⟨xs ++ [x], by simp [hl], fun i y hy => ?_⟩
    by_cases hi : i < n
    · rw [List.getElem?_append_left (by omega)] at hy
      exact hq i y hy
    · rw [List.getElem?_append_right (by omega)] at hy
      have : i = n := by
        have := (List.getElem?_eq_some_iff.1 hy).1
        simp at this
        omega
      subst this
      simp [hl] at hy
      subst hy
      exact hx

theorem rd_trod {H : Type} {enc : TypeId × Value → H} {P : Program} {W : World} {spare : Nat → Bool} {held : Bool} {t e : TypeId} {fuel : Nat} {cs : List Value} {x : DataW H × List MemPlace}
    (ht : P.underlying t = some (.slice e)) (he : P.underlying e = some (.int .i64)) (hc : P.cellsOf e = 1) (hf : DataW.trod enc P W 0 spare held fuel t cs = some x) :
    ∃ A n c zs, cs = [.slice A n c] ∧ Rd W 1 A n c (ints zs) ∧ ∀ z ∈ zs, i64R z := by
  rcases open_ints ht he hc hf with ⟨hcs, _⟩ | ⟨x, l, cp, zs, hcs, _, hl, hm, hz, _, hcell, hwz⟩
  · exact ⟨none, 0, 0, [], hcs, Rd.nil _ _, by simp⟩
  · have hnl : l ≤ zs.length := by rw [hz]; split <;> omega
    refine ⟨some x, l, cp, zs.take l, hcs, ⟨by rw [ints_len, List.length_take]; omega, hl, by unfold maxLen at hm; omega, fun h0 => ?_⟩, fun z hz' => i64R_wf (hwz z (List.mem_of_mem_take hz'))⟩
    rw [ints_len, List.length_take] at h0
    obtain ⟨b, o, rfl, hcc⟩ := ints_at hcell (by omega)
    refine ⟨b, o, rfl, World.block_lt_of_cell? _ _ (hcc 0 (by omega)), fun j hj => ?_⟩
    rw [ints_len, List.length_take] at hj
    rw [hcc j (by omega), ints_get, List.getElem?_take_of_lt (by omega), List.getElem?_eq_getElem (by omega : j < zs.length)]
    simp [List.getD, List.getElem?_eq_getElem (by omega : j < zs.length)]

theorem open_ops {H : Type} {enc : TypeId × Value → H} {P : Program} {W : World} {spare : Nat → Bool} {held : Bool} {t e e2 : TypeId} {f0 f1 f2 : Field} {A : Option Addr} {n c : Nat} {d : DataW H} {p : List MemPlace}
    (ht : P.underlying t = some (.slice e)) (hs : P.underlying e = some (.struct #[f0, f1, f2])) (hc : P.cellsOf e = 3) (h0 : P.underlying f0.type = some .string) (h1 : P.underlying f1.type = some (.int .i64)) (h2 : P.underlying f2.type = some (.slice e2)) (h3 : P.underlying e2 = some (.int .i64)) (h4 : P.cellsOf e2 = 1)
    (ho : f0.offset = 0 ∧ f1.offset = 1 ∧ f2.offset = 2 ∧ P.cellsOf f0.type = 1 ∧ P.cellsOf f1.type = 1 ∧ P.cellsOf f2.type = 1) (h : DataW.Trod enc P W 0 spare held t (.slice A n c) d p) :
    ∃ ops, RdO W A n c ops ∧ ∀ z ∈ ops, i64R z.mn ∧ ∀ x ∈ z.bf, i64R x := by
  obtain ⟨fuel, hf⟩ := h
  obtain ⟨o0, o1, o2, o3, o4, o5⟩ := ho
  rcases DataW.trod_slice ht hf with ⟨hcs, _⟩ | ⟨a, len, cap, elems, rest, m, _, hcs, _, _, hl, hm, hlen, hel, _, _⟩
  · simp [Value.cells] at hcs
    obtain ⟨rfl, rfl, rfl⟩ := hcs
    exact ⟨[], RdO.nil _, by simp⟩
  · simp [Value.cells] at hcs
    obtain ⟨rfl, rfl, rfl⟩ := hcs
    have each : ∀ i, i < n → ∃ z : OpV, z.nm.size ≤ maxLen ∧ W.cell? (a.add (i * 3)) = some (.string z.nm) ∧ W.cell? ((a.add (i * 3)).add 1) = some (.int .i64 z.mn) ∧ (∃ B m d, W.cell? ((a.add (i * 3)).add 2) = some (.slice B m d) ∧ Rd W 1 B m d (ints z.bf)) ∧ i64R z.mn ∧ ∀ x ∈ z.bf, i64R x := by
      intro i hi
      have hE := hel i hi
      rw [hc, List.getElem?_eq_getElem (show i < elems.length by omega), Option.bind_eq_some_iff] at hE
      obtain ⟨cs, hcs, hy⟩ := hE
      obtain ⟨_, hcl, hcc⟩ := World.cells?_some hcs
      obtain ⟨y0, y1, y2, k, _, _, g0, g1, g2⟩ := trod_struct3 hs hy
      match cs, hcl with
      | [v0, v1, v2], _ =>
        simp only [o0, o1, o2, o3, o4, o5, List.drop_zero, List.drop_succ_cons, List.take_succ_cons, List.take_zero] at g0 g1 g2
        obtain ⟨s, e0, _, w0⟩ := DataW.trod_string h0 g0
        obtain ⟨y, e1, _, w1⟩ := DataW.trod_int h1 g1
        obtain ⟨B, m, d, zs, e2, r2, w2⟩ := rd_trod h2 h3 h4 g2
        simp only [List.cons.injEq, and_true] at e0 e1 e2
        subst e0
        subst e1
        subst e2
        refine ⟨⟨s, y, zs⟩, w0, ?_, ?_, ⟨B, m, d, ?_, r2⟩, i64R_wf w1, w2⟩
        · have := hcc 0 (by omega)
          simpa [Addr.add] using this
        · have := hcc 1 (by omega)
          simpa using this
        · have := hcc 2 (by omega)
          simpa using this
    obtain ⟨ops, hpl, hps⟩ := list_of n each
    refine ⟨ops, ⟨hpl, hl, by unfold maxLen at hm; omega, fun z hz => ?_, fun k z hz => ?_⟩, fun z hz => ?_⟩
    · obtain ⟨i, hi⟩ := List.getElem?_of_mem hz
      have := (hps i z hi).1
      unfold maxLen at this
      omega
    · obtain ⟨b, off, spot⟩ := a
      obtain ⟨_, k0, k1, ⟨B, m, d, k2, kr⟩, _⟩ := hps k z hz
      have hspot : spot = none := by
        have hk := (List.getElem?_eq_some_iff.1 hz).1
        have := (hps 0 _ (List.getElem?_eq_getElem (show 0 < ops.length by omega))).2.1
        simpa [Addr.add] using World.cell?_spot this
      subst hspot
      rw [Go.WideShapes.add_plain] at k0 k1 k2
      rw [Go.WideShapes.add_plain] at k1 k2
      exact ⟨b, off, B, m, d, rfl, World.block_lt_of_cell? _ _ k0, k0, k1, k2, kr⟩
    · obtain ⟨i, hi⟩ := List.getElem?_of_mem hz
      exact (hps i z hi).2.2.2.2
end Go.Proofs.YtgghjieeckkpbaaDoor
