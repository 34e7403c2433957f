/- How an argument that is a slice of a struct of two int64 is opened. -/
import Derived.Test.YthdbaflihgkomaaDoorFrame
import Derived.Test.YthdbaflihgkomaaDoorPr
namespace Go.Proofs.YthdbaflihgkomaaDoor
open Go.ChangeShapes Go.WideShapes Go.ChangeAt Go.RowKit

theorem list_of {α : Type} {Q : Nat → α → Prop} : ∀ n : Nat, (∀ i, i < n → ∃ x, Q i x) → ∃ xs : List α, xs.length = n ∧ ∀ i x, xs[i]? = some x → Q i x
  | 0, _ => ⟨[], rfl, by simp⟩
  | n + 1, h => by
    obtain ⟨xs, hl, hq⟩ := list_of n fun i hi => h i (by omega)
    obtain ⟨x, hx⟩ := h n (by omega)
    refine ⟨xs ++ [x], by simp [hl], fun i y hy => ?_⟩
    by_cases hi : i < n
    · rw [List.getElem?_append_left (by omega)] at hy
      exact hq i y hy
    · rw [List.getElem?_append_right (by omega)] at hy
      have : i = n := by
        have := (List.getElem?_eq_some_iff.1 hy).1
        simp at this
        omega
      subst this
      simp [hl] at hy
      subst hy
      exact hx

theorem open_pairs {H : Type} {enc : TypeId × Value → H} {P : Program} {W : World} {spare : Nat → Bool} {held : Bool} {t e : TypeId} {f0 f1 : Field} {A : Option Addr} {n c : Nat} {d : DataW H} {p : List MemPlace}
    (ht : P.underlying t = some (.slice e)) (hs : P.underlying e = some (.struct #[f0, f1])) (hc : P.cellsOf e = 2) (h0 : P.underlying f0.type = some (.int .i64)) (h1 : P.underlying f1.type = some (.int .i64))
    (ho : f0.offset = 0 ∧ f1.offset = 1 ∧ P.cellsOf f0.type = 1 ∧ P.cellsOf f1.type = 1) (h : DataW.Trod enc P W 0 spare held t (.slice A n c) d p) :
    ∃ ps, Rd W 2 A n c (pr ps) ∧ ∀ z ∈ ps, i64R z.1 ∧ i64R z.2 := by
  obtain ⟨fuel, hf⟩ := h
  obtain ⟨o0, o1, o2, o3⟩ := ho
  rcases DataW.trod_slice ht hf with ⟨hcs, _⟩ | ⟨a, len, cap, elems, rest, m, _, hcs, _, _, hl, hm, hlen, hel, _, _⟩
  · simp [Value.cells] at hcs
    obtain ⟨rfl, rfl, rfl⟩ := hcs
    exact ⟨[], Rd.nil _ _, by simp⟩
  · simp [Value.cells] at hcs
    obtain ⟨rfl, rfl, rfl⟩ := hcs
    have each : ∀ i, i < n → ∃ z : Int × Int, W.cell? (a.add (i * 2)) = some (.int .i64 z.1) ∧ W.cell? ((a.add (i * 2)).add 1) = some (.int .i64 z.2) ∧ i64R z.1 ∧ i64R z.2 := by
      intro i hi
      have hE := hel i hi
      rw [hc, List.getElem?_eq_getElem (show i < elems.length by omega), Option.bind_eq_some_iff] at hE
      obtain ⟨cs, hcs, hy⟩ := hE
      obtain ⟨_, hcl, hcc⟩ := World.cells?_some hcs
      obtain ⟨y0, y1, k, _, _, g0, g1⟩ := trod_struct2 hs hy
      match cs, hcl with
      | [v0, v1], _ =>
        simp only [o0, o1, o2, o3, List.drop_zero, List.drop_succ_cons, List.take_succ_cons, List.take_zero] at g0 g1
        obtain ⟨x, e0, _, w0⟩ := DataW.trod_int h0 g0
        obtain ⟨y, e1, _, w1⟩ := DataW.trod_int h1 g1
        simp only [List.cons.injEq, and_true] at e0 e1
        subst e0
        subst e1
        refine ⟨(x, y), ?_, ?_, i64R_wf w0, i64R_wf w1⟩
        · have := hcc 0 (by omega)
          simpa [Addr.add] using this
        · have := hcc 1 (by omega)
          simpa using this
    obtain ⟨ps, hpl, hps⟩ := list_of n each
    refine ⟨ps, ⟨by rw [pr_len, hpl], hl, by unfold maxLen at hm; omega, fun hp => ?_⟩, fun z hz => ?_⟩
    · rw [pr_len] at hp
      obtain ⟨b, off, spot⟩ := a
      have hspot : spot = none := by
        have := (hps 0 _ (List.getElem?_eq_getElem (show 0 < ps.length by omega))).1
        simpa [Addr.add] using World.cell?_spot this
      subst hspot
      have hget : ∀ i, i < n → ∃ z : Int × Int, ps[i]? = some z ∧ W.cell? ⟨b, off + i * 2, none⟩ = some (.int .i64 z.1) ∧ W.cell? ⟨b, off + (i * 2 + 1), none⟩ = some (.int .i64 z.2) := by
        intro i hi
        have hx : ps[i]? = some (ps[i]'(by omega)) := List.getElem?_eq_getElem _
        obtain ⟨k0, k1, _⟩ := hps i _ hx
        rw [Go.WideShapes.add_plain] at k0 k1
        rw [Go.WideShapes.add_plain] at k1
        exact ⟨_, hx, k0, k1⟩
      refine ⟨b, off, rfl, ?_, fun j hj => ?_⟩
      · obtain ⟨z, _, k0, _⟩ := hget 0 (by omega)
        exact World.block_lt_of_cell? _ _ k0
      · rw [pr_len, hpl] at hj
        have hq : ∃ q, j = q * 2 ∨ j = q * 2 + 1 := ⟨j / 2, by omega⟩
        obtain ⟨q, rfl | rfl⟩ := hq
        · obtain ⟨z, hz, k0, k1⟩ := hget q (by omega)
          rw [(pr_get ps q).1, hz]
          exact k0
        · obtain ⟨z, hz, k0, k1⟩ := hget q (by omega)
          rw [(pr_get ps q).2, hz]
          exact k1
    · obtain ⟨i, hi⟩ := List.getElem?_of_mem hz
      exact (hps i z hi).2.2
end Go.Proofs.YthdbaflihgkomaaDoor
