/- How arguments that are slices of strings and slices of pieces are opened; what the frames of the tied cards lean on. -/
import Derived.Test.YtiibhejjeijdaaaDoorFrame
import Derived.Test.YtiibhejjeijdaaaDoorQd
import Derived.Test.YtiibhejjeijdaaaDoorTie
import Derived.Test.YtiibhejjeijdaaaDoorCards
import Derived.LaidMore
import Derived.Lay
import Derived.Stop.Joined
import Derived.SevenTiedAt
import Derived.SliceStrings
namespace Go.Proofs.YtiibhejjeijdaaaDoor
open Go.ChangeShapes Go.WideShapes Go.ChangeAt Go.RowKit

theorem list_of {α : Type} {Q : Nat → α → Prop} : ∀ n : Nat, (∀ i, i < n → ∃ x, Q i x) → ∃ xs : List α, xs.length = n ∧ ∀ i x, xs[i]? = some x → Q i x
  | 0, _ => ⟨[], rfl, by simp⟩
  | n + 1, h => by
    obtain ⟨xs, hl, hq⟩ := list_of n fun i hi => h i (by omega)
    obtain ⟨x, hx⟩ := h n (by omega)
    refine ⟨xs ++ [x], by simp [hl], fun i y hy => ?_⟩
    by_cases hi : i < n
    · rw [List.getElem?_append_left (by omega)] at hy
      exact hq i y hy
    · rw [List.getElem?_append_right (by omega)] at hy
      have : i = n := by
        have := (List.getElem?_eq_some_iff.1 hy).1
        simp at this
        omega
      subst this
      simp [hl] at hy
      subst hy
      exact hx
theorem open_txs {H : Type} {enc : TypeId × Value → H} {P : Program} {W : World} {spare : Nat → Bool} {held : Bool} {t e : TypeId} {A : Option Addr} {n c : Nat} {d : DataW H} {p : List MemPlace}
    (ht : P.underlying t = some (.slice e)) (he : P.underlying e = some .string) (hc : P.cellsOf e = 1) (h : DataW.Trod enc P W 0 spare held t (.slice A n c) d p) :
    ∃ ss, Rd W 1 A n c (txs ss) ∧ ∀ s ∈ ss, s.size ≤ 9223372036854775807 := by
  obtain ⟨fuel, hf⟩ := h
  rcases open_strings ht he hc hf with ⟨hcs, _⟩ | ⟨x, l, cp, ss, hcs, _, hl, hm, hz, _, hcell, hsz⟩
  · simp [Value.cells] at hcs
    obtain ⟨rfl, rfl, rfl⟩ := hcs
    exact ⟨[], Rd.nil _ _, by simp⟩
  · simp [Value.cells] at hcs
    obtain ⟨rfl, rfl, rfl⟩ := hcs
    have hnl : n ≤ ss.length := by rw [hz]; split <;> omega
    refine ⟨ss.take n, ⟨by rw [txs_len, List.length_take]; omega, hl, by unfold maxLen at hm; omega, fun h0 => ?_⟩, fun s hs => by have := hsz s (List.mem_of_mem_take hs); unfold maxLen at this; omega⟩
    rw [txs_len, List.length_take] at h0
    obtain ⟨b, o, spot⟩ := x
    have h00 := hcell 0 (by omega)
    have hspot : spot = none := by simpa [Addr.add] using World.cell?_spot h00
    subst hspot
    refine ⟨b, o, rfl, World.block_lt_of_cell? _ _ (by rw [Go.WideShapes.add_plain] at h00; exact h00), fun j hj => ?_⟩
    rw [txs_len, List.length_take] at hj
    have hcj := hcell j (by omega)
    rw [Go.WideShapes.add_plain] at hcj
    rw [hcj, txs_get, List.getElem?_take_of_lt (by omega), List.getElem?_eq_getElem (by omega : j < ss.length)]
    simp [List.getD, List.getElem?_eq_getElem (by omega : j < ss.length)]
end Go.Proofs.YtiibhejjeijdaaaDoor
