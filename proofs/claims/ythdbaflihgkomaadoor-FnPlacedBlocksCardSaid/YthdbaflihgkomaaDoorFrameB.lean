/- How an argument that is a slice of bytes is opened. -/
import Derived.Test.YthdbaflihgkomaaDoorFrame
import Derived.Test.YthdbaflihgkomaaDoorSrc
namespace Go.Proofs.YthdbaflihgkomaaDoor
open Go.ChangeShapes Go.WideShapes Go.ChangeAt Go.RowKit

theorem open_bytes {H : Type} {enc : TypeId × Value → H} {P : Program} {W : World} {spare : Nat → Bool} {held : Bool} {t e : TypeId} {A : Option Addr} {n c : Nat} {d : DataW H} {p : List MemPlace}
    (ht : P.underlying t = some (.slice e)) (he : P.underlying e = some (.int .u8)) (hc : P.cellsOf e = 1) (h : DataW.Trod enc P W 0 spare held t (.slice A n c) d p) :
    Bytes W A n c := by
  obtain ⟨fuel, hf⟩ := h
  rcases open_ints ht he hc hf with ⟨hcs, _⟩ | ⟨x, l, cp, zs, hcs, _, hl, hm, hz, _, hcell, hwz⟩
  · simp [Value.cells] at hcs
    obtain ⟨rfl, rfl, rfl⟩ := hcs
    exact ⟨Nat.le_refl _, by omega, fun k hk => absurd hk (by omega)⟩
  · simp [Value.cells] at hcs
    obtain ⟨rfl, rfl, rfl⟩ := hcs
    have hnl : n ≤ zs.length := by rw [hz]; split <;> omega
    refine ⟨hl, by unfold maxLen at hm; omega, fun k hk => ?_⟩
    obtain ⟨b, o, rfl, hcc⟩ := ints_at hcell (by omega)
    have hk' := hcc k (by omega)
    have hb : 0 ≤ zs.getD k 0 ∧ zs.getD k 0 ≤ 255 := by
      have : zs.getD k 0 ∈ zs := by
        simp [List.getD, List.getElem?_eq_getElem (by omega : k < zs.length)]
      exact bounds_u8 (hwz _ this)
    exact ⟨b, o, _, rfl, World.block_lt_of_cell? _ _ hk', hb.1, hb.2, hk'⟩
end Go.Proofs.YthdbaflihgkomaaDoor
