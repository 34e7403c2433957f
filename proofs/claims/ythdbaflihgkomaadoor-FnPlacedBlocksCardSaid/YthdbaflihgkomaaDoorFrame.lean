/- How an argument that is a slice of int64 is opened. -/
import Derived.Test.YthdbaflihgkomaaDoorCore
import Derived.ProofKit
import Derived.OpenShut
import Derived.ShutString
import Derived.ChangeOld
import Derived.Lib.SmallJoins
namespace Go.Proofs.YthdbaflihgkomaaDoor
open Go.ChangeShapes Go.WideShapes Go.ChangeAt Go.RowKit

theorem open_rd {H : Type} {enc : TypeId × Value → H} {P : Program} {W : World} {spare : Nat → Bool} {held : Bool} {t e : TypeId} {A : Option Addr} {n c : Nat} {d : DataW H} {p : List MemPlace}
    (ht : P.underlying t = some (.slice e)) (he : P.underlying e = some (.int .i64)) (hc : P.cellsOf e = 1) (h : DataW.Trod enc P W 0 spare held t (.slice A n c) d p) :
    ∃ zs, Rd W 1 A n c (ints zs) ∧ ∀ z ∈ zs, i64R z := by
  obtain ⟨fuel, hf⟩ := h
  rcases open_ints ht he hc hf with ⟨hcs, _⟩ | ⟨x, l, cp, zs, hcs, _, hl, hm, hz, _, hcell, hwz⟩
  · simp [Value.cells] at hcs
    obtain ⟨rfl, rfl, rfl⟩ := hcs
    exact ⟨[], Rd.nil _ _, by simp⟩
  · simp [Value.cells] at hcs
    obtain ⟨rfl, rfl, rfl⟩ := hcs
    have hnl : n ≤ zs.length := by rw [hz]; split <;> omega
    refine ⟨zs.take n, ⟨by rw [ints_len, List.length_take]; omega, hl, by unfold maxLen at hm; omega, fun h0 => ?_⟩, fun z hz' => i64R_wf (hwz z (List.mem_of_mem_take hz'))⟩
    rw [ints_len, List.length_take] at h0
    obtain ⟨b, o, rfl, hcc⟩ := ints_at hcell (by omega)
    refine ⟨b, o, rfl, World.block_lt_of_cell? _ _ (hcc 0 (by omega)), fun j hj => ?_⟩
    rw [ints_len, List.length_take] at hj
    rw [hcc j (by omega), ints_get, List.getElem?_take_of_lt (by omega), List.getElem?_eq_getElem (by omega : j < zs.length)]
    simp [List.getD, List.getElem?_eq_getElem (by omega : j < zs.length)]
end Go.Proofs.YthdbaflihgkomaaDoor
