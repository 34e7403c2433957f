/- Blocks beside a source of choices; a2Long, a2At. (XLsrc without the leather.) -/
import Derived.Test.YthdbaflihgkomaaDoorSrc
namespace Go.Proofs.YthdbaflihgkomaaDoor
open Go.RowKit

theorem Box.only {w w1 : World} {b g : Nat} {cs : Array Value} (h : Box w b cs) (hg : w.grownBy w1 (some g)) (hne : b ≠ g) : Box w1 b cs := by
  have hb := hg.block b h.lt (by simpa using hne)
  exact ⟨fun i => (World.cell?_of_block hb).trans (h.cell i), fun i => (World.frozen?_of_block hb).trans (h.froz i), Nat.lt_of_lt_of_le h.lt hg.size⟩

theorem Box.far {w : World} {b L i : Nat} {cs : Array Value} (h : Box w b cs) (hne : b ≠ L) (u : Value) : Box (w.setCell ⟨L, i, none⟩ u) b cs := by
  refine ⟨fun j => ?_, fun j => ?_, by have := h.lt; simpa using this⟩
  · rw [World.cell?_setCell_other _ _ _ _ (by intro he; injection he with h1; exact hne h1.symm)]
    exact h.cell j
  · rw [World.frozen?_setCell]
    exact h.froz j

theorem grown_far {w w1 : World} {g L i : Nat} (h : w.grownBy w1 (some g)) (hL : w.heap.size ≤ L) (u : Value) : w.grownBy (w1.setCell ⟨L, i, none⟩ u) (some g) :=
  ⟨h.os, h.tape, h.output, by simpa using h.size, fun k hk hne => (Below.heap_setCell w1 ⟨L, i, none⟩ u k (fun e => by simp at e; omega)).trans (h.block k hk hne)⟩

/-- A number that some byte gives, from 0 to k - 1. -/
def AtPost (k : Int) (w : World) (e : Ending) (w' : World) : Prop := ∃ r : Int, 0 ≤ r ∧ r < k ∧ e = .returned (.int .i64 r) ∧ w = w'
end Go.Proofs.YthdbaflihgkomaaDoor
