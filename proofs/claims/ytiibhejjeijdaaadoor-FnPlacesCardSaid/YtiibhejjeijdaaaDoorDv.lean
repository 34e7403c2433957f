/- Drawing: general words. What is laid newly may turn: seen from the world before, only the source's block has. one, among. -/
import Derived.Test.YtiibhejjeijdaaaDoorLg
import Derived.Test.YtiibhejjeijdaaaDoorWd
namespace Go.Proofs.YtiibhejjeijdaaaDoor
open Go.RowKit

/-- What was laid newly may turn: seen from the world before, only block g has. -/
theorem grown_new {w w1 w2 : World} {g : Nat} {row : Option Nat} (h : w.grownBy w1 (some g)) (h2 : w1.grownBy w2 row) (hr : ∀ b, row = some b → w.heap.size ≤ b) : w.grownBy w2 (some g) :=
  ⟨h2.os.trans h.os, h2.tape.trans h.tape, h2.output.trans h.output, Nat.le_trans h.size h2.size, fun k hk hne => (h2.block k (Nat.lt_of_lt_of_le hk h.size) (fun e => by have := hr k e.symm; omega)).trans (h.block k hk hne)⟩
theorem grown_alloc {w w1 : World} {g : Nat} (h : w.grownBy w1 (some g)) (o : Obj) : w.grownBy (w1.alloc o) (some g) :=
  grown_new h (row := none) ⟨rfl, rfl, rfl, by simp, fun k hk _ => Below.heap_alloc w1 o k hk⟩ (fun b e => by cases e)
theorem grown_bel {w w1 w2 : World} {g : Nat} (h : w.grownBy w1 (some g)) (hb : Below w1.heap.size w1 w2) : w.grownBy w2 (some g) :=
  grown_new h (row := none) ⟨hb.os, hb.tape, hb.output, hb.size, fun k hk _ => hb.block k hk⟩ (fun b e => by cases e)
theorem grown_low {w0 w w1 : World} {g : Nat} (h : w.grownBy w1 (some g)) (h0 : w0.grownBy w (some g)) : w0.grownBy w1 (some g) := World.grownBy.trans h0 h
theorem grown_of_alloc {w w1 : World} {o : Obj} {g : Nat} (h : (w.alloc o).grownBy w1 (some g)) : w.grownBy w1 (some g) := grown_low h (grown_alloc (World.grownBy.refl w (some g)) o)
theorem below_of_grown {w w1 w2 : World} {g : Nat} (hb : Below w.heap.size w w1) (hg : w1.grownBy w2 (some g)) (hge : w.heap.size ≤ g) : Below w.heap.size w w2 := hb.grown hg hb.size (fun y hy => by injection hy with hy; omega)
/-- Seen from w, only block g and what is new has turned; w2 came of w1 by blocks that are new beside w. -/
theorem grown_own {w w1 w2 : World} {g b : Nat} (h : w.grownBy w1 (some g)) (h2 : w1.grownBy w2 (some b)) (hb : w.heap.size ≤ b) : w.grownBy w2 (some g) := grown_new h h2 (fun x e => by injection e with e; omega)
end Go.Proofs.YtiibhejjeijdaaaDoor
