/- Slices that the call owns, each within an interval of block numbers: so that two of them never meet. Plain lemmas; no program. -/
import Derived.Test.YthdbaflihgkomaaDoorLaw
namespace Go.Proofs.YthdbaflihgkomaaDoor
open Go.RowKit

structure OwnIn (w : World) (lo hi : Nat) (t : TypeId) (k : Nat) (A : Option Addr) (n c : Nat) (cs : List Value) : Prop where
  own : w.ownsRow lo t k (.slice A n c) n cs
  top : ∀ g, (Value.slice A n c).ownBlock = some g → g < hi
  le : hi ≤ w.heap.size
section
variable {w w1 : World} {lo hi k n c : Nat} {t : TypeId} {A : Option Addr} {cs : List Value}
theorem OwnIn.new {W : World} (h : w.ownsRow W.heap.size t k (.slice A n c) n cs) : OwnIn w W.heap.size w.heap.size t k A n c cs :=
  ⟨h, fun g hg => (own_block h g hg).2, Nat.le_refl _⟩
theorem OwnIn.below (h : OwnIn w lo hi t k A n c cs) (hb : Below w.heap.size w w1) : OwnIn w1 lo hi t k A n c cs :=
  ⟨own_below h.own hb, h.top, Nat.le_trans h.le hb.size⟩
theorem OwnIn.rd (h : OwnIn w lo hi t k A n c cs) : Rd w k A n c cs := Rd.of_own h.own
theorem OwnIn.ge (h : OwnIn w lo hi t k A n c cs) : ∀ g, (Value.slice A n c).ownBlock = some g → lo ≤ g := fun g hg => (own_block h.own g hg).1
/-- Another slice is written: this one stays. -/
theorem OwnIn.other {lo' hi' k' n' c' : Nat} {t' : TypeId} {A' : Option Addr} {cs' : List Value} (h : OwnIn w lo hi t k A n c cs) (h' : OwnIn w lo' hi' t' k' A' n' c' cs') (hg : w.grownBy w1 (Value.slice A' n' c').ownBlock) (ha : hi ≤ lo' ∨ hi' ≤ lo) :
    OwnIn w1 lo hi t k A n c cs := by
  refine ⟨h.own.kept hg ?_, h.top, Nat.le_trans h.le hg.size⟩
  cases e : (Value.slice A n c).ownBlock with
  | none => exact .inl rfl
  | some g =>
    refine .inr fun e' => ?_
    have h1 := h.top g e
    have h2 := h.ge g e
    have h3 := h'.top g e'.symm
    have h4 := h'.ge g e'.symm
    omega
/-- This one is written. -/
theorem OwnIn.self {cs' : List Value} (h : OwnIn w lo hi t k A n c cs) (h' : w1.ownsRow lo t k (.slice A n c) n cs') (hg : w.grownBy w1 (Value.slice A n c).ownBlock) : OwnIn w1 lo hi t k A n c cs' :=
  ⟨h', h.top, Nat.le_trans h.le hg.size⟩
theorem OwnIn.base {W : World} {B : Nat} (h : OwnIn w lo hi t k A n c cs) (hb : Below B W w) (hg : w.grownBy w1 (Value.slice A n c).ownBlock) (hB : B ≤ lo) (hW : B ≤ W.heap.size) : Below B W w1 :=
  hb.grown hg (Nat.le_trans hW hb.size) (fun g e => Nat.le_trans hB (h.ge g e))
theorem OwnIn.len (h : OwnIn w lo hi t k A n c cs) : cs.length = n * k := h.own.1
end
theorem OwnIn.ilen {w : World} {lo hi n c : Nat} {t : TypeId} {A : Option Addr} {xs : List Int} (h : OwnIn w lo hi t 1 A n c (ints xs)) : xs.length = n := by
  have := h.len; rw [ints_len] at this; omega
end Go.Proofs.YthdbaflihgkomaaDoor
