/- Out: only blocks from lo up to hi have turned. Plain lemmas; no program. -/
import Derived.Test.YthdbaflihgkomaaDoorOwn
namespace Go.Proofs.YthdbaflihgkomaaDoor
open Go.RowKit

/-- Nothing has turned but blocks from lo up to hi, and what is new. -/
structure Out (lo hi : Nat) (w w' : World) : Prop where
  os : w'.os = w.os
  tape : w'.tape = w.tape
  output : w'.output = w.output
  size : w.heap.size ≤ w'.heap.size
  block : ∀ i, i < w.heap.size → (i < lo ∨ hi ≤ i) → w'.heap[i]? = w.heap[i]?
theorem Out.refl (lo hi : Nat) (w : World) : Out lo hi w w := ⟨rfl, rfl, rfl, Nat.le_refl _, fun _ _ _ => rfl⟩
theorem Out.trans {lo hi : Nat} {a b c : World} (h : Out lo hi a b) (k : Out lo hi b c) : Out lo hi a c :=
  ⟨k.os.trans h.os, k.tape.trans h.tape, k.output.trans h.output, Nat.le_trans h.size k.size, fun i hi' hn => (k.block i (Nat.lt_of_lt_of_le hi' h.size) hn).trans (h.block i hi' hn)⟩
theorem Out.of_grown {lo hi : Nat} {w w' : World} {row : Option Nat} (h : w.grownBy w' row) (hr : ∀ g, row = some g → lo ≤ g ∧ g < hi) : Out lo hi w w' :=
  ⟨h.os, h.tape, h.output, h.size, fun i hi' hn => h.block i hi' (fun e => by have := hr i e.symm; omega)⟩
theorem Out.of_below {lo hi : Nat} {w w' : World} (h : Below w.heap.size w w') : Out lo hi w w' := ⟨h.os, h.tape, h.output, h.size, fun i hi' _ => h.block i hi'⟩
theorem Out.below {lo hi B : Nat} {w0 w w' : World} (h : Below B w0 w) (k : Out lo hi w w') (hB : B ≤ lo) (hw : B ≤ w.heap.size) : Below B w0 w' :=
  ⟨k.os.trans h.os, k.tape.trans h.tape, k.output.trans h.output, Nat.le_trans h.size k.size, fun i hi' => (k.block i (Nat.lt_of_lt_of_le hi' hw) (.inl (Nat.lt_of_lt_of_le hi' hB))).trans (h.block i hi')⟩
theorem OwnIn.out {w w' : World} {lo hi lo' hi' k n c : Nat} {t : TypeId} {A : Option Addr} {cs : List Value} (h : OwnIn w lo hi t k A n c cs) (ho : Out lo' hi' w w') (ha : hi ≤ lo' ∨ hi' ≤ lo) : OwnIn w' lo hi t k A n c cs := by
  refine ⟨⟨h.own.1, ?_⟩, h.top, Nat.le_trans h.le ho.size⟩
  rcases h.own.2 with h2 | ⟨g, cap, cur, hv, hg, hb, r⟩
  · exact .inl h2
  · refine .inr ⟨g, cap, cur, hv, hg, ?_, r⟩
    have hgh := h.top g (by rw [hv]; rfl)
    rw [ho.block g (Array.getElem?_eq_some_iff.1 hb).1 (by omega)]
    exact hb
theorem OwnIn.mid {w w' : World} {lo hi k n c : Nat} {t : TypeId} {A : Option Addr} {cs : List Value} (h : OwnIn w lo hi t k A n c cs) {row : Option Nat} (hg : w.grownBy w' row) (hne : ∀ g, (Value.slice A n c).ownBlock = some g → row ≠ some g) : OwnIn w' lo hi t k A n c cs := by
  refine ⟨h.own.kept hg ?_, h.top, Nat.le_trans h.le hg.size⟩
  cases e : (Value.slice A n c).ownBlock with
  | none => exact .inl rfl
  | some g => exact .inr fun e' => hne g e e'.symm
end Go.Proofs.YthdbaflihgkomaaDoor
