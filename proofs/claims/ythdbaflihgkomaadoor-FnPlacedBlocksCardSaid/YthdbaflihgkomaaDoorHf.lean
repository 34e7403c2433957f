/- Bytes that a call owns: rows of bytes as cells, as functions, as texts. Plain lemmas. (cut out of r5's XMi and XPn) -/
import Derived.Test.YthdbaflihgkomaaDoorTx
import Derived.Lib.ConvBytes
namespace Go.Proofs.YthdbaflihgkomaaDoor
open Go.RowKit

abbrev encU : Int → Value := fun x => Value.int .u8 x
theorem info_u8 : (Tryd.prog.info? 5).map (fun i => (i.zero, i.size, i.bytes)) = some (some (.int .u8 0), 1, 1) := by kernel_rfl
/-- Numbers as bytes. -/
def bys (L : List Int) : List Value := L.map encU
theorem bys_len (L : List Int) : (bys L).length = L.length := by simp [bys]
theorem bys_snoc (L : List Int) (x : Int) : bys L ++ [.int .u8 x] = bys (L ++ [x]) := by simp [bys]
theorem own_bys {w : World} {base : Nat} {e : TypeId} {g n c : Nat} {L : List Int} (h : w.ownsRow base e 1 (.slice (some ⟨g, 0, none⟩) n c) n (bys L)) : ∀ i, i < n → w.cell? ⟨g, 0 + i, none⟩ = some (.int .u8 (L.getD i 0)) := fun i hi => by
  have hl : L.length = n := by have := h.1; simpa [bys] using this
  rw [Nat.zero_add, h.cellAt i (by omega)]
  simp [bys, List.getD, show i < L.length by omega]
/-- The first n cells of block g are these bytes, and none is frozen. -/
def HoldsF (w : World) (g n : Nat) (F : Nat → Int) : Prop := ∀ j, j < n → w.cell? ⟨g, j, none⟩ = some (.int .u8 (F j)) ∧ w.frozen? ⟨g, j, none⟩ = false
theorem HoldsF.congr {w : World} {g n : Nat} {F G : Nat → Int} (h : HoldsF w g n F) (he : ∀ j, j < n → F j = G j) : HoldsF w g n G := fun j hj => by rw [← he j hj]; exact h j hj
theorem HoldsF.below {w w' : World} {g n : Nat} {F : Nat → Int} (h : HoldsF w g n F) (hg : g < w.heap.size) (hb : Below w.heap.size w w') : HoldsF w' g n F := fun j hj =>
  ⟨(hb.cell (p := ⟨g, j, none⟩) hg).trans (h j hj).1, (hb.frozen (p := ⟨g, j, none⟩) hg).trans (h j hj).2⟩
theorem HoldsF.drewN {w : World} {g n : Nat} {F : Nat → Int} (h : HoldsF w g n F) (k : Nat) : HoldsF (w.drewN k) g n F := h
theorem HoldsF.set {w : World} {g n : Nat} {F : Nat → Int} (h : HoldsF w g n F) {x : Nat} (hx : x < n) (v : Int) : HoldsF (w.setCell ⟨g, x, none⟩ (.int .u8 v)) g n (fun j => if j = x then v else F j) := fun j hj => by
  refine ⟨?_, by rw [World.frozen?_setCell]; exact (h j hj).2⟩
  show _ = some (Value.int .u8 (if j = x then v else F j))
  by_cases e : j = x
  · subst e
    rw [if_pos rfl]
    exact World.cell?_setCell_same _ _ _ (h j hj).1
  · rw [if_neg e, World.cell?_setCell_other _ _ _ _ (by intro he; injection he with _ h2; omega)]
    exact (h j hj).1
theorem HoldsF.far {w : World} {g g' n x : Nat} {F : Nat → Int} (h : HoldsF w g n F) (hne : g' ≠ g) (v : Value) : HoldsF (w.setCell ⟨g', x, none⟩ v) g n F := fun j hj => by
  refine ⟨?_, by rw [World.frozen?_setCell]; exact (h j hj).2⟩
  rw [World.cell?_setCell_other _ _ _ _ (by intro he; injection he with h1; exact hne h1)]
  exact (h j hj).1
theorem HoldsF.other {w w' : World} {g g' n : Nat} {F : Nat → Int} (h : HoldsF w g n F) (hl : g < w.heap.size) (hg : w.grownBy w' (some g')) (hne : g ≠ g') : HoldsF w' g n F := fun j hj =>
  ⟨(World.cell?_of_block (hg.block g hl (by simpa using hne))).trans (h j hj).1, (World.frozen?_of_block (hg.block g hl (by simpa using hne))).trans (h j hj).2⟩
theorem HoldsF.own {w : World} {base : Nat} {e : TypeId} {g n c : Nat} {L : List Int} (h : w.ownsRow base e 1 (.slice (some ⟨g, 0, none⟩) n c) n (bys L)) : HoldsF w g n (fun j => L.getD j 0) := fun j hj => by
  have hc := own_bys h j hj
  rw [Nat.zero_add] at hc
  exact ⟨hc, h.frozenAt j⟩
def rowF (off m : Nat) (F : Nat → Int) : List Int := (List.range m).map fun x => F (off + x)
theorem rowF_len (off m : Nat) (F : Nat → Int) : (rowF off m F).length = m := by simp [rowF]
theorem rowF_congr {off m off' : Nat} {F G : Nat → Int} (h : ∀ x, x < m → F (off + x) = G (off' + x)) : rowF off m F = rowF off' m G := by
  unfold rowF
  exact List.map_congr_left fun x hx => h x (List.mem_range.mp hx)
theorem rowF_snoc (m : Nat) (F : Nat → Int) : rowF 0 (m + 1) F = rowF 0 m F ++ [F m] := by simp [rowF, List.range_succ]
theorem rowF_at {off m : Nat} {F : Nat → Int} {i : Nat} (hi : i < m) : (rowF off m F).getD i 0 = F (off + i) := by simp [rowF, List.getD, hi]
theorem HoldsF.conv {w : World} {g n : Nat} {F : Nat → Int} (h : HoldsF w g n F) {off m : Nat} (hm : off + m ≤ n) : ∀ i, i < m → w.cell? ⟨g, off + i, none⟩ = some (.int .u8 ((rowF off m F).getD i 0)) := fun i hi => by
  rw [(h (off + i) (by omega)).1, rowF_at hi]
def StrPost (w : World) (R : List ByteArray) (z : Int) (e : Ending) (w' : World) : Prop :=
  ∃ A n c, e = .returned (.tuple #[.slice A n c, .int .i64 z]) ∧ w'.ownsRow w.heap.size 9 1 (.slice A n c) n (txs R) ∧ Below w.heap.size w w'
theorem strPost_nil {w w' : World} {z : Int} (hb : Below w.heap.size w w') : StrPost w [] z (.returned (.tuple #[.slice none 0 0, .int .i64 z])) w' :=
  ⟨none, 0, 0, rfl, World.ownsRow_nil _ _ _ _, hb⟩
end Go.Proofs.YthdbaflihgkomaaDoor
