/- Rows of blocks: the widths and heights of all rows (pure part); l11Code, rowsCode. -/
import Derived.Test.YthdbaflihgkomaaDoorHb
import Derived.Test.YthdbaflihgkomaaDoorSl
namespace Go.Proofs.YthdbaflihgkomaaDoor
open Go.RowKit Go.Shelf

def z9 : List Int := List.replicate 9 0
/-- The widths and heights of the nine rows behind the first k blocks. -/
def rowsK (ps : List (Int × Int)) (rs : List Int) : Nat → List Int × List Int
  | 0 => (z9, z9)
  | k + 1 => match rs[k]?, ps[k]? with
    | some r, some p => ((rowsK ps rs k).1.set r.toNat ((rowsK ps rs k).1.getD r.toNat 0 + p.1), (rowsK ps rs k).2.set r.toNat (max ((rowsK ps rs k).2.getD r.toNat 0) p.2))
    | _, _ => rowsK ps rs k
theorem rowsK_step {ps : List (Int × Int)} {rs W H : List Int} {k : Nat} {r x y : Int} (h : rowsK ps rs k = (W, H)) (hr : rs[k]? = some r) (hp : ps[k]? = some (x, y)) :
    rowsK ps rs (k + 1) = (W.set r.toNat (W.getD r.toNat 0 + x), H.set r.toNat (max (H.getD r.toNat 0) y)) := by
  unfold rowsK
  rw [hr, hp, h]
/-- What the rows are while k blocks lie in them. -/
structure RowsB (W H : List Int) (k : Nat) : Prop where
  wl : W.length = 9
  hl : H.length = 9
  wb : ∀ (j : Nat) (x : Int), W[j]? = some x → 0 ≤ x ∧ x ≤ k * 5000
  hb : ∀ (j : Nat) (x : Int), H[j]? = some x → 0 ≤ x ∧ x ≤ 5000
theorem get_set_cases {l : List Int} {i j : Nat} {v x : Int} (h : (l.set i v)[j]? = some x) : x = v ∨ l[j]? = some x := by
  rw [List.getElem?_set] at h
  split at h
  · split at h
    · injection h with h; exact .inl h.symm
    · cases h
  · exact .inr h
theorem getD_of {l : List Int} {j : Nat} (h : j < l.length) : l[j]? = some (l.getD j 0) := by
  simp [List.getD, List.getElem?_eq_getElem h]
theorem rowsB0 : RowsB z9 z9 0 := by
  refine ⟨rfl, rfl, fun j x h => ?_, fun j x h => ?_⟩ <;>
  · unfold z9 at h
    rw [List.getElem?_replicate] at h
    split at h
    · injection h with h; omega
    · cases h
theorem RowsB.step {W H : List Int} {k : Nat} (h : RowsB W H k) {r x y : Int} (hr : 0 ≤ r ∧ r ≤ 8) (hx : 0 ≤ x ∧ x ≤ 5000) (hy : 0 ≤ y ∧ y ≤ 5000) :
    RowsB (W.set r.toNat (W.getD r.toNat 0 + x)) (H.set r.toNat (max (H.getD r.toNat 0) y)) (k + 1) := by
  refine ⟨by simp [h.wl], by simp [h.hl], fun j v hv => ?_, fun j v hv => ?_⟩
  · rcases get_set_cases hv with rfl | hv
    · have := h.wb _ _ (getD_of (l := W) (j := r.toNat) (by rw [h.wl]; omega))
      omega
    · have := h.wb j v hv
      omega
  · rcases get_set_cases hv with rfl | hv
    · have := h.hb _ _ (getD_of (l := H) (j := r.toNat) (by rw [h.hl]; omega))
      omega
    · exact h.hb j v hv
theorem ints_set (l : List Int) (i : Nat) (v : Int) : (ints l).set i (.int .i64 v) = ints (l.set i v) := by simp [ints, List.map_set]
theorem own_int {w : World} {base : Nat} {e : TypeId} {g n c : Nat} {l : List Int} (h : w.ownsRow base e 1 (.slice (some ⟨g, 0, none⟩) n c) n (ints l)) {i : Nat} (hi : i < n) (hl : l.length = n) :
    w.cell? ⟨g, i, none⟩ = some (.int .i64 (l.getD i 0)) := by
  rw [h.cellAt i (by omega), ints_get, getD_of (by omega)]; rfl
theorem own_iset {w : World} {base : Nat} {e : TypeId} {g n c : Nat} {l : List Int} (h : w.ownsRow base e 1 (.slice (some ⟨g, 0, none⟩) n c) n (ints l)) (i : Nat) (v : Int) :
    (w.setCell ⟨g, i, none⟩ (.int .i64 v)).ownsRow base e 1 (.slice (some ⟨g, 0, none⟩) n c) n (ints (l.set i v)) ∧ w.grownBy (w.setCell ⟨g, i, none⟩ (.int .i64 v)) (some g) := by
  have S := h.stored i (.int .i64 v)
  rw [ints_set] at S
  exact S
theorem own_drew {w : World} {base k : Nat} {e : TypeId} {A : Option Addr} {n c : Nat} {cs : List Value} (h : w.ownsRow base e k (.slice A n c) n cs) (q : Nat) : (w.drewN q).ownsRow base e k (.slice A n c) n cs :=
  own_below h (below_drewN (Below.refl _ _) q)

theorem own_other {w w' : World} {base k : Nat} {e : TypeId} {g g' n c : Nat} {cs : List Value} (h : w.ownsRow base e k (.slice (some ⟨g, 0, none⟩) n c) n cs) (hg : w.grownBy w' (some g')) (hne : g ≠ g') :
    w'.ownsRow base e k (.slice (some ⟨g, 0, none⟩) n c) n cs := h.kept hg (.inr (by simpa [Value.ownBlock] using hne))
theorem cell_other {w w' : World} {b o g : Nat} {v : Value} (h : w.cell? ⟨b, o, none⟩ = some v) (hg : w.grownBy w' (some g)) (hne : b ≠ g) : w'.cell? ⟨b, o, none⟩ = some v :=
  (World.cell?_of_block (hg.block b (World.block_lt_of_cell? _ _ h) (by simpa using hne))).trans h

theorem grown_drew {w w' : World} {row : Option Nat} (h : w.grownBy w' row) : w.grownBy w'.drew row := ⟨h.os, h.tape, h.output, h.size, h.block⟩

theorem l00MaxS_any (a b : Int) (w : World) : Calls Tryd.prog 64 #[.int .i64 a, .int .i64 b] w fun e w' => e = .returned (.int .i64 (max a b)) ∧ w' = w :=
  (l00MaxM_any a b w).mono fun _ _ h => ⟨h.1, h.2.symm⟩

/-- The code of blocks and rows. -/
def rowsC (ps : List (Int × Int)) (roll : Int) (rs : List Int) : Int :=
  if blocksB ps roll = false then 1 else if (decide (rs.length ≠ ps.length) || outB rs 0 8) = true then 2 else 0
theorem rowsC_ok {ps : List (Int × Int)} {roll : Int} {rs : List Int} (h : rowsC ps roll rs = 0) : BOk ps roll ∧ rs.length = ps.length ∧ ∀ (j : Nat) (r : Int), rs[j]? = some r → 0 ≤ r ∧ r ≤ 8 := by
  unfold rowsC at h
  split at h
  · omega
  · rename_i h1
    split at h
    · omega
    · rename_i h2
      simp only [Bool.not_eq_false] at h1
      simp only [Bool.or_eq_true, decide_eq_true_eq, not_or, Classical.not_not] at h2
      refine ⟨bok h1, h2.1, fun j r hr => ?_⟩
      have h3 : outB rs 0 8 = false := by simpa using h2.2
      unfold outB at h3
      rw [List.any_eq_false] at h3
      have := h3 r (List.mem_of_getElem? hr)
      exact inB_true (by simpa using this)
end Go.Proofs.YthdbaflihgkomaaDoor
