/- OpText: what both answer (plain). -/
import Derived.Test.YtgghjieeckkpbaaDoorJn
import Derived.Test.YtgghjieeckkpbaaDoorOk
namespace Go.Proofs.YtgghjieeckkpbaaDoor
open Go.RowKit

def comB : ByteArray := ⟨#[44]⟩
def blankB : ByteArray := ⟨#[32]⟩
def minB : ByteArray := ⟨#[109, 105, 110]⟩
def aftB : ByteArray := ⟨#[32, 97, 102, 116, 101, 114, 32]⟩
/-- What stands behind the names of what comes before. -/
def tlT (base : ByteArray) (names : List ByteArray) : ByteArray := if names = [] then base else base ++ (aftB ++ jnT names comB)
theorem tlT_nil (base : ByteArray) : tlT base [] = base := rfl
theorem tlT_some (base : ByteArray) {names : List ByteArray} (h : names ≠ []) : tlT base names = base ++ (aftB ++ jnT names comB) := if_neg h
theorem tlT_first (base a : ByteArray) : tlT base [a] = (base ++ aftB) ++ a := by
  rw [tlT_some _ (by simp), jnT_one, bytes_assoc]
theorem tlT_next (base a : ByteArray) {names : List ByteArray} (h : names ≠ []) : tlT base (names ++ [a]) = (tlT base names ++ comB) ++ a := by
  rw [tlT_some _ (by simp), tlT_some _ h, jnT_snoc _ _ _ h]
  simp only [bytes_assoc]
theorem tlT_size (base : ByteArray) (names : List ByteArray) (h : ∀ s ∈ names, s.size ≤ 12) (hn : names.length ≤ 14) : (tlT base names).size ≤ base.size + 189 := by
  have h1 := jnT_size names comB 12 h
  have h2 : comB.size = 1 := rfl
  have h3 : aftB.size = 7 := rfl
  rw [h2] at h1
  unfold tlT
  split
  · omega
  · rw [ByteArray.size_append, ByteArray.size_append, h3]
    omega
/-- The name of the j-th operation. -/
def nmAt (ops : List OpV) (j : Int) : ByteArray := ((ops[j.toNat]?).map (·.nm)).getD ⟨#[]⟩
theorem nmAt_of {ops : List OpV} {j : Int} {p : OpV} (h : ops[j.toNat]? = some p) : nmAt ops j = p.nm := by unfold nmAt; rw [h]; rfl
def opBase (p : OpV) : ByteArray := ((p.nm ++ blankB) ++ dk p.mn) ++ minB
def opBody (ops : List OpV) (p : OpV) : ByteArray := tlT (opBase p) (p.bf.map (nmAt ops))
/-- What both answer. -/
noncomputable def opT (ops : List OpV) (k : Int) : ByteArray := if okO ops && inB k 0 ((ops.length : Int) - 1) then ((ops[k.toNat]?).map (opBody ops)).getD ⟨#[]⟩ else ⟨#[]⟩
theorem opT_yes {ops : List OpV} {k : Int} {p : OpV} (h1 : okO ops = true) (h2 : inB k 0 ((ops.length : Int) - 1) = true) (hp : ops[k.toNat]? = some p) : opT ops k = opBody ops p := by
  unfold opT
  rw [h1, h2, hp]
  rfl
theorem opT_no1 {ops : List OpV} {k : Int} (h1 : okO ops = false) : opT ops k = ⟨#[]⟩ := by unfold opT; rw [h1]; rfl
theorem opT_no2 {ops : List OpV} {k : Int} (h1 : okO ops = true) (h2 : inB k 0 ((ops.length : Int) - 1) = false) : opT ops k = ⟨#[]⟩ := by unfold opT; rw [h1, h2]; rfl
theorem nm_len {ops : List OpV} (h : OOk ops) {k : Nat} {p : OpV} (hp : ops[k]? = some p) : p.nm.size ≤ 12 := by
  have h1 := (h.op k p hp).1
  unfold nmB at h1
  exact (@of_decide_eq_true _ (Classical.propDecidable _) h1).2.1
theorem mn_le {ops : List OpV} (h : OOk ops) {k : Nat} {p : OpV} (hp : ops[k]? = some p) : 1 ≤ p.mn ∧ p.mn ≤ 600 := inB_true (h.op k p hp).2.1
theorem bfx_at {ops : List OpV} (h : OOk ops) {k : Nat} {p : OpV} (hp : ops[k]? = some p) {j : Nat} {x : Int} (hx : p.bf[j]? = some x) : 0 ≤ x ∧ x < ops.length := by
  have h1 := (incB_at (h.op k p hp).2.2.1).1 j x hx
  omega
theorem bfx_le {ops : List OpV} (h : OOk ops) {k : Nat} {p : OpV} (hp : ops[k]? = some p) : p.bf.length ≤ 14 := by
  have h1 := incB_len (h.op k p hp).2.2.1
  have := h.len
  omega
theorem opBase_size {ops : List OpV} (h : OOk ops) {k : Nat} {p : OpV} (hp : ops[k]? = some p) : (opBase p).size ≤ 22 := by
  have h1 := nm_len h hp
  have h2 := dk_size (z := p.mn) (by have := mn_le h hp; omega)
  unfold opBase
  rw [ByteArray.size_append, ByteArray.size_append, ByteArray.size_append]
  have h3 : blankB.size = 1 := rfl
  have h4 : minB.size = 3 := rfl
  omega
theorem names_size {ops : List OpV} (h : OOk ops) {k : Nat} {p : OpV} (hp : ops[k]? = some p) : ∀ s ∈ p.bf.map (nmAt ops), s.size ≤ 12 := fun s hs => by
  obtain ⟨x, hx, rfl⟩ := List.mem_map.1 hs
  obtain ⟨j, hj⟩ := List.getElem?_of_mem hx
  have hb := bfx_at h hp hj
  have hq := List.getElem?_eq_getElem (l := ops) (i := x.toNat) (by omega)
  rw [nmAt_of hq]
  exact nm_len h hq
theorem tail_size {ops : List OpV} (h : OOk ops) {k : Nat} {p : OpV} (hp : ops[k]? = some p) (j : Nat) : (tlT (opBase p) ((p.bf.take j).map (nmAt ops))).size ≤ 211 := by
  have h1 := opBase_size h hp
  have h2 := tlT_size (opBase p) ((p.bf.take j).map (nmAt ops)) (fun s hs => by
    refine names_size h hp s ?_
    obtain ⟨x, hx, rfl⟩ := List.mem_map.1 hs
    exact List.mem_map.2 ⟨x, List.mem_of_mem_take hx, rfl⟩) (by
    have := bfx_le h hp
    rw [List.length_map, List.length_take]
    omega)
  omega
theorem names_take {ops : List OpV} {bf : List Int} {j : Nat} {x : Int} {q : OpV} (hx : bf[j]? = some x) (hq : ops[x.toNat]? = some q) : (bf.take (j + 1)).map (nmAt ops) = (bf.take j).map (nmAt ops) ++ [q.nm] := by
  rw [List.take_add_one, hx, List.map_append]
  simp [nmAt_of hq]
end Go.Proofs.YtgghjieeckkpbaaDoor
