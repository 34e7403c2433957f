/- Sorting by insertion from the right (pure part): for slices.SortStableFunc over few elements, and for the reference's insertion. -/
import Derived.Test.YthdbaflihgkomaaFr5
namespace Go.Proofs.Ythdbaflihgkomaa
open Go.RowKit Go.Shelf

/-- Where x comes among the first k of l: behind the last one that x does not come before. -/
def posK (lt : Int → Int → Bool) (l : List Int) (x : Int) : Nat → Nat
  | 0 => 0
  | k + 1 => if lt x (l.getD k 0) = true then posK lt l x k else k + 1
theorem posK_le (lt : Int → Int → Bool) (l : List Int) (x : Int) : ∀ k, posK lt l x k ≤ k
  | 0 => Nat.le_refl _
  | k + 1 => by
    unfold posK
    split
    · have := posK_le lt l x k; omega
    · omega
/-- l with x put in. -/
def insK (lt : Int → Int → Bool) (l : List Int) (x : Int) : List Int := l.take (posK lt l x l.length) ++ x :: l.drop (posK lt l x l.length)
theorem insK_len (lt : Int → Int → Bool) (l : List Int) (x : Int) : (insK lt l x).length = l.length + 1 := by
  have := posK_le lt l x l.length
  unfold insK
  simp
  omega
/-- The first k of os, sorted. -/
def sortK (lt : Int → Int → Bool) (os : List Int) : Nat → List Int
  | 0 => []
  | k + 1 => insK lt (sortK lt os k) (os.getD k 0)
theorem sortK_len (lt : Int → Int → Bool) (os : List Int) : ∀ k, (sortK lt os k).length = k
  | 0 => rfl
  | k + 1 => by unfold sortK; rw [insK_len, sortK_len lt os k]
theorem insK_mem {lt : Int → Int → Bool} {l : List Int} {x y : Int} (h : y ∈ insK lt l x) : y = x ∨ y ∈ l := by
  unfold insK at h
  rcases List.mem_append.1 h with h | h
  · exact .inr (List.mem_of_mem_take h)
  · rcases List.mem_cons.1 h with h | h
    · exact .inl h
    · exact .inr (List.mem_of_mem_drop h)
theorem sortK_mem {lt : Int → Int → Bool} {os : List Int} {y : Int} : ∀ {k : Nat}, k ≤ os.length → y ∈ sortK lt os k → y ∈ os
  | 0, _, h => by simp [sortK] at h
  | k + 1, hk, h => by
    unfold sortK at h
    rcases insK_mem h with h | h
    · subst h
      have : os[k]? = some (os.getD k 0) := getD_of (by omega)
      exact List.mem_of_getElem? this
    · exact sortK_mem (by omega) h
end Go.Proofs.Ythdbaflihgkomaa
