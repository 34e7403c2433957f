/- markBlockS and heldBlockS. -/
import Derived.Test.YthdbaflihgkomaaDoorPr2
namespace Go.Proofs.YthdbaflihgkomaaDoor
open Go.RowKit

/-- (k, k + 1), (k + 2, k + 3), .., n of them. -/
def marksP (k : Int) (n : Nat) : List (Int × Int) := (List.range n).map fun i : Nat => (k + 2 * (i : Int), k + 2 * (i : Int) + 1)
theorem marksP_len (k : Int) (n : Nat) : (marksP k n).length = n := by simp [marksP]
theorem marksP_get (k : Int) (n j : Nat) (h : j < n) : (marksP k n)[j]? = some (k + 2 * (j : Int), k + 2 * (j : Int) + 1) := by simp [marksP, h]
theorem markP_set (k : Int) (ps : List (Int × Int)) (j : Nat) (hj : j < ps.length) : (marksP k j ++ ps.drop j).set j (k + 2 * (j : Int), k + 2 * (j : Int) + 1) = marksP k (j + 1) ++ ps.drop (j + 1) := by
  apply List.ext_getElem?
  intro i
  have hlen : (marksP k j ++ ps.drop j).length = ps.length := by simp [marksP_len]; omega
  rw [List.getElem?_set, hlen]
  rcases Nat.lt_trichotomy i j with h | h | h
  · rw [if_neg (by omega), List.getElem?_append_left (by rw [marksP_len]; exact h), List.getElem?_append_left (by rw [marksP_len]; omega), marksP_get _ _ _ h, marksP_get _ _ _ (by omega)]
  · subst h
    rw [if_pos rfl, if_pos hj, List.getElem?_append_left (by rw [marksP_len]; omega), marksP_get _ _ _ (by omega)]
  · rw [if_neg (by omega), List.getElem?_append_right (by rw [marksP_len]; omega), List.getElem?_append_right (by rw [marksP_len]; omega), marksP_len, marksP_len, List.getElem?_drop, List.getElem?_drop]
    congr 1
    omega

end Go.Proofs.YthdbaflihgkomaaDoor
