/- The contracts of the laws' own helpers: toInt64S, eqInt64S, markInt64S, heldInt64S; and of within and l00In. -/
import Derived.Test.YthdbaflihgkomaaDoorCore
import Derived.Deep.QuietTactic
import Derived.BigQuiet
namespace Go.Proofs.YthdbaflihgkomaaDoor
open Go.RowKit

set_option maxHeartbeats 400000 in
theorem within_any (a b c : Int) (w : World) :
    Calls Tryd.prog 55 #[.int .i64 a, .int .i64 b, .int .i64 c] w fun e w' => e = .returned (.bool (inB a b c)) ∧ w = w' := by
  go_enter Tryd.func55, Tryd.ntmps55
  go_wp2
  all_goals go_ret
  · have h : b ≤ a := by assumption
    exact ⟨by simp [inB, h], rfl⟩
  · have h : a < b := by assumption
    exact ⟨by simp [inB, show ¬ b ≤ a by omega], rfl⟩

set_option maxHeartbeats 400000 in
theorem l00In_any (a b c : Int) (w : World) :
    Calls Tryd.prog 54 #[.int .i64 a, .int .i64 b, .int .i64 c] w fun e w' => e = .returned (.bool (inB a b c)) ∧ w = w' := by
  go_enter Tryd.func54, Tryd.ntmps54
  go_wp2
  all_goals go_ret
  · have h : b ≤ a := by assumption
    exact ⟨by simp [inB, h], rfl⟩
  · have h : a < b := by assumption
    exact ⟨by simp [inB, show ¬ b ≤ a by omega], rfl⟩

theorem info_i64 : (Tryd.prog.info? 2).map (fun i => (i.zero, i.size, i.bytes)) = some (some (.int .i64 0), 1, 8) := by kernel_rfl

theorem set_grow {xs : List Int} {k : Nat} {x : Int} (hx : xs[k]? = some x) (n : Nat) (hn : xs.length = n) :
    (ints (xs.take k ++ List.replicate (n - k) 0)).set k (.int .i64 x) = ints (xs.take (k + 1) ++ List.replicate (n - (k + 1)) 0) := by
  have hk : k < xs.length := (List.getElem?_eq_some_iff.1 hx).1
  apply List.ext_getElem?
  intro j
  rw [List.getElem?_set, ints_get, ints_get]
  rw [ints_len]
  rcases Nat.lt_trichotomy j k with h | h | h
  · rw [if_neg (by omega), List.getElem?_append_left (by simp; omega), List.getElem?_append_left (by simp; omega), List.getElem?_take_of_lt h, List.getElem?_take_of_lt (by omega)]
  · subst h
    rw [if_pos rfl, if_pos (by simp; omega), List.getElem?_append_left (by simp; omega), List.getElem?_take_of_lt (by omega), hx]; rfl
  · rw [if_neg (by omega), List.getElem?_append_right (by simp; omega), List.getElem?_append_right (by simp; omega)]
    simp only [List.length_take, List.getElem?_replicate]
    by_cases hj : j < n
    · rw [if_pos (by omega), if_pos (by omega)]
    · rw [if_neg (by omega), if_neg (by omega)]

theorem get_grow {xs : List Int} {k n : Nat} (hn : xs.length = n) (hk : k < n) : (ints (xs.take k ++ List.replicate (n - k) 0))[k]? = some (.int .i64 0) := by
  rw [ints_get, List.getElem?_append_right (by simp; omega), List.getElem?_replicate, if_pos (by simp; omega)]; rfl

/-- Are two lists equal? As a Bool that no simp opens. -/
def eqL (xs ys : List Int) : Bool := decide (xs = ys)
theorem eqL_self (xs : List Int) : eqL xs xs = true := by simp [eqL]
theorem take_eq_succ {xs ys : List Int} {k : Nat} {x : Int} (h : xs.take k = ys.take k) (hx : xs[k]? = some x) (hy : ys[k]? = some x) : xs.take (k + 1) = ys.take (k + 1) := by
  rw [List.take_add_one, List.take_add_one, h, hx, hy]
theorem ne_of_at {xs ys : List Int} {k : Nat} {x y : Int} (hx : xs[k]? = some x) (hy : ys[k]? = some y) (h : x ≠ y) : eqL xs ys = false := by
  unfold eqL
  rw [decide_eq_false_iff_not]
  intro e
  subst e
  rw [hx] at hy
  injection hy with hy
  exact h hy

/-- k, k + 1, .., n of them. -/
def marks (k : Int) (n : Nat) : List Int := (List.range n).map fun i : Nat => k + (i : Int)
theorem marks_len (k : Int) (n : Nat) : (marks k n).length = n := by simp [marks]
theorem marks_get (k : Int) (n j : Nat) (h : j < n) : (marks k n)[j]? = some (k + (j : Int)) := by simp [marks, h]
theorem mark_set (k : Int) (xs : List Int) (j : Nat) (hj : j < xs.length) : (ints (marks k j ++ xs.drop j)).set j (.int .i64 (k + j)) = ints (marks k (j + 1) ++ xs.drop (j + 1)) := by
  apply List.ext_getElem?
  intro i
  rw [List.getElem?_set, ints_get, ints_get, ints_len]
  have hlen : (marks k j ++ xs.drop j).length = xs.length := by simp [marks_len]; omega
  rw [hlen]
  rcases Nat.lt_trichotomy i j with h | h | h
  · rw [if_neg (by omega), List.getElem?_append_left (by rw [marks_len]; exact h), List.getElem?_append_left (by rw [marks_len]; omega), marks_get _ _ _ h, marks_get _ _ _ (by omega)]
  · subst h
    rw [if_pos rfl, if_pos hj, List.getElem?_append_left (by rw [marks_len]; omega), marks_get _ _ _ (by omega)]; rfl
  · rw [if_neg (by omega), List.getElem?_append_right (by rw [marks_len]; omega), List.getElem?_append_right (by rw [marks_len]; omega), marks_len, marks_len, List.getElem?_drop, List.getElem?_drop]
    congr 2
    omega

end Go.Proofs.YthdbaflihgkomaaDoor
