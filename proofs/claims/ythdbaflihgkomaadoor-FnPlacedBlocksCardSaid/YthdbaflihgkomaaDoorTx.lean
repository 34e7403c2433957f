/- Slices of strings: words, and the laws' own helpers for them (szStringS, toStringS, eqStringS, markText, markStringS, heldStringS). -/
import Derived.Test.YthdbaflihgkomaaDoorOwn
import Derived.Test.YthdbaflihgkomaaDoorSl
import Derived.Laws.BytesArg
import Derived.Deep.RegionHeld3
import Derived.IntWalk
namespace Go.Proofs.YthdbaflihgkomaaDoor
open Go.RowKit

/-- A list of texts as cells. -/
def txs (ss : List ByteArray) : List Value := ss.map Value.string
theorem txs_len (ss : List ByteArray) : (txs ss).length = ss.length := by simp [txs]
theorem txs_get (ss : List ByteArray) (j : Nat) : (txs ss)[j]? = (ss[j]?).map Value.string := by simp [txs]
theorem txs_append (a b : List ByteArray) : txs (a ++ b) = txs a ++ txs b := by simp [txs]
theorem txs_set (ss : List ByteArray) (i : Nat) (s : ByteArray) : (txs ss).set i (.string s) = txs (ss.set i s) := by simp [txs, List.map_set]
theorem txs_snoc (ss : List ByteArray) (s : ByteArray) : txs ss ++ [.string s] = txs (ss ++ [s]) := by simp [txs]
theorem Rd.tlen {w : World} {A : Option Addr} {n c : Nat} {ss : List ByteArray} (h : Rd w 1 A n c (txs ss)) : ss.length = n := by
  have := h.len; rw [txs_len] at this; omega
/-- The k-th text of a slice that reads as texts. -/
theorem Rd.txt {w : World} {A : Option Addr} {n c : Nat} {ss : List ByteArray} (h : Rd w 1 A n c (txs ss)) {k : Nat} (hk : k < n) :
    ∃ b o s, A = some ⟨b, o, none⟩ ∧ b < w.heap.size ∧ ss[k]? = some s ∧ w.cell? ⟨b, o + k, none⟩ = some (.string s) := by
  have hl := h.tlen
  obtain ⟨b, o, hA, hlt, hc⟩ := h.at0 (by rw [txs_len]; omega)
  have hx : ss[k]? = some (ss[k]'(by omega)) := List.getElem?_eq_getElem _
  refine ⟨b, o, _, hA, hlt, hx, ?_⟩
  rw [hc k (by rw [txs_len]; omega), txs_get, hx]; rfl
theorem own_txt {w : World} {base : Nat} {e : TypeId} {g n c : Nat} {ss : List ByteArray} (h : w.ownsRow base e 1 (.slice (some ⟨g, 0, none⟩) n c) n (txs ss)) {i : Nat} {s : ByteArray} (hi : i < n) (hs : ss[i]? = some s) :
    w.cell? ⟨g, i, none⟩ = some (.string s) := by
  rw [h.cellAt i (by omega), txs_get, hs]; rfl
theorem own_tset {w : World} {base : Nat} {e : TypeId} {g n c : Nat} {ss : List ByteArray} (h : w.ownsRow base e 1 (.slice (some ⟨g, 0, none⟩) n c) n (txs ss)) (i : Nat) (s : ByteArray) :
    (w.setCell ⟨g, i, none⟩ (.string s)).ownsRow base e 1 (.slice (some ⟨g, 0, none⟩) n c) n (txs (ss.set i s)) ∧ w.grownBy (w.setCell ⟨g, i, none⟩ (.string s)) (some g) := by
  have S := h.stored i (.string s)
  rw [txs_set] at S
  exact S
theorem OwnIn.tlen {w : World} {lo hi n c : Nat} {t : TypeId} {A : Option Addr} {ss : List ByteArray} (h : OwnIn w lo hi t 1 A n c (txs ss)) : ss.length = n := by
  have := h.len; rw [txs_len] at this; omega
/-- Filling a list from the left. -/
theorem set_growT {α : Type} {xs : List α} {k : Nat} {x : α} (hx : xs[k]? = some x) (n : Nat) (hn : xs.length = n) (z : α) :
    (xs.take k ++ List.replicate (n - k) z).set k x = xs.take (k + 1) ++ List.replicate (n - (k + 1)) z := by
  have hk : k < xs.length := (List.getElem?_eq_some_iff.1 hx).1
  apply List.ext_getElem?
  intro j
  rw [List.getElem?_set]
  rcases Nat.lt_trichotomy j k with h | h | h
  · rw [if_neg (by omega), List.getElem?_append_left (by simp; omega), List.getElem?_append_left (by simp; omega), List.getElem?_take_of_lt h, List.getElem?_take_of_lt (by omega)]
  · subst h
    rw [if_pos rfl, if_pos (by simp; omega), List.getElem?_append_left (by simp; omega), List.getElem?_take_of_lt (by omega), hx]
  · rw [if_neg (by omega), List.getElem?_append_right (by simp; omega), List.getElem?_append_right (by simp; omega)]
    simp only [List.length_take, List.getElem?_replicate]
    by_cases hj : j < n
    · rw [if_pos (by omega), if_pos (by omega)]
    · rw [if_neg (by omega), if_neg (by omega)]
theorem get_growT {α : Type} {xs : List α} {k n : Nat} (hn : xs.length = n) (hk : k < n) (z : α) : (xs.take k ++ List.replicate (n - k) z)[k]? = some z := by
  rw [List.getElem?_append_right (by simp; omega), List.getElem?_replicate, if_pos (by simp; omega)]
/-- The first j turned. -/
def mixT {α : Type} (a b : List α) (j : Nat) : List α := a.take j ++ b.drop j
theorem mixT_len {α : Type} {a b : List α} (h : a.length = b.length) (j : Nat) : (mixT a b j).length = b.length := by
  unfold mixT; rw [List.length_append, List.length_take, List.length_drop]; omega
theorem mixT_at {α : Type} {a b : List α} (h : a.length = b.length) {j : Nat} (hj : j < b.length) : (mixT a b j)[j]? = b[j]? := by
  unfold mixT
  rw [List.getElem?_append_right (by rw [List.length_take]; exact Nat.min_le_left _ _), List.getElem?_drop, List.length_take]
  congr 1
  omega
theorem mixT_set {α : Type} {a b : List α} (h : a.length = b.length) {j : Nat} {x : α} (hx : a[j]? = some x) : (mixT a b j).set j x = mixT a b (j + 1) := by
  have hj := (List.getElem?_eq_some_iff.1 hx).1
  apply List.ext_getElem?
  intro i
  rw [List.getElem?_set, mixT_len h]
  unfold mixT
  rcases Nat.lt_trichotomy i j with h1 | h1 | h1
  · rw [if_neg (by omega), List.getElem?_append_left (by simp; omega), List.getElem?_append_left (by simp; omega), List.getElem?_take_of_lt h1, List.getElem?_take_of_lt (by omega)]
  · subst h1
    rw [if_pos rfl, if_pos (by omega), List.getElem?_append_left (by simp; omega), List.getElem?_take_of_lt (by omega), hx]
  · rw [if_neg (by omega), List.getElem?_append_right (by simp; omega), List.getElem?_append_right (by simp; omega), List.getElem?_drop, List.getElem?_drop, List.length_take, List.length_take]
    congr 1
    omega
theorem mixT_end {α : Type} {a b : List α} (h : a.length = b.length) {j : Nat} (hj : b.length ≤ j) : mixT a b j = a := by
  unfold mixT
  rw [List.drop_of_length_le hj, List.append_nil, List.take_of_length_le (by omega)]
theorem mixT_zero {α : Type} (a b : List α) : mixT a b 0 = b := by simp [mixT]

theorem cell_belT {w w' : World} {b o : Nat} {v : Value} (h : w.cell? ⟨b, o, none⟩ = some v) (hb : Below w.heap.size w w') : w'.cell? ⟨b, o, none⟩ = some v := (hb.cell (p := ⟨b, o, none⟩) (World.block_lt_of_cell? _ _ h)).trans h
theorem info_str : (Tryd.prog.info? 9).map (fun i => (i.zero, i.size, i.bytes)) = some (some (.string ByteArray.empty), 1, 16) := by kernel_rfl
theorem made_txs (n : Nat) : (madeCells (Value.string ByteArray.empty).cells (n * 1)).toList = txs (List.replicate n ByteArray.empty) := by
  simp [txs, toList_madeCells_one, Value.cells]

end Go.Proofs.YthdbaflihgkomaaDoor
