/- Words for memory that this seat's walks use: a range test, a block known whole, a slice that reads as a list of cells, a slice that the call owns. Plain lemmas; no program. -/
import Derived.Test.YthdbaflihgkomaaDoorRows
import Derived.WalkKit
import Derived.Handy
import Derived.WalkSpells
import Derived.WalkLawsBesides
import Derived.Deep.LoopGhost
import Derived.Lib.Hide
import Derived.Maps.AppendAt
namespace Go.Proofs.YthdbaflihgkomaaDoor
open Go.RowKit

/-- lo ≤ n ≤ hi, as a Bool that no simp opens. -/
def inB (n lo hi : Int) : Bool := decide (lo ≤ n) && decide (n ≤ hi)
theorem inB_true {n lo hi : Int} (h : inB n lo hi = true) : lo ≤ n ∧ n ≤ hi := by simpa [inB] using h
theorem inB_false {n lo hi : Int} (h : inB n lo hi = false) : n < lo ∨ hi < n := by
  simp [inB] at h; omega
theorem inB_mk {n lo hi : Int} (h1 : lo ≤ n) (h2 : n ≤ hi) : inB n lo hi = true := by simp [inB, h1, h2]
theorem inB_no {n lo hi : Int} (h : n < lo ∨ hi < n) : inB n lo hi = false := by simp [inB]; omega

/-- A whole number that fits in 64 bits. -/
def i64R (x : Int) : Prop := -9223372036854775808 ≤ x ∧ x ≤ 9223372036854775807
theorem i64R_wf {x : Int} (h : (Lit.int .i64 x).wf = true) : i64R x := bounds_i64 h

/-- Block g of w holds just the cells cs, none frozen. -/
structure Box (w : World) (g : Nat) (cs : Array Value) : Prop where
  cell : ∀ i, w.cell? ⟨g, i, none⟩ = cs[i]?
  froz : ∀ i, w.frozen? ⟨g, i, none⟩ = false
  lt : g < w.heap.size
theorem Box.new (w : World) (cs : Array Value) (t : TypeId) : Box (w.alloc (.cells cs t)) w.heap.size cs :=
  ⟨fun i => cell_of_row _ _ i cs t (0, 0) (heap_alloc_new w _), fun i => frozen_of_row _ _ i cs t (heap_alloc_new w _), by simp⟩
theorem Box.below {w w1 : World} {g : Nat} {cs : Array Value} (h : Box w g cs) (hb : Below w.heap.size w w1) : Box w1 g cs :=
  ⟨fun i => (hb.cell (p := ⟨g, i, none⟩) h.lt).trans (h.cell i), fun i => (hb.frozen (p := ⟨g, i, none⟩) h.lt).trans (h.froz i), Nat.lt_of_lt_of_le h.lt hb.size⟩
theorem Box.alloc {w : World} {g : Nat} {cs : Array Value} (h : Box w g cs) (o : Obj) : Box (w.alloc o) g cs := h.below ((Below.refl _ _).alloc (Nat.le_refl _) _)

/-- The slice value '.slice A n c' reads, in w, as the cells cs, k of them an element. -/
structure Rd (w : World) (k : Nat) (A : Option Addr) (n c : Nat) (cs : List Value) : Prop where
  len : cs.length = n * k
  cap : n ≤ c
  max : c ≤ 9223372036854775807
  at0 : 0 < cs.length → ∃ b o, A = some ⟨b, o, none⟩ ∧ b < w.heap.size ∧ ∀ j, j < cs.length → w.cell? ⟨b, o + j, none⟩ = cs[j]?
theorem Rd.below {w w1 : World} {k : Nat} {A : Option Addr} {n c : Nat} {cs : List Value} (h : Rd w k A n c cs) (hb : Below w.heap.size w w1) : Rd w1 k A n c cs :=
  ⟨h.len, h.cap, h.max, fun h0 => by
    obtain ⟨b, o, hA, hlt, hc⟩ := h.at0 h0
    exact ⟨b, o, hA, Nat.lt_of_lt_of_le hlt hb.size, fun j hj => (hb.cell (p := ⟨b, o + j, none⟩) hlt).trans (hc j hj)⟩⟩
theorem Rd.nil (w : World) (k : Nat) : Rd w k none 0 0 [] := ⟨by simp, Nat.le_refl _, by omega, fun h => by simp at h⟩
theorem Rd.of_own {w : World} {base k : Nat} {e : TypeId} {A : Option Addr} {n c : Nat} {cs : List Value} (h : w.ownsRow base e k (.slice A n c) n cs) : Rd w k A n c cs := by
  rcases h.2 with ⟨h', hn⟩ | ⟨g, cap, cur, h', hb, hg, hnc, hcm, hcs, htake⟩
  · simp at h'
    obtain ⟨rfl, _, rfl⟩ := h'
    subst hn
    have : cs = [] := List.eq_nil_of_length_eq_zero (by simpa using h.1)
    subst this
    exact Rd.nil _ _
  · simp only [Value.slice.injEq, true_and] at h'
    obtain ⟨rfl, rfl⟩ := h'
    refine ⟨h.1, hnc, by unfold maxLen at hcm; omega, fun _ => ⟨g, 0, rfl, (Array.getElem?_eq_some_iff.1 hg).1, fun j hj => ?_⟩⟩
    rw [Nat.zero_add]
    exact h.cellAt j (by rw [← h.1]; exact hj)

/-- A list of int64 as cells. -/
def ints (xs : List Int) : List Value := xs.map (Value.int .i64)
theorem ints_len (xs : List Int) : (ints xs).length = xs.length := by simp [ints]
theorem ints_nil : ints [] = [] := rfl
theorem ints_append (xs ys : List Int) : ints (xs ++ ys) = ints xs ++ ints ys := by simp [ints]
theorem ints_get (xs : List Int) (j : Nat) : (ints xs)[j]? = (xs[j]?).map (Value.int .i64) := by simp [ints]
theorem ints_one (xs : List Int) : ∀ u ∈ ints xs, u.oneCell' = true := by
  intro u hu; simp [ints] at hu; obtain ⟨a, _, rfl⟩ := hu; rfl

/-- The k-th number of a slice that reads as numbers. -/
theorem Rd.int {w : World} {A : Option Addr} {n c : Nat} {xs : List Int} (h : Rd w 1 A n c (ints xs)) {k : Nat} (hk : k < n) :
    ∃ b o x, A = some ⟨b, o, none⟩ ∧ b < w.heap.size ∧ xs[k]? = some x ∧ w.cell? ⟨b, o + k, none⟩ = some (.int .i64 x) := by
  have hl : xs.length = n := by have := h.len; rw [ints_len] at this; omega
  obtain ⟨b, o, hA, hlt, hc⟩ := h.at0 (by rw [ints_len]; omega)
  have hx : xs[k]? = some (xs[k]'(by omega)) := List.getElem?_eq_getElem _
  refine ⟨b, o, _, hA, hlt, hx, ?_⟩
  rw [hc k (by rw [ints_len]; omega), ints_get, hx]; rfl
theorem Rd.ilen {w : World} {A : Option Addr} {n c : Nat} {xs : List Int} (h : Rd w 1 A n c (ints xs)) : xs.length = n := by
  have := h.len; rw [ints_len] at this; omega

/-- Of a slice that the call owns and that has elements: where it lies. -/
theorem own_at {w : World} {base k : Nat} {e : TypeId} {A : Option Addr} {n c : Nat} {cs : List Value} (h : w.ownsRow base e k (.slice A n c) n cs) (hn : 0 < n) :
    ∃ g, A = some ⟨g, 0, none⟩ ∧ base ≤ g ∧ g < w.heap.size := by
  rcases h.2 with ⟨_, h0⟩ | ⟨g, cap, cur, h', hb, hg, _⟩
  · omega
  · simp only [Value.slice.injEq, true_and] at h'
    exact ⟨g, h'.1, hb, (Array.getElem?_eq_some_iff.1 hg).1⟩
theorem own_form {w : World} {base k n : Nat} {e : TypeId} {v : Value} {cs : List Value} (h : w.ownsRow base e k v n cs) (hn : 0 < n) :
    ∃ g c, v = .slice (some ⟨g, 0, none⟩) n c ∧ base ≤ g ∧ g < w.heap.size := by
  rcases h.2 with ⟨_, h0⟩ | ⟨g, cap, cur, h', hb, hg, _⟩
  · omega
  · exact ⟨g, cap, h', hb, (Array.getElem?_eq_some_iff.1 hg).1⟩
theorem own_block {w : World} {base k : Nat} {e : TypeId} {A : Option Addr} {n c : Nat} {cs : List Value} (h : w.ownsRow base e k (.slice A n c) n cs) :
    ∀ g, (Value.slice A n c).ownBlock = some g → base ≤ g ∧ g < w.heap.size := h.lt
/-- What is owned stays owned while nothing below the heap's size turns. -/
theorem own_below {w w1 : World} {base k : Nat} {e : TypeId} {A : Option Addr} {n c : Nat} {cs : List Value} (h : w.ownsRow base e k (.slice A n c) n cs) (hb : Below w.heap.size w w1) :
    w1.ownsRow base e k (.slice A n c) n cs :=
  h.kept (row := none) ⟨hb.os, hb.tape, hb.output, hb.size, fun j hj _ => hb.block j hj⟩ (by cases (Value.slice A n c).ownBlock <;> simp)
theorem own_base {w : World} {base base' k : Nat} {e : TypeId} {A : Option Addr} {n c : Nat} {cs : List Value} (h : w.ownsRow base e k (.slice A n c) n cs) (hb : base' ≤ base) :
    w.ownsRow base' e k (.slice A n c) n cs := by
  refine ⟨h.1, ?_⟩
  rcases h.2 with h2 | ⟨g, cap, cur, hv, hg, r⟩
  · exact .inl h2
  · exact .inr ⟨g, cap, cur, hv, by omega, r⟩

theorem ret_b {a b : Bool} (h : a = b) : Ending.returned (.bool a) = .returned (.bool b) := by rw [h]
theorem ret_i {a b : Int} (h : a = b) : Ending.returned (.int .i64 a) = .returned (.int .i64 b) := by rw [h]
theorem ret_ii {a b c d : Int} (h : a = b) (h' : c = d) : Ending.returned (.tuple #[.int .i64 a, .int .i64 c]) = .returned (.tuple #[.int .i64 b, .int .i64 d]) := by rw [h, h']

theorem bcell {W w1 : World} (hb : Below W.heap.size W w1) : (∀ b o, b < W.heap.size → w1.cell? ⟨b, o, none⟩ = W.cell? ⟨b, o, none⟩) ∧ (∀ b o, b < W.heap.size → w1.frozen? ⟨b, o, none⟩ = W.frozen? ⟨b, o, none⟩) :=
  ⟨fun b o h => hb.cell (p := ⟨b, o, none⟩) h, fun b o h => hb.frozen (p := ⟨b, o, none⟩) h⟩
end Go.Proofs.YthdbaflihgkomaaDoor
