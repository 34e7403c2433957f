/- Words for slices that the call owns: reading and storing one number, other blocks; make of n zeros. (For the seats that hold no blocks.) -/
import Derived.Test.YtiibhejjeijdaaaDoorJo
import Derived.Test.YtiibhejjeijdaaaDoorIns
import Derived.Test.YtiibhejjeijdaaaDoorOwn
import Derived.BigRegion
import Derived.StillTailTactics
namespace Go.Proofs.YtiibhejjeijdaaaDoor
open Go.RowKit

theorem ints_set (l : List Int) (i : Nat) (v : Int) : (ints l).set i (.int .i64 v) = ints (l.set i v) := by simp [ints, List.map_set]
theorem ints_snoc (l : List Int) (x : Int) : ints l ++ [.int .i64 x] = ints (l ++ [x]) := by simp [ints]
theorem own_int {w : World} {base : Nat} {e : TypeId} {g n c : Nat} {l : List Int} (h : w.ownsRow base e 1 (.slice (some ⟨g, 0, none⟩) n c) n (ints l)) {i : Nat} (hi : i < n) (hl : l.length = n) :
    w.cell? ⟨g, i, none⟩ = some (.int .i64 (l.getD i 0)) := by
  rw [h.cellAt i (by omega), ints_get, getD_of (by omega)]; rfl
theorem own_iset {w : World} {base : Nat} {e : TypeId} {g n c : Nat} {l : List Int} (h : w.ownsRow base e 1 (.slice (some ⟨g, 0, none⟩) n c) n (ints l)) (i : Nat) (v : Int) :
    (w.setCell ⟨g, i, none⟩ (.int .i64 v)).ownsRow base e 1 (.slice (some ⟨g, 0, none⟩) n c) n (ints (l.set i v)) ∧ w.grownBy (w.setCell ⟨g, i, none⟩ (.int .i64 v)) (some g) := by
  have S := h.stored i (.int .i64 v)
  rw [ints_set] at S
  exact S
theorem own_drew {w : World} {base k : Nat} {e : TypeId} {A : Option Addr} {n c : Nat} {cs : List Value} (h : w.ownsRow base e k (.slice A n c) n cs) : w.drew.ownsRow base e k (.slice A n c) n cs := own_below h (Below.refl _ _).drew
theorem own_drewN {w : World} {base k : Nat} {e : TypeId} {A : Option Addr} {n c : Nat} {cs : List Value} (h : w.ownsRow base e k (.slice A n c) n cs) (q : Nat) : (w.drewN q).ownsRow base e k (.slice A n c) n cs :=
  own_below h (below_drewN (Below.refl _ _) q)
theorem own_other {w w' : World} {base k : Nat} {e : TypeId} {g g' n c : Nat} {cs : List Value} (h : w.ownsRow base e k (.slice (some ⟨g, 0, none⟩) n c) n cs) (hg : w.grownBy w' (some g')) (hne : g ≠ g') :
    w'.ownsRow base e k (.slice (some ⟨g, 0, none⟩) n c) n cs := h.kept hg (.inr (by simpa [Value.ownBlock] using hne))
theorem cell_other {w w' : World} {b o g : Nat} {v : Value} (h : w.cell? ⟨b, o, none⟩ = some v) (hg : w.grownBy w' (some g)) (hne : b ≠ g) : w'.cell? ⟨b, o, none⟩ = some v :=
  (World.cell?_of_block (hg.block b (World.block_lt_of_cell? _ _ h) (by simpa using hne))).trans h
theorem cell_bel {w w' : World} {b o : Nat} {v : Value} (h : w.cell? ⟨b, o, none⟩ = some v) (hb : Below w.heap.size w w') : w'.cell? ⟨b, o, none⟩ = some v := (hb.cell (p := ⟨b, o, none⟩) (World.block_lt_of_cell? _ _ h)).trans h
theorem grown_drew {w w' : World} {row : Option Nat} (h : w.grownBy w' row) : w.grownBy w'.drew row := ⟨h.os, h.tape, h.output, h.size, h.block⟩
theorem grown_drewN {w w' : World} {row : Option Nat} (h : w.grownBy w' row) (q : Nat) : w.grownBy (w'.drewN q) row := ⟨h.os, h.tape, h.output, h.size, h.block⟩
theorem own_shape {w : World} {base k n : Nat} {e : TypeId} {v : Value} {cs : List Value} (h : w.ownsRow base e k v n cs) : ∃ A c, v = .slice A n c := by
  rcases h.2 with ⟨h', h0⟩ | ⟨g, cap, cur, h', _⟩
  · subst h0; exact ⟨none, 0, h'⟩
  · exact ⟨_, _, h'⟩
theorem Rd.other {w w' : World} {b o k n c g : Nat} {cs : List Value} (h : Rd w k (some ⟨b, o, none⟩) n c cs) (hg : w.grownBy w' (some g)) (hne : 0 < cs.length → b ≠ g) : Rd w' k (some ⟨b, o, none⟩) n c cs :=
  ⟨h.len, h.cap, h.max, fun h0 => by
    obtain ⟨b', o', hA, hlt, hc⟩ := h.at0 h0
    injection hA with hA
    injection hA with e1 e2
    subst e1
    subst e2
    exact ⟨_, _, rfl, Nat.lt_of_lt_of_le hlt hg.size, fun j hj => (World.cell?_of_block (hg.block b hlt (by simpa using hne h0))).trans (hc j hj)⟩⟩

theorem info_i64r : (Tryd.prog.info? 2).map (fun i => (i.zero, i.size, i.bytes)) = some (some (.int .i64 0), 1, 8) := by kernel_rfl
/-- n zeros, as cells of a block. -/
def cn (n : Nat) : Array Value := (ints (List.replicate n 0)).toArray
theorem mkn (n : Nat) (hn : n ≤ 1048576) (W : World) : (Instr.makeSlice 36 (.int .i64 n) (.int .i64 n)).run Tryd.prog W = .ok (.slice (some ⟨W.heap.size, 0, none⟩) n n) (W.alloc (.cells (cn n) 2)) := by
  obtain ⟨i0, hi, hz0, hz1, hz2⟩ := info_parts info_i64r
  have h := run_make (P := Tryd.prog) W 36 2 i0 (.int .i64 0) Tryd.underlying36 hi hz0 .i64 .i64 n n (by omega) (by omega) (by rw [hz2]; omega) (by omega)
  rw [hz1, Int.toNat_natCast] at h
  have e : madeCells (Value.int .i64 0).cells (n * 1) = cn n := by
    apply Array.toList_inj.1
    simp [cn, ints, toList_madeCells_one, Value.cells]
  rw [e] at h
  exact h
theorem ownn (n : Nat) (hn : n ≤ 1048576) (W : World) (base : Nat) (hb : base ≤ W.heap.size) : (W.alloc (.cells (cn n) 2)).ownsRow base 2 1 (.slice (some ⟨W.heap.size, 0, none⟩) n n) n (ints (List.replicate n 0)) := by
  have h := World.ownsRow_lit (e := 2) (size := 1) W (cn n) n hb (by unfold maxLen; omega) (by simp [cn, ints])
  exact h
/-- Two makes of n zeros, one behind the other. -/
theorem own2 (n : Nat) (hn : n ≤ 1048576) (w : World) (base : Nat) (hb : base ≤ w.heap.size) : ((w.alloc (.cells (cn n) 2)).alloc (.cells (cn n) 2)).ownsRow base 2 1 (.slice (some ⟨w.heap.size, 0, none⟩) n n) n (ints (List.replicate n 0)) ∧
    ((w.alloc (.cells (cn n) 2)).alloc (.cells (cn n) 2)).ownsRow base 2 1 (.slice (some ⟨w.heap.size + 1, 0, none⟩) n n) n (ints (List.replicate n 0)) ∧
    Below w.heap.size w ((w.alloc (.cells (cn n) 2)).alloc (.cells (cn n) 2)) := by
  have h1 := ownn n hn w base hb
  have h2 := ownn n hn (w.alloc (.cells (cn n) 2)) base (by simp; omega)
  have e : (w.alloc (.cells (cn n) 2)).heap.size = w.heap.size + 1 := by simp
  rw [e] at h2
  exact ⟨own_below h1 ((Below.refl _ _).alloc (Nat.le_refl _) _), h2, ((Below.refl w.heap.size w).alloc (Nat.le_refl _) _).alloc (by simp) _⟩
/-- What is handed back: a slice of its own that reads as xs, and a code. -/
def IntPost (w : World) (xs : List Int) (z : Int) (e : Ending) (w' : World) : Prop :=
  ∃ A n c, e = .returned (.tuple #[.slice A n c, .int .i64 z]) ∧ w'.ownsRow w.heap.size 2 1 (.slice A n c) n (ints xs) ∧ Below w.heap.size w w'
theorem intPost_nil {w w' : World} {z : Int} (hb : Below w.heap.size w w') : IntPost w [] z (.returned (.tuple #[.slice none 0 0, .int .i64 z])) w' :=
  ⟨none, 0, 0, rfl, World.ownsRow_nil _ _ _ _, hb⟩
end Go.Proofs.YtiibhejjeijdaaaDoor
