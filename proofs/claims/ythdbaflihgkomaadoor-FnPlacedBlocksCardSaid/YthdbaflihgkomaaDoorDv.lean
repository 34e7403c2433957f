/- Drawing: general words. What is laid newly may turn: seen from the world before, only the source's block has. one, among. -/
import Derived.Test.YthdbaflihgkomaaDoorLg
import Derived.Test.YthdbaflihgkomaaDoorMd
namespace Go.Proofs.YthdbaflihgkomaaDoor
open Go.RowKit

/-- What was laid newly may turn: seen from the world before, only block g has. -/
theorem grown_new {w w1 w2 : World} {g : Nat} {row : Option Nat} (h : w.grownBy w1 (some g)) (h2 : w1.grownBy w2 row) (hr : ∀ b, row = some b → w.heap.size ≤ b) : w.grownBy w2 (some g) :=
  ⟨h2.os.trans h.os, h2.tape.trans h.tape, h2.output.trans h.output, Nat.le_trans h.size h2.size, fun k hk hne => (h2.block k (Nat.lt_of_lt_of_le hk h.size) (fun e => by have := hr k e.symm; omega)).trans (h.block k hk hne)⟩
theorem grown_alloc {w w1 : World} {g : Nat} (h : w.grownBy w1 (some g)) (o : Obj) : w.grownBy (w1.alloc o) (some g) :=
  grown_new h (row := none) ⟨rfl, rfl, rfl, by simp, fun k hk _ => Below.heap_alloc w1 o k hk⟩ (fun b e => by cases e)
theorem grown_bel {w w1 w2 : World} {g : Nat} (h : w.grownBy w1 (some g)) (hb : Below w1.heap.size w1 w2) : w.grownBy w2 (some g) :=
  grown_new h (row := none) ⟨hb.os, hb.tape, hb.output, hb.size, fun k hk _ => hb.block k hk⟩ (fun b e => by cases e)
theorem grown_low {w0 w w1 : World} {g : Nat} (h : w.grownBy w1 (some g)) (h0 : w0.grownBy w (some g)) : w0.grownBy w1 (some g) := World.grownBy.trans h0 h
theorem grown_of_alloc {w w1 : World} {o : Obj} {g : Nat} (h : (w.alloc o).grownBy w1 (some g)) : w.grownBy w1 (some g) := grown_low h (grown_alloc (World.grownBy.refl w (some g)) o)
theorem below_of_grown {w w1 w2 : World} {g : Nat} (hb : Below w.heap.size w w1) (hg : w1.grownBy w2 (some g)) (hge : w.heap.size ≤ g) : Below w.heap.size w w2 := hb.grown hg hb.size (fun y hy => by injection hy with hy; omega)
/-- Seen from w, only block g and what is new has turned; w2 came of w1 by blocks that are new beside w. -/
theorem grown_own {w w1 w2 : World} {g b : Nat} (h : w.grownBy w1 (some g)) (h2 : w1.grownBy w2 (some b)) (hb : w.heap.size ≤ b) : w.grownBy w2 (some g) := grown_new h h2 (fun x e => by injection e with e; omega)
/-- A choice yes or no. -/
def OnePost (w : World) (g : Nat) (A : Option Addr) (n c N : Nat) (e : Ending) (w' : World) : Prop := ∃ b : Bool, e = .returned (.bool b) ∧ Src w' g A n c N ∧ w.grownBy w' (some g)
set_option maxHeartbeats 400000 in
theorem one_any (g : Nat) (A : Option Addr) (n c N : Nat) (k : Int) (w : World) (h : Src w g A n c N) (hN : N ≤ 900000000) (hn : n ≤ 9223372036854775807) :
    Calls Tryd.prog 50 #[.pointer (some ⟨g, 0, none⟩), .int .i64 k] w (OnePost w g A n c (N + 2)) := by
  have H := Lib.hid h
  clear h
  go_enter Tryd.func50, Tryd.ntmps50
  go_wp2_with fail
  refine (pick_any g A n c N k _ H.out hN hn).mono ?_
  rintro e w1 ⟨r, _, rfl, hs, hg⟩
  go_wp2
  go_ret
  exact ⟨_, rfl, hs, hg⟩
def AmongPost (xs : List Int) (w : World) (g : Nat) (A : Option Addr) (n c N : Nat) (e : Ending) (w' : World) : Prop := ∃ x, x ∈ xs ∧ e = .returned (.int .i64 x) ∧ Src w' g A n c N ∧ w.grownBy w' (some g)
set_option maxHeartbeats 400000 in
theorem among_any (g : Nat) (A : Option Addr) (n c N : Nat) (b o m d : Nat) (xs : List Int) (w : World) (h : Src w g A n c N) (hN : N ≤ 900000000) (hn : n ≤ 9223372036854775807) (hx : Rd w 1 (some ⟨b, o, none⟩) m d (ints xs)) (hm : 0 < m) (hb : b ≠ g) :
    Calls Tryd.prog 63 #[.pointer (some ⟨g, 0, none⟩), .slice (some ⟨b, o, none⟩) m d] w (AmongPost xs w g A n c (N + 2)) := by
  have H := Lib.hid h
  have HX := Lib.hid hx
  have h1 := hx.cap
  have h2 := hx.max
  clear h hx
  go_enter Tryd.func63, Tryd.ntmps63
  go_wp2_with fail
  refine (pick_any g A n c N m _ H.out hN hn).mono ?_
  rintro e w1 ⟨r, ⟨hr0, hr1, hr2⟩, rfl, hs, hg⟩
  obtain ⟨r, rfl⟩ := Int.eq_ofNat_of_zero_le hr0
  have hrm : r < m := by
    by_cases e : m = 1
    · have := hr2 (by omega); omega
    · have := hr1 (by omega); omega
  have hri : (r : Int) < (m : Int) := by omega
  obtain ⟨b', o', x, hA, _, hx, hc⟩ := (HX.out.other hg (fun _ => hb)).int hrm
  injection hA with hA
  injection hA with e1 e2
  subst e1
  subst e2
  have HS := Lib.hid hs
  have HG := Lib.hid hg
  have HM := Lib.hid (List.mem_of_getElem? hx)
  clear hs hg hx hr1 hr2
  go_wp2
  go_ret
  exact ⟨x, HM.out, rfl, HS.out, HG.out⟩
end Go.Proofs.YthdbaflihgkomaaDoor
