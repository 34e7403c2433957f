/- Drawn operations: one, among, text, l13Draw of the reference's source. -/
import Derived.Test.YtgghjieeckkpbaaDoorGo
import Derived.Test.YtgghjieeckkpbaaDoorOpA
import Derived.Test.YtgghjieeckkpbaaDoorTx
import Derived.Deep.CutRange
import Derived.Deep.RegionHeld3
import Derived.Deep.AppendLies
namespace Go.Proofs.YtgghjieeckkpbaaDoor
open Go.RowKit Go.Shelf

/-- A choice yes or no. -/
def OnePost (w : World) (g : Nat) (A : Option Addr) (n c N : Nat) (e : Ending) (w' : World) : Prop := ∃ b : Bool, e = .returned (.bool b) ∧ Src w' g A n c N ∧ w.grownBy w' (some g)
set_option maxHeartbeats 400000 in
theorem one_any (g : Nat) (A : Option Addr) (n c N : Nat) (k : Int) (w : World) (h : Src w g A n c N) (hN : N ≤ 900000000) (hn : n ≤ 9223372036854775807) :
    Calls Tryd.prog 57 #[.pointer (some ⟨g, 0, none⟩), .int .i64 k] w (OnePost w g A n c (N + 2)) := by
  have H := Lib.hid h
  clear h
  go_enter Tryd.func57, Tryd.ntmps57
  go_wp2_with fail
  refine (pick_any g A n c N k _ H.out hN hn).mono ?_
  rintro e w1 ⟨r, _, rfl, hs, hg⟩
  go_wp2
  go_ret
  exact ⟨_, rfl, hs, hg⟩
def AmongPost (xs : List Int) (w : World) (g : Nat) (A : Option Addr) (n c N : Nat) (e : Ending) (w' : World) : Prop := ∃ x, x ∈ xs ∧ e = .returned (.int .i64 x) ∧ Src w' g A n c N ∧ w.grownBy w' (some g)
set_option maxHeartbeats 400000 in
theorem among_any (g : Nat) (A : Option Addr) (n c N : Nat) (b o m d : Nat) (xs : List Int) (w : World) (h : Src w g A n c N) (hN : N ≤ 900000000) (hn : n ≤ 9223372036854775807) (hx : Rd w 1 (some ⟨b, o, none⟩) m d (ints xs)) (hm : 0 < m) (hb : b ≠ g) :
    Calls Tryd.prog 47 #[.pointer (some ⟨g, 0, none⟩), .slice (some ⟨b, o, none⟩) m d] w (AmongPost xs w g A n c (N + 2)) := by
  have H := Lib.hid h
  have HX := Lib.hid hx
  have h1 := hx.cap
  have h2 := hx.max
  clear h hx
  go_enter Tryd.func47, Tryd.ntmps47
  go_wp2_with fail
  refine (pick_any g A n c N m _ H.out hN hn).mono ?_
  rintro e w1 ⟨r, ⟨hr0, hr1, hr2⟩, rfl, hs, hg⟩
  obtain ⟨r, rfl⟩ := Int.eq_ofNat_of_zero_le hr0
  have hrm : r < m := by
    by_cases e : m = 1
    · have := hr2 (by omega); omega
    · have := hr1 (by omega); omega
  have hri : (r : Int) < (m : Int) := by omega
  obtain ⟨b', o', x, hA, _, hx, hc⟩ := (HX.out.other hg (fun _ => hb)).int hrm
  injection hA with hA
  injection hA with e1 e2
  subst e1
  subst e2
  have HS := Lib.hid hs
  have HG := Lib.hid hg
  have HM := Lib.hid (List.mem_of_getElem? hx)
  clear hs hg hx hr1 hr2
  go_wp2
  go_ret
  exact ⟨x, HM.out, rfl, HS.out, HG.out⟩
def TextPost (ss : List ByteArray) (w : World) (g : Nat) (A : Option Addr) (n c N : Nat) (e : Ending) (w' : World) : Prop := ∃ s, s ∈ ss ∧ e = .returned (.string s) ∧ Src w' g A n c N ∧ w.grownBy w' (some g)
set_option maxHeartbeats 400000 in
theorem text_any (g : Nat) (A : Option Addr) (n c N : Nat) (b o m d : Nat) (ss : List ByteArray) (w : World) (h : Src w g A n c N) (hN : N ≤ 900000000) (hn : n ≤ 9223372036854775807) (hx : Rd w 1 (some ⟨b, o, none⟩) m d (txs ss)) (hm : 0 < m) (hb : b ≠ g) :
    Calls Tryd.prog 77 #[.pointer (some ⟨g, 0, none⟩), .slice (some ⟨b, o, none⟩) m d] w (TextPost ss w g A n c (N + 2)) := by
  have H := Lib.hid h
  have HX := Lib.hid hx
  have h1 := hx.cap
  have h2 := hx.max
  clear h hx
  go_enter Tryd.func77, Tryd.ntmps77
  go_wp2_with fail
  refine (pick_any g A n c N m _ H.out hN hn).mono ?_
  rintro e w1 ⟨r, ⟨hr0, hr1, hr2⟩, rfl, hs, hg⟩
  obtain ⟨r, rfl⟩ := Int.eq_ofNat_of_zero_le hr0
  have hrm : r < m := by
    by_cases e : m = 1
    · have := hr2 (by omega); omega
    · have := hr1 (by omega); omega
  have hri : (r : Int) < (m : Int) := by omega
  obtain ⟨b', o', x, hA, _, hx, hc⟩ := (HX.out.other hg (fun _ => hb)).txt hrm
  injection hA with hA
  injection hA with e1 e2
  subst e1
  subst e2
  have HS := Lib.hid hs
  have HG := Lib.hid hg
  have HM := Lib.hid (List.mem_of_getElem? hx)
  clear hs hg hx hr1 hr2
  go_wp2
  go_ret
  exact ⟨x, HM.out, rfl, HS.out, HG.out⟩

theorem cell_alc {w : World} {b o : Nat} {v : Value} {x : Obj} (h : w.cell? ⟨b, o, none⟩ = some v) : (w.alloc x).cell? ⟨b, o, none⟩ = some v := cell_bel h ((Below.refl _ _).alloc (Nat.le_refl _) _)
theorem cell_drw {w : World} {b o : Nat} {v : Value} (h : w.cell? ⟨b, o, none⟩ = some v) : w.drew.cell? ⟨b, o, none⟩ = some v := h
theorem cell_sets {w : World} {b o x i j l : Nat} {v u1 u2 u3 : Value} (h : w.cell? ⟨b, o, none⟩ = some v) (hne : b ≠ x) : (((w.setCell ⟨x, i, none⟩ u1).setCell ⟨x, j, none⟩ u2).setCell ⟨x, l, none⟩ u3).cell? ⟨b, o, none⟩ = some v := by
  rw [World.cell?_setCell_other _ _ _ _ (by intro e; injection e with e1; exact hne e1.symm), World.cell?_setCell_other _ _ _ _ (by intro e; injection e with e1; exact hne e1.symm), World.cell?_setCell_other _ _ _ _ (by intro e; injection e with e1; exact hne e1.symm)]
  exact h
theorem Box.of_block {w w1 : World} {b : Nat} {cs : Array Value} (h : Box w b cs) (hb : w1.heap[b]? = w.heap[b]?) (hs : w.heap.size ≤ w1.heap.size) : Box w1 b cs :=
  ⟨fun i => (World.cell?_of_block hb).trans (h.cell i), fun i => (World.frozen?_of_block hb).trans (h.froz i), Nat.lt_of_lt_of_le h.lt hs⟩
theorem Box.drewU {w : World} {b : Nat} {cs : Array Value} (h : Box w b cs) : Box w.drew b cs := ⟨h.cell, h.froz, h.lt⟩
theorem Box.onlyU {w w1 : World} {b g : Nat} {cs : Array Value} (h : Box w b cs) (hg : w.grownBy w1 (some g)) (hne : b ≠ g) : Box w1 b cs := by
  have hb := hg.block b h.lt (by simpa using hne)
  exact ⟨fun i => (World.cell?_of_block hb).trans (h.cell i), fun i => (World.frozen?_of_block hb).trans (h.froz i), Nat.lt_of_lt_of_le h.lt hg.size⟩
def X0 : Array Value := #[.string ⟨#[]⟩, .int .i64 0, .slice none 0 0]
theorem hx_last {W w5 : World} {g : Nat} (h : (W.alloc (.cells #[.string ⟨#[]⟩, .int .i64 0, .slice none 0 0] 53)).drew.grownBy w5 (some g)) (hg : g < W.heap.size) : Box w5 W.heap.size X0 :=
  Box.onlyU (Box.drewU (Box.new W X0 53)) h (by omega)
theorem hx_prev {W w5 : World} {g : Nat} (h : ((W.alloc (.cells #[.string ⟨#[]⟩, .int .i64 0, .slice none 0 0] 53)).alloc (.cells #[] 2)).drew.grownBy w5 (some g)) (hg : g < W.heap.size) : Box w5 W.heap.size X0 :=
  Box.onlyU (Box.drewU ((Box.new W X0 53).alloc _)) h (by omega)
theorem x0_cells {w5 : World} {b : Nat} (h : Box w5 b X0) : w5.cell? ⟨b, 0, none⟩ = some (.string ⟨#[]⟩) ∧ w5.cell? ⟨b, 1, none⟩ = some (.int .i64 0) ∧ w5.cell? ⟨b, 2, none⟩ = some (.slice none 0 0) ∧ (∀ i, w5.frozen? ⟨b, i, none⟩ = false) ∧ b < w5.heap.size :=
  ⟨h.cell 0, h.cell 1, h.cell 2, h.froz, h.lt⟩
/-- What was laid newly may turn: seen from the world before, only block g has. -/
theorem grown_new {w w1 w2 : World} {g : Nat} {row : Option Nat} (h : w.grownBy w1 (some g)) (h2 : w1.grownBy w2 row) (hr : ∀ b, row = some b → w.heap.size ≤ b) : w.grownBy w2 (some g) :=
  ⟨h2.os.trans h.os, h2.tape.trans h.tape, h2.output.trans h.output, Nat.le_trans h.size h2.size, fun k hk hne => (h2.block k (Nat.lt_of_lt_of_le hk h.size) (fun e => by have := hr k e.symm; omega)).trans (h.block k hk hne)⟩
theorem grown_alloc {w w1 : World} {g : Nat} (h : w.grownBy w1 (some g)) (o : Obj) : w.grownBy (w1.alloc o) (some g) :=
  grown_new h (row := none) ⟨rfl, rfl, rfl, by simp, fun k hk _ => Below.heap_alloc w1 o k hk⟩ (fun b e => by cases e)
theorem grown_bel {w w1 w2 : World} {g : Nat} (h : w.grownBy w1 (some g)) (hb : Below w1.heap.size w1 w2) : w.grownBy w2 (some g) :=
  grown_new h (row := none) ⟨hb.os, hb.tape, hb.output, hb.size, fun k hk _ => hb.block k hk⟩ (fun b e => by cases e)
theorem grown_low {w0 w w1 : World} {g : Nat} (h : w.grownBy w1 (some g)) (h0 : w0.grownBy w (some g)) : w0.grownBy w1 (some g) := World.grownBy.trans h0 h
/-- A struct of its own with an empty slice of its own, the source's block g turned beside. -/
structure Cut7 (wr wx : World) (g : Nat) (A : Option Addr) (n c M : Nat) (s : ByteArray) (mn : Int) (bx gn : Nat) : Prop where
  box : Box wx bx #[.string s, .int .i64 mn, .slice (some ⟨gn, 0, none⟩) 0 0]
  ge : wr.heap.size ≤ bx
  ne : bx ≠ gn
  own : wx.ownsRow wr.heap.size 2 1 (.slice (some ⟨gn, 0, none⟩) 0 0) 0 (ints [])
  src : Src wx g A n c M
  grown : wr.grownBy wx (some g)
theorem own_e (wr w5 : World) (hs : wr.heap.size ≤ w5.heap.size) : (w5.alloc (.cells #[] 2)).ownsRow wr.heap.size 2 1 (.slice (some ⟨w5.heap.size, 0, none⟩) 0 0) 0 (ints []) := World.ownsRow_made w5 #[] 0 hs (by unfold maxLen; omega) rfl
theorem grown_of_drew {w w1 : World} {row : Option Nat} (h : w.drew.grownBy w1 row) : w.grownBy w1 row := ⟨h.os, h.tape, h.output, h.size, h.block⟩
theorem grown_of_alloc {w w1 : World} {o : Obj} {g : Nat} (h : (w.alloc o).grownBy w1 (some g)) : w.grownBy w1 (some g) := grown_low h (grown_alloc (World.grownBy.refl w (some g)) o)
section
variable {wr w5 : World} {g : Nat} {A : Option Addr} {n c M : Nat} {s : ByteArray} {mn : Int}
theorem c7a (hs : Src w5 g A n c M) (hg : wr.drew.grownBy w5 (some g)) : Cut7 wr ((w5.alloc (.cells #[] 2)).alloc (.cells #[.string s, .int .i64 mn, .slice (some ⟨w5.heap.size, 0, none⟩) 0 0] 53)) g A n c M s mn (w5.heap.size + 1) w5.heap.size := by
  have hg := grown_of_drew hg
  have hb := Box.new (w5.alloc (.cells #[] 2)) #[.string s, .int .i64 mn, .slice (some ⟨w5.heap.size, 0, none⟩) 0 0] 53
  rw [World.size_alloc] at hb
  have hz := hg.size
  exact ⟨hb, by omega, by omega, own_below (own_e wr w5 hz) ((Below.refl _ _).alloc (Nat.le_refl _) _), (hs.alloc _).alloc _, grown_alloc (grown_alloc hg _) _⟩
theorem c7b (hs : Src w5 g A n c M) (hg : wr.drew.grownBy w5 (some g)) : Cut7 wr ((w5.alloc (.cells #[.string s, .int .i64 mn, .slice (some ⟨w5.heap.size + 1, 0, none⟩) 0 0] 53)).alloc (.cells #[] 2)) g A n c M s mn w5.heap.size (w5.heap.size + 1) := by
  have hg := grown_of_drew hg
  have hb := Box.new w5 #[.string s, .int .i64 mn, .slice (some ⟨w5.heap.size + 1, 0, none⟩) 0 0] 53
  have hz := hg.size
  have ho := own_e wr (w5.alloc (.cells #[.string s, .int .i64 mn, .slice (some ⟨w5.heap.size + 1, 0, none⟩) 0 0] 53)) (by rw [World.size_alloc]; omega)
  rw [World.size_alloc] at ho
  exact ⟨hb.alloc _, by omega, by omega, ho, (hs.alloc _).alloc _, grown_alloc (grown_alloc hg _) _⟩
theorem c7c (hs : Src w5 g A n c M) (hg : (wr.alloc (.cells #[] 2)).drew.grownBy w5 (some g)) (hgr : g < wr.heap.size) : Cut7 wr (w5.alloc (.cells #[.string s, .int .i64 mn, .slice (some ⟨wr.heap.size, 0, none⟩) 0 0] 53)) g A n c M s mn w5.heap.size wr.heap.size := by
  have hg := grown_of_drew hg
  have hz := hg.size
  rw [World.size_alloc] at hz
  have ho := own_other (own_e wr wr (Nat.le_refl _)) hg (by omega)
  exact ⟨Box.new w5 _ _, by omega, by omega, own_below ho ((Below.refl _ _).alloc (Nat.le_refl _) _), hs.alloc _, grown_alloc (grown_of_alloc hg) _⟩
theorem box3 {w : World} {b gn : Nat} (h : Box w b X0) : Box (((w.setCell ⟨b, 0, none⟩ (.string s)).setCell ⟨b, 1, none⟩ (.int .i64 mn)).setCell ⟨b, 2, none⟩ (.slice (some ⟨gn, 0, none⟩) 0 0)) b #[.string s, .int .i64 mn, .slice (some ⟨gn, 0, none⟩) 0 0] :=
  ((h.setO 0 (.string s) (by decide)).setO 1 (.int .i64 mn) (by simp [X0])).setO 2 (.slice (some ⟨gn, 0, none⟩) 0 0) (by simp [X0])
theorem own3 {w : World} {base b gn : Nat} {u1 u2 u3 : Value} (h : w.ownsRow base 2 1 (.slice (some ⟨gn, 0, none⟩) 0 0) 0 (ints [])) (hne : gn ≠ b) :
    (((w.setCell ⟨b, 0, none⟩ u1).setCell ⟨b, 1, none⟩ u2).setCell ⟨b, 2, none⟩ u3).ownsRow base 2 1 (.slice (some ⟨gn, 0, none⟩) 0 0) 0 (ints []) := own_setO (own_setO (own_setO h hne) hne) hne
theorem grown3 {w w1 : World} {b : Nat} {u1 u2 u3 : Value} (h : w.grownBy w1 (some g)) (hb : w.heap.size ≤ b) : w.grownBy (((w1.setCell ⟨b, 0, none⟩ u1).setCell ⟨b, 1, none⟩ u2).setCell ⟨b, 2, none⟩ u3) (some g) :=
  grown_new (grown_new (grown_new h (grown_setO _ _ _ _) (fun x e => by injection e with e; omega)) (grown_setO _ _ _ _) (fun x e => by injection e with e; omega)) (grown_setO _ _ _ _) (fun x e => by injection e with e; omega)
theorem src3 {w : World} {b : Nat} {u1 u2 u3 : Value} (h : Src w g A n c M) (hb : g < b) : Src (((w.setCell ⟨b, 0, none⟩ u1).setCell ⟨b, 1, none⟩ u2).setCell ⟨b, 2, none⟩ u3) g A n c M := ((h.set hb _).set hb _).set hb _
theorem c7d (hs : Src w5 g A n c M) (hg : ((wr.alloc (.cells #[] 2)).alloc (.cells #[.string ⟨#[]⟩, .int .i64 0, .slice none 0 0] 53)).drew.grownBy w5 (some g)) (hgr : g < wr.heap.size) :
    Cut7 wr (((w5.setCell ⟨wr.heap.size + 1, 0, none⟩ (.string s)).setCell ⟨wr.heap.size + 1, 1, none⟩ (.int .i64 mn)).setCell ⟨wr.heap.size + 1, 2, none⟩ (.slice (some ⟨wr.heap.size, 0, none⟩) 0 0)) g A n c M s mn (wr.heap.size + 1) wr.heap.size := by
  have hx := hx_last hg (by rw [World.size_alloc]; omega)
  rw [World.size_alloc] at hx
  have hg := grown_of_drew hg
  have ho := own_other (own_below (own_e wr wr (Nat.le_refl _)) ((Below.refl _ _).alloc (Nat.le_refl _) _)) hg (by omega)
  exact ⟨box3 hx, by omega, by omega, own3 ho (by omega), src3 hs (by omega), grown3 (grown_of_alloc (grown_of_alloc hg)) (by omega)⟩
theorem c7e (hs : Src w5 g A n c M) (hg : (wr.alloc (.cells #[.string ⟨#[]⟩, .int .i64 0, .slice none 0 0] 53)).drew.grownBy w5 (some g)) (hgr : g < wr.heap.size) :
    Cut7 wr ((((w5.setCell ⟨wr.heap.size, 0, none⟩ (.string s)).setCell ⟨wr.heap.size, 1, none⟩ (.int .i64 mn)).setCell ⟨wr.heap.size, 2, none⟩ (.slice (some ⟨w5.heap.size, 0, none⟩) 0 0)).alloc (.cells #[] 2)) g A n c M s mn wr.heap.size w5.heap.size := by
  have hx := hx_last hg hgr
  have hg := grown_of_drew hg
  have hz := hg.size
  rw [World.size_alloc] at hz
  have ho := own_e wr (((w5.setCell ⟨wr.heap.size, 0, none⟩ (.string s)).setCell ⟨wr.heap.size, 1, none⟩ (.int .i64 mn)).setCell ⟨wr.heap.size, 2, none⟩ (.slice (some ⟨w5.heap.size, 0, none⟩) 0 0)) (by simp; omega)
  simp only [World.size_setCell] at ho
  exact ⟨(box3 hx).alloc _, by omega, by omega, ho, (src3 hs (by omega)).alloc _, grown_alloc (grown3 (grown_of_alloc hg) (by omega)) _⟩
theorem c7f (hs : Src w5 g A n c M) (hg : ((wr.alloc (.cells #[.string ⟨#[]⟩, .int .i64 0, .slice none 0 0] 53)).alloc (.cells #[] 2)).drew.grownBy w5 (some g)) (hgr : g < wr.heap.size) :
    Cut7 wr (((w5.setCell ⟨wr.heap.size, 0, none⟩ (.string s)).setCell ⟨wr.heap.size, 1, none⟩ (.int .i64 mn)).setCell ⟨wr.heap.size, 2, none⟩ (.slice (some ⟨wr.heap.size + 1, 0, none⟩) 0 0)) g A n c M s mn wr.heap.size (wr.heap.size + 1) := by
  have hx := hx_prev hg hgr
  have hg := grown_of_drew hg
  have ho := own_e wr (wr.alloc (.cells #[.string ⟨#[]⟩, .int .i64 0, .slice none 0 0] 53)) (by rw [World.size_alloc]; omega)
  rw [World.size_alloc] at ho
  have ho := own_other ho hg (by omega)
  exact ⟨box3 hx, by omega, by omega, own3 ho (by omega), src3 hs (by omega), grown3 (grown_of_alloc (grown_of_alloc hg)) (by omega)⟩
end
/-- What a call drew: at most K operations. -/
def DrawPost (K : Nat) (w : World) (g : Nat) (A : Option Addr) (n c M : Nat) (e : Ending) (w' : World) : Prop :=
  ∃ go k co L, e = .returned (.slice (some ⟨go, 0, none⟩) k co) ∧ k ≤ K ∧ GO w' w.heap.size go k co L ∧ (∀ q ∈ L, q.1.bf.length ≤ K) ∧ Src w' g A n c M ∧ w.grownBy w' (some g)
/-- The like, each operation's own slice in a block. -/
def DrawPostS (K : Nat) (w : World) (g : Nat) (A : Option Addr) (n c M : Nat) (e : Ending) (w' : World) : Prop :=
  ∃ go k co L, e = .returned (.slice (some ⟨go, 0, none⟩) k co) ∧ k ≤ K ∧ GO w' w.heap.size go k co L ∧ ((∀ q ∈ L, q.1.bf.length ≤ K) ∧ ∀ q ∈ L, q.2.ownBlock ≠ none) ∧ Src w' g A n c M ∧ w.grownBy w' (some g)
/-- The names that are drawn from. -/
def namesD : Array Value := #[.string ⟨#[99, 108, 105, 99, 107, 105, 110, 103]⟩, .string ⟨#[115, 107, 105, 118, 105, 110, 103]⟩, .string ⟨#[99, 108, 111, 115, 105, 110, 103]⟩, .string ⟨#[108, 97, 115, 116, 105, 110, 103]⟩, .string ⟨#[119, 101, 108, 116, 105, 110, 103]⟩, .string ⟨#[115, 111, 108, 105, 110, 103]⟩, .string ⟨#[104, 101, 101, 108, 45, 50]⟩, .string ⟨#[102, 105, 110, 105, 115, 104]⟩, .string ⟨#[98, 111, 120]⟩]
theorem namesD_at {k : Nat} (h : k < 9) : ∃ s, namesD[k]? = some (.string s) ∧ s.size ≤ 12 := by
  match k, h with
  | 0, _ => exact ⟨_, rfl, by decide⟩
  | 1, _ => exact ⟨_, rfl, by decide⟩
  | 2, _ => exact ⟨_, rfl, by decide⟩
  | 3, _ => exact ⟨_, rfl, by decide⟩
  | 4, _ => exact ⟨_, rfl, by decide⟩
  | 5, _ => exact ⟨_, rfl, by decide⟩
  | 6, _ => exact ⟨_, rfl, by decide⟩
  | 7, _ => exact ⟨_, rfl, by decide⟩
  | 8, _ => exact ⟨_, rfl, by decide⟩

set_option maxRecDepth 100000 in
set_option maxHeartbeats 4000000 in
theorem l13Draw_any (g : Nat) (A : Option Addr) (n c N : Nat) (w : World) (h : Src w g A n c N) (hN : N ≤ 800000000) (hn : n ≤ 9223372036854775807) :
    Calls Tryd.prog 55 #[.pointer (some ⟨g, 0, none⟩)] w (DrawPostS 7 w g A n c (N + 114)) := by
  obtain ⟨i6, gi, gz0, gz1, gz2⟩ := info_parts info_i64r
  obtain ⟨i0, hi, hz0, hz1, hz2⟩ := info_parts info_op
  have hgl := h.lt
  have hz : (w.alloc (.cells namesD 9)).heap.size = w.heap.size + 1 := by simp
  have hN1 := Box.new w namesD 9
  have hNB := hN1.alloc (.cells #[] 53)
  have hG := GO.nil (w.alloc (.cells namesD 9)) (w.heap.size + 1) (by rw [hz]; omega)
  rw [hz] at hG
  have S1 := Lib.hid ((h.alloc (.cells namesD 9)).alloc (.cells #[] 53))
  have G1 := grown_alloc (grown_alloc (World.grownBy.refl w (some g)) (.cells namesD 9)) (.cells #[] 53)
  have GA := grown_alloc (World.grownBy.refl (w.alloc (.cells namesD 9)) (some g)) (.cells #[] 53)
  have GA0 := grown_alloc (World.grownBy.refl w (some g)) (.cells namesD 9)
  have HG := Lib.hid hG
  have HN1 := Lib.hid hN1
  have HGA := Lib.hid GA
  have HGA0 := Lib.hid GA0
  have HZ := Lib.hid hz
  clear h hz hN1 hNB hG G1 GA GA0
  go_enter Tryd.func55, Tryd.ntmps55
  go_wp2_with fail
  refine (pick_any g A n c N 8 _ S1.out (by omega) hn).mono ?_
  rintro e w2 ⟨T, ⟨hT0, hT1, _⟩, rfl, hs2, hg2⟩
  obtain ⟨T, rfl⟩ := Int.eq_ofNat_of_zero_le hT0
  have hT7 : T ≤ 7 := by have := hT1 (by omega); omega
  have HG2 := Lib.hid (HG.out.keep hg2 (by omega))
  have HS2 := Lib.hid hs2
  have HGA2 := Lib.hid (grown_low hg2 HGA.out)
  clear hs2 hg2 hT1 hT0 HG HGA S1
  obtain ⟨wA, hwA⟩ : ∃ wA, w.alloc (.cells namesD 9) = wA := ⟨_, rfl⟩
  rw [hwA] at HN1 HGA2 HGA0 HZ
  clear hwA
  go_wp2
  go_loopg [4, 6, 7, 8] T (fun gg vo vk _ _ wr => ∃ (k go co : Nat) (L : List (OpV × Value)), k ≤ T ∧ T - k ≤ gg ∧ vk = .int .i64 k ∧ vo = .slice (some ⟨go, 0, none⟩) k co ∧ Hid (GO wr (w.heap.size + 1) go k co L) ∧ Hid ((∀ q ∈ L, q.1.bf.length ≤ 7) ∧ ∀ q ∈ L, q.2.ownBlock ≠ none) ∧ Hid (Src wr g A n c (N + 2 + 16 * k)) ∧ Hid (wA.grownBy wr (some g)))
  case atStart => exact ⟨0, _, _, [], Nat.zero_le _, by omega, rfl, rfl, HG2, Lib.hid (by simp), HS2, HGA2⟩
  case round =>
    clear HG2 HS2 HGA2
    obtain ⟨k, go, co, L, hkT, hgg, rfl, rfl, HG, HBF, HS, HW⟩ := hrel
    have hcap := (Rd.of_own HG.out.own).cap
    have hmax := (Rd.of_own HG.out.own).max
    by_cases hlt : k < T
    · have hk1 : (k : Int) < (T : Int) := by omega
      have hk0 : (0 : Int) ≤ (k : Int) := by omega
      have hk9 : (k : Int) < 9 := by omega
      obtain ⟨s, hs, hs12⟩ := namesD_at (k := k) (by omega)
      have hcn : wr.cell? ⟨w.heap.size, k, none⟩ = some (.string s) := HW.out.cell ((HN1.out.cell k).trans hs) (by simp; omega)
      clear hs
      have hgr := HS.out.lt
      have hwr := HW.out.size
      rw [HZ.out] at hwr
      go_upto_region 7 with fail
      go_cut [7] from 13 to 58 (fun vx wx => ∃ (bx gn : Nat) (mn : Int), vx = .pointer (some ⟨bx, 0, none⟩) ∧ Cut7 wr wx g A n c (N + 2 + 16 * k + 2) s mn bx gn)
      case first =>
        rename_i kk3 z6 kj1 kk2 z5 z4 kk1 z3 kk0 z2 kj0 kkp z1 z0
        clear z6 z5 z4 z3 z2 HG HBF HW HN1 HGA0 HZ hi hz0 hz1 hz2 gi gz0 gz1 gz2 hcap hmax hs12
        go_region_held3 (fun w' => w'.cell? ⟨w.heap.size, k, none⟩ = some (.string s))
          (with_reducible (first | assumption | exact cell_drw hcn | exact cell_drw (cell_alc hcn) | exact cell_drw (cell_alc (cell_alc hcn)) | exact cell_alc hcn5 | exact cell_alc (cell_alc hcn5) | exact cell_sets hcn5 (by omega) | exact cell_sets (cell_alc hcn5) (by omega) | exact cell_alc (cell_sets hcn5 (by omega))))
          (first | (go_at_call 48; refine (pick_any g A n c (N + 2 + 16 * k) 12 _ (HS.out.below (by go_grown)) (by omega) hn).mono ?_; rintro e w5 ⟨r, ⟨hr0, hr1, _⟩, rfl, hs5, hg5⟩; have hr1 := hr1 (by omega); have hw1 : IntKind.i64.wrap (1 + r) = 1 + r := IntWalk.i64_in _ (by omega); have hw2 : IntKind.i64.wrap (5 * (1 + r)) = 5 * (1 + r) := IntWalk.i64_in _ (by omega); have hgl5 := hg5.size; have hcn5 := hg5.cell (a := ⟨w.heap.size, k, none⟩) (by with_reducible assumption) (by simp; omega); have hlt5 : w.heap.size < w5.heap.size := World.block_lt_of_cell? _ _ hcn5; (first | (with_reducible have hx5 := hx_last hg5 (by first | exact hgr | (simp; omega)); obtain ⟨q0, q1, q2, qf, ql⟩ := x0_cells hx5; (try rw [World.size_alloc] at q0 q1 q2 qf ql); (try (have hx6 := hx5.alloc (.cells #[] 2); have p0 : (w5.alloc (.cells #[] 2)).cell? ⟨wr.heap.size, 0, none⟩ = some (.string ⟨#[]⟩) := hx6.cell 0; have p1 : (w5.alloc (.cells #[] 2)).cell? ⟨wr.heap.size, 1, none⟩ = some (.int .i64 0) := hx6.cell 1; have p2 : (w5.alloc (.cells #[] 2)).cell? ⟨wr.heap.size, 2, none⟩ = some (.slice none 0 0) := hx6.cell 2; have pf : ∀ i, (w5.alloc (.cells #[] 2)).frozen? ⟨wr.heap.size, i, none⟩ = false := hx6.froz))) | (with_reducible have hx5 := hx_prev hg5 (by first | exact hgr | (simp; omega)); obtain ⟨q0, q1, q2, qf, ql⟩ := x0_cells hx5) | skip)))
        all_goals
          go_wp2_with fail
          go_meet
          first
            | with_reducible exact ⟨_, _, _, rfl, c7a hs5 hg5⟩
            | with_reducible exact ⟨_, _, _, rfl, c7b hs5 hg5⟩
            | with_reducible exact ⟨_, _, _, rfl, c7c hs5 hg5 hgr⟩
            | with_reducible exact ⟨_, _, _, rfl, c7d hs5 hg5 hgr⟩
            | with_reducible exact ⟨_, _, _, rfl, c7e hs5 hg5 hgr⟩
            | with_reducible exact ⟨_, _, _, rfl, c7f hs5 hg5 hgr⟩
      case rest =>
        obtain ⟨bx, gn, mn, rfl, hc7⟩ := hcut
        obtain ⟨w5, rfl⟩ : ∃ w', w' = wc := ⟨_, rfl⟩
        have hbx := hc7.ge
        have HX := Lib.hid hc7.box
        have HO := Lib.hid hc7.own
        have hne7 := hc7.ne
        have HV : Hid ((Value.slice (some ⟨gn, 0, none⟩) 0 0).ownBlock ≠ some bx ∧ (Value.slice (some ⟨gn, 0, none⟩) 0 0).ownBlock ≠ none) := Lib.hid (by simp [Value.ownBlock]; omega)
        have HS5 := Lib.hid hc7.src
        have HW5 := Lib.hid hc7.grown
        clear hc7 hcn hne7
        obtain ⟨w4, rfl⟩ : ∃ w', w' = wr := ⟨_, rfl⟩
        go_wp2
        go_loopg [8] T (fun gg vj w6 => ∃ (j m : Nat) (bf : List Int) (V : Value), j ≤ T ∧ T - j ≤ gg ∧ Hid (bf.length = m) ∧ vj = .int .i64 j ∧ Hid (Box w6 bx #[.string s, .int .i64 mn, V]) ∧ Hid (w6.ownsRow w4.heap.size 2 1 V m (ints bf)) ∧ Hid (V.ownBlock ≠ some bx ∧ V.ownBlock ≠ none) ∧ m ≤ j ∧ Hid (Src w6 g A n c (N + 2 + 16 * k + 2 + 2 * j)) ∧ Hid (w4.grownBy w6 (some g)))
        case atStart => exact ⟨0, 0, [], _, Nat.zero_le _, by omega, Lib.hid rfl, rfl, HX, HO, HV, Nat.zero_le _, HS5, HW5⟩
        case round =>
          clear HX HO HV HS5 HW5
          obtain ⟨j, m, bf, V, hjT, hgg2, HM, rfl, HX, HO, HV, hbj, HS6, HW6⟩ := hrel
          obtain ⟨w6, rfl⟩ : ∃ w', w' = wr := ⟨_, rfl⟩
          by_cases hltj : j < T
          · have hj1 : (j : Int) < (T : Int) := by omega
            have hj0 : (0 : Int) ≤ (j : Int) := by omega
            go_upto_region 11 with fail
            go_cut [48] from 28 to 54 (fun v wx => ∃ b : Bool, v = .bool b ∧ Hid (Src wx g A n c (N + 2 + 16 * k + 2 + 2 * j + 2)) ∧ Hid (w6.grownBy wx (some g)))
            case first =>
              by_cases h1 : j < k
              · have h1i : (j : Int) < (k : Int) := by omega
                go_wp2_with fail
                refine (one_any g A n c (N + 2 + 16 * k + 2 + 2 * j) 3 _ HS6.out (by omega) hn).mono ?_
                rintro e w7 ⟨b, rfl, hs7, hg7⟩
                cases b
                · go_wp2
                  go_meet
                  exact ⟨false, rfl, Lib.hid hs7, Lib.hid hg7⟩
                · go_wp2
                  go_meet
                  exact ⟨true, rfl, Lib.hid hs7, Lib.hid hg7⟩
              · have h1i : ¬ (j : Int) < (k : Int) := by omega
                by_cases h2 : k < j
                · have h2i : (k : Int) < (j : Int) := by omega
                  go_wp2_with fail
                  refine (one_any g A n c (N + 2 + 16 * k + 2 + 2 * j) 40 _ HS6.out (by omega) hn).mono ?_
                  rintro e w7 ⟨b, rfl, hs7, hg7⟩
                  go_wp2
                  go_meet
                  exact ⟨b, rfl, Lib.hid hs7, Lib.hid hg7⟩
                · have h2i : ¬ (k : Int) < (j : Int) := by omega
                  go_wp2
                  go_meet
                  exact ⟨false, rfl, Lib.hid (HS6.out.more (by omega)), Lib.hid (World.grownBy.refl _ _)⟩
            case rest =>
              obtain ⟨b, rfl, HS7, HG7⟩ := hcut
              obtain ⟨w7, rfl⟩ : ∃ w', w' = wc := ⟨_, rfl⟩
              have hgx := HX.out.lt
              have hgs := HW6.out.size
              have HX7 := Lib.hid (HX.out.onlyU HG7.out (by omega))
              have HO7 := Lib.hid (own_keepV HO.out HG7.out (fun e => by have := (HO.out.lt g e).1; omega))
              have HW7 := Lib.hid (grown_low HG7.out HW6.out)
              clear HX HO HG7 HS6 HW6
              cases b with
              | false =>
                go_wp2
                go_roundg (T - (j + 1))
                case measure => omega
                case rel => exact ⟨j + 1, m, bf, V, by omega, by omega, HM, by go_num, HX7, HO7, HV, by omega, HS7, HW7⟩
              | true =>
                obtain ⟨AV, cV, rfl⟩ := own_shape HO7.out
                have k2 : w7.cell? ⟨bx, 2, none⟩ = some (Value.slice AV m cV) := HX7.out.cell 2
                have HAL7 := Lib.hid (show Below w7.heap.size w7 (w7.alloc (.cells #[.int .i64 j] 2)) from (Below.refl _ _).alloc (Nat.le_refl _) _)
                have hs7 := HW7.out.size
                have hbs := HX7.out.lt
                go_wp2_with (at_builtin; refine wpList_append_own_at _ rfl (.tmp 50) (.tmp 52) 32 rfl w4.heap.size 2 i6 (.int .i64 0) 1 8 Tryd.underlying32 gi gz0 gz1 gz2 rfl (by decide) (Value.slice AV m cV) _ _ rfl (own_belowV HO7.out HAL7.out) ⟨_, 0, none⟩ 1 1 [.int .i64 j] rfl rfl (cell_one_new _ _ _) (by intro u hu; simp at hu; subst hu; rfl) (by unfold maxLen; omega) (by omega) (by simp; omega) ?_; intro v' wa hown' hga hdel hblk; clear hdel; obtain ⟨g3, d3, hv, hg3, hg3l⟩ := own_form hown' (by omega); subst hv; have hx8 := (HX7.out.below HAL7.out); have hx9 : Box wa bx #[.string s, .int .i64 mn, Value.slice AV m cV] := hx8.of_block (hga.block bx hx8.lt (fun e => HV.out.1 e.symm)) hga.size; have kx2 : wa.cell? ⟨bx, 2, none⟩ = some (Value.slice AV m cV) := hx9.cell 2; have kxf := hx9.froz)
                have hins : ints bf ++ [.int .i64 j] = ints (bf ++ [(j : Int)]) := by simp [ints]
                rw [hins] at hown'
                have hg3n : g3 ≠ bx := fun e => by
                  subst e
                  rcases hblk with e | e
                  · exact HV.out.1 e.symm
                  · simp [Value.ownBlock] at e
                    omega
                have HM9 := Lib.hid (show (bf ++ [(j : Int)]).length = m + 1 by rw [List.length_append, HM.out]; rfl)
                have HX9 := Lib.hid (hx9.setO 2 (.slice (some ⟨g3, 0, none⟩) (m + 1) d3) (by simp))
                have HO9 := Lib.hid (own_setO (b := bx) (j := 2) (v := .slice (some ⟨g3, 0, none⟩) (m + 1) d3) hown' hg3n)
                have hS9 : Src wa g A n c (N + 2 + 16 * k + 2 + 2 * j + 2) := by
                  refine (HS7.out.below HAL7.out).keep ?_
                  exact (Below.refl _ _).grown hga (by simp; omega) (fun y hy => by have := (HO7.out.lt y hy).1; omega)
                have HS9 := Lib.hid (hS9.set (L := bx) (i := 2) (by omega) (.slice (some ⟨g3, 0, none⟩) (m + 1) d3))
                have hW9 : w4.grownBy wa (some g) := grown_new (grown_bel HW7.out HAL7.out) hga (fun y hy => (HO7.out.lt y hy).1)
                have HW9 := Lib.hid (grown_new hW9 (grown_setO wa bx 2 (.slice (some ⟨g3, 0, none⟩) (m + 1) d3)) (fun y hy => by injection hy with hy; omega))
                have HV9 : Hid ((Value.slice (some ⟨g3, 0, none⟩) (m + 1) d3).ownBlock ≠ some bx ∧ (Value.slice (some ⟨g3, 0, none⟩) (m + 1) d3).ownBlock ≠ none) := Lib.hid (by simp [Value.ownBlock]; omega)
                clear hown' hga hblk hx8 hx9 kx2 kxf hins hS9 hW9 HX7 HO7 HS7 HW7 HAL7 k2
                go_wp2
                go_roundg (T - (j + 1))
                case measure => omega
                case rel => exact ⟨j + 1, m + 1, _, _, by omega, by omega, HM9, by go_num, HX9, HO9, HV9, by omega, HS9, HW9⟩
          · obtain rfl : j = T := by omega
            obtain ⟨AV, cV, rfl⟩ := own_shape HO.out
            have k0 : w6.cell? ⟨bx, 0, none⟩ = some (.string s) := HX.out.cell 0
            have k1 : w6.cell? ⟨bx, 1, none⟩ = some (.int .i64 mn) := HX.out.cell 1
            have k2 : w6.cell? ⟨bx, 2, none⟩ = some (Value.slice AV m cV) := HX.out.cell 2
            have HG6 := Lib.hid (HG.out.keep HW6.out (by omega))
            have hgo := own_block HG.out.own go rfl
            have hs6 := HW6.out.size
            have HTOP := Lib.hid HG.out.top
            have HAL6 := Lib.hid (show Below w6.heap.size w6 (w6.alloc (.cells #[.string s, .int .i64 mn, Value.slice AV m cV] 53)) from (Below.refl _ _).alloc (Nat.le_refl _) _)
            have HNEW := Lib.hid (World.news_of_block (heap_alloc_new w6 (.cells #[.string s, .int .i64 mn, Value.slice AV m cV] 53)))
            clear HX HG
            go_wp2_with (at_builtin; refine wpList_append_own_at _ rfl (.tmp 55) (.tmp 57) 25 rfl (w.heap.size + 1) 53 i0 (.agg #[.string ByteArray.empty, .int .i64 0, .slice none 0 0]) 3 48 Tryd.underlying25 hi hz0 hz1 hz2 rfl (by decide) (Value.slice (some ⟨go, 0, none⟩) k co) _ _ rfl (own_below HG6.out.own HAL6.out) ⟨_, 0, none⟩ 1 1 [.string s, .int .i64 mn, Value.slice AV m cV] rfl rfl HNEW.out (by intro u hu; simp at hu; rcases hu with rfl | rfl | rfl <;> rfl) (by unfold maxLen; omega) (by omega) (by simp; omega) ?_; intro v' wa hown' hga hdel hblk; clear hdel)
            obtain ⟨g7, d7, hv, hg7, _⟩ := own_form hown' (by omega)
            subst hv
            have hg71 : g7 = go ∨ (w6.alloc (.cells #[.string s, .int .i64 mn, Value.slice AV m cV] 53)).heap.size ≤ g7 := by
              rcases hblk with e | e
              · simp [Value.ownBlock] at e
                exact .inl e
              · simp [Value.ownBlock] at e
                exact .inr (by simp; omega)
            have hV7 := own_belowV HO.out HAL6.out
            have hbm := HM.out
            subst hbm
            have hG9 := (HG6.out.below HAL6.out).snoc (p := ⟨s, mn, bf⟩) (b1 := w4.heap.size) hV7 (by omega) (fun k q U hk b hb => HTOP.out k q U hk b hb) (by omega) hown' hga hg71 hs12
            have HG9 := Lib.hid hG9
            have HBF9 : Hid ((∀ q ∈ L ++ [((⟨s, mn, bf⟩ : OpV), Value.slice AV bf.length cV)], q.1.bf.length ≤ 7) ∧ ∀ q ∈ L ++ [((⟨s, mn, bf⟩ : OpV), Value.slice AV bf.length cV)], q.2.ownBlock ≠ none) := Lib.hid ⟨fun q hq => by
              rcases List.mem_append.1 hq with hq | hq
              · exact HBF.out.1 q hq
              · simp at hq
                subst hq
                show bf.length ≤ 7
                omega, fun q hq => by
              rcases List.mem_append.1 hq with hq | hq
              · exact HBF.out.2 q hq
              · simp at hq
                subst hq
                exact HV.out.2⟩
            have hS9 : Src wa g A n c (N + 2 + 16 * k + 2 + 2 * j) := by
              refine (HS6.out.below HAL6.out).keep ?_
              exact (Below.refl _ _).grown hga (by simp; omega) (fun y hy => by simp [Value.ownBlock] at hy; omega)
            have HS9 := Lib.hid (hS9.more (show N + 2 + 16 * k + 2 + 2 * j ≤ N + 2 + 16 * (k + 1) by omega))
            have HW9 := Lib.hid (grown_new (grown_bel (grown_low HW6.out HW.out) HAL6.out) hga (fun y hy => by simp [Value.ownBlock] at hy; have := HZ.out; omega))
            clear hown' hga hblk hg71 hV7 hG9 hS9 HG6 HAL6 HNEW HS6 HW6 HW HO k0 k1 k2
            go_wp2
            go_roundg (j - (k + 1))
            case measure => omega
            case rel => exact ⟨k + 1, g7, d7, _, by omega, by omega, by go_num, rfl, HG9, HBF9, HS9, HW9⟩
    · obtain rfl : k = T := by omega
      go_wp2
      go_ret
      exact ⟨go, k, co, L, rfl, hT7, (HG.out.base (by omega)), HBF.out, HS.out.more (by omega), grown_low HW.out HGA0.out⟩
end Go.Proofs.YtgghjieeckkpbaaDoor
