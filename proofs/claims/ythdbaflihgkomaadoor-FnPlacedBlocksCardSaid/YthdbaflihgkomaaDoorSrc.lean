/- The reference's source of choices: l00From, next, pick: whatever they draw lies in its range; only the source's own block turns. -/
import Derived.Test.YthdbaflihgkomaaDoorLaw
import Derived.Laws.BitsAllLaws
namespace Go.Proofs.YthdbaflihgkomaaDoor
open Go.RowKit

/-- Each byte of the slice '.slice A n c' can be read, below block g. -/
def CodeAt (w : World) (g : Nat) (A : Option Addr) (n : Nat) : Prop :=
  ∀ k, k < n → ∃ b o x, A = some ⟨b, o, none⟩ ∧ b < g ∧ 0 ≤ x ∧ x ≤ 255 ∧ w.cell? ⟨b, o + k, none⟩ = some (.int .u8 x)
/-- Block g is a source over the bytes '.slice A n c', of which at most N have been read. -/
def Src (w : World) (g : Nat) (A : Option Addr) (n c N : Nat) : Prop :=
  ∃ (p : Nat) (seed : Int), p ≤ N ∧ 0 ≤ seed ∧ seed ≤ 18446744073709551615 ∧ Box w g #[.slice A n c, .int .i64 p, .int .u64 seed] ∧ CodeAt w g A n
theorem CodeAt.only {w w1 : World} {g : Nat} {A : Option Addr} {n : Nat} (h : CodeAt w g A n) (hg : w.grownBy w1 (some g)) : CodeAt w1 g A n := fun k hk => by
  obtain ⟨b, o, x, hA, hlt, h0, h1, hc⟩ := h k hk
  exact ⟨b, o, x, hA, hlt, h0, h1, hg.cell hc (by simp; omega)⟩
theorem CodeAt.below {w w1 : World} {g : Nat} {A : Option Addr} {n : Nat} (h : CodeAt w g A n) (hb : Below (g + 1) w w1) : CodeAt w1 g A n := fun k hk => by
  obtain ⟨b, o, x, hA, hlt, h0, h1, hc⟩ := h k hk
  exact ⟨b, o, x, hA, hlt, h0, h1, (hb.cell (p := ⟨b, o + k, none⟩) (by show b < g + 1; omega)).trans hc⟩
theorem Src.keep {w w1 : World} {g : Nat} {A : Option Addr} {n c N : Nat} (h : Src w g A n c N) (hb : Below (g + 1) w w1) : Src w1 g A n c N := by
  obtain ⟨p, seed, hp, h0, h1, hB, hC⟩ := h
  refine ⟨p, seed, hp, h0, h1, ⟨fun i => ?_, fun i => ?_, Nat.lt_of_lt_of_le hB.lt hb.size⟩, hC.below hb⟩
  · exact (hb.cell (p := ⟨g, i, none⟩) (Nat.lt_succ_self g)).trans (hB.cell i)
  · exact (hb.frozen (p := ⟨g, i, none⟩) (Nat.lt_succ_self g)).trans (hB.froz i)
theorem Src.lt {w : World} {g : Nat} {A : Option Addr} {n c N : Nat} (h : Src w g A n c N) : g < w.heap.size := by
  obtain ⟨p, seed, hp, h0, h1, hB, hC⟩ := h
  exact hB.lt
theorem Src.below {w w1 : World} {g : Nat} {A : Option Addr} {n c N : Nat} (h : Src w g A n c N) (hb : Below w.heap.size w w1) : Src w1 g A n c N := h.keep (hb.mono h.lt)
theorem Src.set {w : World} {g : Nat} {A : Option Addr} {n c N L i : Nat} (h : Src w g A n c N) (hL : g < L) (u : Value) : Src (w.setCell ⟨L, i, none⟩ u) g A n c N :=
  h.keep ((Below.refl _ _).setCell (p := ⟨L, i, none⟩) hL u)
theorem Src.alloc {w : World} {g : Nat} {A : Option Addr} {n c N : Nat} (h : Src w g A n c N) (o : Obj) : Src (w.alloc o) g A n c N := h.below ((Below.refl _ _).alloc (Nat.le_refl _) o)
theorem Src.drewN {w : World} {g : Nat} {A : Option Addr} {n c N : Nat} (h : Src w g A n c N) (k : Nat) : Src (w.drewN k) g A n c N := h.below (below_drewN (Below.refl _ _) k)
theorem Src.more {w : World} {g : Nat} {A : Option Addr} {n c N M : Nat} (h : Src w g A n c N) (hM : N ≤ M) : Src w g A n c M := by
  obtain ⟨p, seed, hp, r⟩ := h
  exact ⟨p, seed, by omega, r⟩
/-- Only block g, and what is new, has turned. -/
def SrcPost (P : Int → Prop) (w : World) (g : Nat) (A : Option Addr) (n c N : Nat) (e : Ending) (w' : World) : Prop :=
  ∃ r : Int, P r ∧ e = .returned (.int .i64 r) ∧ Src w' g A n c N ∧ w.grownBy w' (some g)

theorem Box.set {w : World} {g : Nat} {cs : Array Value} (h : Box w g cs) (i : Nat) (u : Value) (hi : i < cs.size) : Box (w.setCell ⟨g, i, none⟩ u) g (cs.setIfInBounds i u) := by
  have hs : w.cell? ⟨g, i, none⟩ = some cs[i] := by rw [h.cell i]; simp [hi]
  refine ⟨fun j => ?_, fun j => ?_, by have := h.lt; simpa using this⟩
  · by_cases e : i = j
    · subst e
      rw [World.cell?_setCell_same _ _ _ hs]
      simp [hi]
    · rw [World.cell?_setCell_other _ _ _ _ (by intro he; injection he with _ h2; exact e h2), h.cell j]
      simp [e]
  · rw [World.frozen?_setCell]
    exact h.froz j
theorem Box.drewN {w : World} {g : Nat} {cs : Array Value} (h : Box w g cs) (n : Nat) : Box (w.drewN n) g cs := ⟨h.cell, h.froz, h.lt⟩
theorem grown_set {w w1 : World} {g i : Nat} (h : w.grownBy w1 (some g)) (u : Value) : w.grownBy (w1.setCell ⟨g, i, none⟩ u) (some g) :=
  ⟨h.os, h.tape, h.output, by simpa using h.size, fun k hk hne => (Below.heap_setCell w1 ⟨g, i, none⟩ u k (fun e => hne (by rw [e]))).trans (h.block k hk hne)⟩
theorem grown_drewN {w w1 : World} {row : Option Nat} (h : w.grownBy w1 row) (n : Nat) : w.grownBy (w1.drewN n) row := ⟨h.os, h.tape, h.output, h.size, h.block⟩
theorem u64_bd (n : Int) : 0 ≤ IntKind.u64.wrap n ∧ IntKind.u64.wrap n ≤ 18446744073709551615 := by rw [IntKind.wrap_u64]; omega
theorem byte_bd (x : Int) (h0 : 0 ≤ x) (h1 : x ≤ 18446744073709551615) : 0 ≤ wrap64 (bits BinOp.and IntKind.u64 x 255) ∧ wrap64 (bits BinOp.and IntKind.u64 x 255) ≤ 255 := by
  have e : bits BinOp.and IntKind.u64 x 255 = ((x.toNat % 256 : Nat) : Int) := by
    rw [u64_and x 255 h0 (by omega) (by omega) (by omega)]
    have : x.toNat &&& (255 : Int).toNat = x.toNat % 256 := Nat.and_two_pow_sub_one_eq_mod x.toNat 8
    rw [this]
  rw [e, IntWalk.wrap64_in _ (by omega)]
  omega
theorem src_close {w : World} {g : Nat} {A : Option Addr} {n c N p : Nat} {seed : Int} (hp : p ≤ N) (hB : Box w g #[.slice A n c, .int .i64 p, .int .u64 seed]) (hC : CodeAt w g A n) (q q' : Nat) (v : Int) :
    Src ((((w.drewN q).setCell ⟨g, 1, none⟩ (.int .i64 ((p : Int) + 1))).setCell ⟨g, 2, none⟩ (.int .u64 (IntKind.u64.wrap v))).drewN q') g A n c (N + 1) ∧
      w.grownBy ((((w.drewN q).setCell ⟨g, 1, none⟩ (.int .i64 ((p : Int) + 1))).setCell ⟨g, 2, none⟩ (.int .u64 (IntKind.u64.wrap v))).drewN q') (some g) := by
  have hg := grown_drewN (grown_set (i := 2) (grown_set (i := 1) (grown_drewN (World.grownBy.refl w (some g)) q) (.int .i64 ((p : Int) + 1))) (.int .u64 (IntKind.u64.wrap v))) q'
  refine ⟨⟨p + 1, IntKind.u64.wrap v, by omega, (u64_bd v).1, (u64_bd v).2, ?_, hC.only hg⟩, hg⟩
  exact (((hB.drewN q).set 1 (.int .i64 ((p : Int) + 1)) (by simp)).set 2 (.int .u64 (IntKind.u64.wrap v)) (by simp)).drewN q'

set_option maxRecDepth 100000 in
set_option maxHeartbeats 2000000 in
theorem next_any (g : Nat) (A : Option Addr) (n c N : Nat) (w : World) (h : Src w g A n c N) (hN : N ≤ 1000000000) (_hn : n ≤ 9223372036854775807) :
    Calls Tryd.prog 69 #[.pointer (some ⟨g, 0, none⟩)] w (SrcPost (fun r => 0 ≤ r ∧ r ≤ 255) w g A n c (N + 1)) := by
  obtain ⟨p, seed, hp, h0, h1, hB, hC⟩ := h
  have HB := Lib.hid hB
  have HC := Lib.hid hC
  have c0 : w.cell? ⟨g, 0, none⟩ = some (.slice A n c) := hB.cell 0
  have c1 : w.cell? ⟨g, 1, none⟩ = some (.int .i64 p) := hB.cell 1
  have c2 : w.cell? ⟨g, 2, none⟩ = some (.int .u64 seed) := hB.cell 2
  have f0 := hB.froz
  clear hB hC
  by_cases hpn : p < n
  · obtain ⟨b, o, x, hA, hlt, hx0, hx1, hc⟩ := HC.out p hpn
    subst hA
    have hpi : (p : Int) < (n : Int) := by omega
    have hp0 : (0 : Int) ≤ (p : Int) := by omega
    go_enter Tryd.func69, Tryd.ntmps69
    go_wp2
    go_quiet (fail)
    go_wp2
    go_quiet (fail)
    go_wp2
    go_quiet (fail)
    go_wp2
    go_ret
    have S := src_close hp HB.out HC.out
    exact ⟨x, ⟨hx0, hx1⟩, rfl, (S _ _ _).1, (S _ _ _).2⟩
  · have hpi : ¬ (p : Int) < (n : Int) := by omega
    go_enter Tryd.func69, Tryd.ntmps69
    go_wp2
    go_quiet (fail)
    go_wp2
    go_quiet (fail)
    go_wp2
    go_ret
    have S := src_close hp HB.out HC.out
    exact ⟨_, byte_bd _ (by have := u64_bd (IntKind.u64.wrap (IntKind.u64.wrap (seed * 6364136223846793005)) + 1442695040888963407); omega) (by have := u64_bd (IntKind.u64.wrap (IntKind.u64.wrap (seed * 6364136223846793005)) + 1442695040888963407); omega), rfl, (S _ _ _).1, (S _ _ _).2⟩

def PickP (k r : Int) : Prop := 0 ≤ r ∧ (1 ≤ k → r < k) ∧ (k ≤ 1 → r = 0)

set_option maxRecDepth 100000 in
set_option maxHeartbeats 2000000 in
theorem pick_any (g : Nat) (A : Option Addr) (n c N : Nat) (k : Int) (w : World) (h : Src w g A n c N) (hN : N ≤ 900000000) (hn : n ≤ 9223372036854775807) :
    Calls Tryd.prog 51 #[.pointer (some ⟨g, 0, none⟩), .int .i64 k] w (SrcPost (PickP k) w g A n c (N + 2)) := by
  have H := Lib.hid h
  clear h
  by_cases hk : k ≤ 1
  · go_enter Tryd.func51, Tryd.ntmps51
    go_wp2_with fail
    go_ret
    exact ⟨0, ⟨by omega, by omega, by omega⟩, rfl, H.out.more (by omega), World.grownBy.refl _ _⟩
  · by_cases hb : 200 < k
    · go_enter Tryd.func51, Tryd.ntmps51
      go_wp2_with fail
      refine (next_any g A n c N _ H.out (by omega) hn).mono ?_
      rintro e w1 ⟨r1, ⟨hr0, hr1⟩, rfl, hs1, hg1⟩
      have HS1 := Lib.hid hs1
      have HG1 := Lib.hid hg1
      clear hs1 hg1
      go_wp2_with fail
      refine (next_any g A n c (N + 1) _ HS1.out (by omega) hn).mono ?_
      rintro e w2 ⟨r2, ⟨hq0, hq1⟩, rfl, hs2, hg2⟩
      have HS2 := Lib.hid hs2
      have HG2 := Lib.hid hg2
      clear hs2 hg2
      have hm0 := Int.emod_nonneg (r1 * 256 + r2) (b := k) (by omega)
      have hm1 := Int.emod_lt_of_pos (r1 * 256 + r2) (b := k) (by omega)
      go_wp2_with fail
      go_ret
      exact ⟨_, ⟨hm0, fun _ => hm1, fun h => by omega⟩, rfl, HS2.out, World.grownBy.trans HG1.out HG2.out⟩
    · go_enter Tryd.func51, Tryd.ntmps51
      go_wp2_with fail
      refine (next_any g A n c N _ H.out (by omega) hn).mono ?_
      rintro e w1 ⟨r1, ⟨hr0, hr1⟩, rfl, hs1, hg1⟩
      have HS1 := Lib.hid hs1
      have HG1 := Lib.hid hg1
      clear hs1 hg1
      have hm0 := Int.emod_nonneg r1 (b := k) (by omega)
      have hm1 := Int.emod_lt_of_pos r1 (b := k) (by omega)
      go_wp2_with fail
      go_ret
      exact ⟨_, ⟨hm0, fun _ => hm1, fun h => by omega⟩, rfl, HS1.out.more (by omega), HG1.out⟩

/-- A slice of bytes that reads: each cell holds a byte. -/
def Bytes (w : World) (A : Option Addr) (n c : Nat) : Prop :=
  n ≤ c ∧ c ≤ 9223372036854775807 ∧ ∀ k, k < n → ∃ b o x, A = some ⟨b, o, none⟩ ∧ b < w.heap.size ∧ 0 ≤ x ∧ x ≤ 255 ∧ w.cell? ⟨b, o + k, none⟩ = some (.int .u8 x)
theorem Bytes.below {w w1 : World} {A : Option Addr} {n c : Nat} (h : Bytes w A n c) (hb : Below w.heap.size w w1) : Bytes w1 A n c :=
  ⟨h.1, h.2.1, fun k hk => by
    obtain ⟨b, o, x, hA, hlt, h0, h1, hc⟩ := h.2.2 k hk
    exact ⟨b, o, x, hA, Nat.lt_of_lt_of_le hlt hb.size, h0, h1, (hb.cell (p := ⟨b, o + k, none⟩) hlt).trans hc⟩⟩

set_option maxHeartbeats 400000 in
theorem l00From_any (A : Option Addr) (n c : Nat) (w : World) (h : Bytes w A n c) :
    Calls Tryd.prog 48 #[.slice A n c] w fun e w' => ∃ g, e = .returned (.pointer (some ⟨g, 0, none⟩)) ∧ Src w' g A n c 0 ∧ w.heap.size ≤ g ∧ Below w.heap.size w w' := by
  have H := Lib.hid h
  clear h
  go_enter Tryd.func48, Tryd.ntmps48
  go_wp2
  go_ret
  refine ⟨w.heap.size, rfl, ⟨0, 0, Nat.le_refl _, by omega, by omega, Box.new w _ _, fun k hk => ?_⟩, Nat.le_refl _, (by go_grown)⟩
  obtain ⟨b, o, x, hA, hlt, h0, h1, hc⟩ := H.out.2.2 k hk
  exact ⟨b, o, x, hA, hlt, h0, h1, (World.cell?_alloc_lt w _ ⟨b, o + k, none⟩ hlt).trans hc⟩
end Go.Proofs.YthdbaflihgkomaaDoor
