/- A drawn leather is valid: l12Draw, A2Leather; and the laws' small helpers a2Long, a2At, a2Size, a2Give. -/
import Derived.Test.YtdkklkpegnblnaaSrc
import Derived.Test.YtdkklkpegnblnaaLea7
namespace Go.Proofs.Ytdkklkpegnblnaa
open Go.RowKit

theorem Box.only {w w1 : World} {b g : Nat} {cs : Array Value} (h : Box w b cs) (hg : w.grownBy w1 (some g)) (hne : b ≠ g) : Box w1 b cs := by
  have hb := hg.block b h.lt (by simpa using hne)
  exact ⟨fun i => (World.cell?_of_block hb).trans (h.cell i), fun i => (World.frozen?_of_block hb).trans (h.froz i), Nat.lt_of_lt_of_le h.lt hg.size⟩

theorem Box.far {w : World} {b L i : Nat} {cs : Array Value} (h : Box w b cs) (hne : b ≠ L) (u : Value) : Box (w.setCell ⟨L, i, none⟩ u) b cs := by
  refine ⟨fun j => ?_, fun j => ?_, by have := h.lt; simpa using this⟩
  · rw [World.cell?_setCell_other _ _ _ _ (by intro he; injection he with h1; exact hne h1.symm)]
    exact h.cell j
  · rw [World.frozen?_setCell]
    exact h.froz j

theorem grown_far {w w1 : World} {g L i : Nat} (h : w.grownBy w1 (some g)) (hL : w.heap.size ≤ L) (u : Value) : w.grownBy (w1.setCell ⟨L, i, none⟩ u) (some g) :=
  ⟨h.os, h.tape, h.output, by simpa using h.size, fun k hk hne => (Below.heap_setCell w1 ⟨L, i, none⟩ u k (fun e => by simp at e; omega)).trans (h.block k hk hne)⟩

/-- What a drawn leather is. -/
structure DrawnL (a c s m : Int) : Prop where
  a0 : 0 ≤ a
  a1 : a ≤ 7
  c0 : 0 ≤ c
  c1 : c ≤ 19
  s0 : 0 ≤ s
  s1 : s ≤ 950
  m0 : 20 ≤ m
  m1 : m ≤ 310
theorem DrawnL.valid {a c s m : Int} (h : DrawnL a c s m) : leatherB a c s m = true := by
  have := h.a0
  have := h.a1
  have := h.c0
  have := h.c1
  have := h.s0
  have := h.s1
  have := h.m0
  have := h.m1
  unfold leatherB
  rw [inB_mk (by omega) (by omega), inB_mk (by omega) (by omega), inB_mk (by omega) (by omega), inB_mk (by omega) (by omega)]
  rfl
def DrawPost (w : World) (g : Nat) (e : Ending) (w' : World) : Prop :=
  ∃ a c s m : Int, DrawnL a c s m ∧ e = .returned (.agg #[.int .i64 a, .int .i64 c, .int .i64 s, .int .i64 m]) ∧ w.grownBy w' (some g)

set_option maxRecDepth 100000 in
set_option maxHeartbeats 4000000 in
theorem l12Draw_any (g : Nat) (A : Option Addr) (n c N : Nat) (w : World) (h : Src w g A n c N) (hN : N ≤ 800000000) (hn : n ≤ 9223372036854775807) :
    Calls Try.prog 73 #[.pointer (some ⟨g, 0, none⟩)] w (DrawPost w g) := by
  have hgl := h.lt
  have hg0 : w.grownBy (w.alloc (.cells #[.int .i64 0, .int .i64 0, .int .i64 0, .int .i64 0] 25)) (some g) := World.grownBy_alloc _ _ _
  have R0 := Box.new w #[.int .i64 0, .int .i64 0, .int .i64 0, .int .i64 0] 25
  have H0 := Lib.hid (h.below ((Below.refl _ _).alloc (Nat.le_refl _) (.cells #[.int .i64 0, .int .i64 0, .int .i64 0, .int .i64 0] 25)))
  clear h
  go_enter Try.func73, Try.ntmps73
  go_wp2_with fail
  refine (pick_any g A n c N 8 _ H0.out (by omega) hn).mono ?_
  rintro e w1 ⟨r0, ⟨p00, p01, _⟩, rfl, hs1, hg1⟩
  have p01 := p01 (by omega)
  have G1 := Lib.hid (World.grownBy.trans hg0 hg1)
  have S1 := Lib.hid hs1
  have R1 := R0.only hg1 (by omega)
  have z1 := G1.out.size
  clear hs1 hg1
  have D1 : Box (w1.alloc (.cells #[.int .i64 r0, .int .i64 0, .int .i64 0, .int .i64 0] 25)) w1.heap.size #[.int .i64 r0, .int .i64 0, .int .i64 0, .int .i64 0] := Box.new _ _ _
  have E1 := R1.alloc (.cells #[.int .i64 r0, .int .i64 0, .int .i64 0, .int .i64 0] 25)
  have HS1 := Lib.hid (S1.out.alloc (.cells #[.int .i64 r0, .int .i64 0, .int .i64 0, .int .i64 0] 25))
  have q1 : g < w1.heap.size := by omega
  have q0 := R1.lt
  go_wp2_with fail
  refine (pick_any g A n c (N + 2) 20 _ HS1.out (by omega) hn).mono ?_
  rintro e w2 ⟨r1, ⟨p10, p11, _⟩, rfl, hs2, hg2⟩
  have p11 := p11 (by omega)
  have D2 := D1.only hg2 (by omega)
  have E2 := E1.only hg2 (by omega)
  have z2 := hg2.size
  have HS2 := Lib.hid (hs2.set (L := w1.heap.size) (i := 1) q1 (.int .i64 r1))
  have G2 := Lib.hid (World.grownBy.trans (World.grownBy.trans G1.out (World.grownBy_alloc w1 (.cells #[.int .i64 r0, .int .i64 0, .int .i64 0, .int .i64 0] 25) _)) hg2)
  have d20 : w2.cell? ⟨w1.heap.size, 1, none⟩ = some (.int .i64 0) := D2.cell 1
  have f2 := D2.froz
  have D2' := D2.set 1 (.int .i64 r1) (by simp)
  have E2' : Box (w2.setCell ⟨w1.heap.size, 1, none⟩ (.int .i64 r1)) w.heap.size #[.int .i64 0, .int .i64 0, .int .i64 0, .int .i64 0] := E2.far (by omega) _
  have G2' := Lib.hid (grown_far G2.out (L := w1.heap.size) (i := 1) (by omega) (.int .i64 r1))
  clear hs2 hg2 D1 E1 HS1 R1 S1 R0 H0 hg0 D2 E2 G2
  go_wp2_with fail
  refine (pick_any g A n c (N + 2 + 2) 20 _ HS2.out (by omega) hn).mono ?_
  rintro e w3 ⟨r2, ⟨p20, p21, _⟩, rfl, hs3, hg3⟩
  have p21 := p21 (by omega)
  have D3 := D2'.only hg3 (by omega)
  have E3 := E2'.only hg3 (by omega)
  have z3 := hg3.size
  have d30 : w3.cell? ⟨w1.heap.size, 2, none⟩ = some (.int .i64 0) := D3.cell 2
  have f3 := D3.froz
  have D3' := D3.set 2 (.int .i64 (50 * r2)) (by simp)
  have E3' : Box (w3.setCell ⟨w1.heap.size, 2, none⟩ (.int .i64 (50 * r2))) w.heap.size #[.int .i64 0, .int .i64 0, .int .i64 0, .int .i64 0] := E3.far (by omega) _
  have HS3 := Lib.hid (hs3.set (L := w1.heap.size) (i := 2) q1 (.int .i64 (50 * r2)))
  have G3' := Lib.hid (grown_far (World.grownBy.trans G2'.out hg3) (L := w1.heap.size) (i := 2) (by omega) (.int .i64 (50 * r2)))
  clear hs3 hg3 D2' E2' G2' HS2 D3 E3 d20 f2
  go_wp2_with fail
  refine (pick_any g A n c (N + 2 + 2 + 2) 30 _ HS3.out (by omega) hn).mono ?_
  rintro e w4 ⟨r3, ⟨p30, p31, _⟩, rfl, hs4, hg4⟩
  have p31 := p31 (by omega)
  have D4 := D3'.only hg4 (by omega)
  have E4 := E3'.only hg4 (by omega)
  have z4 := hg4.size
  have d40 : w4.cell? ⟨w1.heap.size, 0, none⟩ = some (.int .i64 r0) := D4.cell 0
  have d41 : w4.cell? ⟨w1.heap.size, 1, none⟩ = some (.int .i64 r1) := D4.cell 1
  have d42 : w4.cell? ⟨w1.heap.size, 2, none⟩ = some (.int .i64 (50 * r2)) := D4.cell 2
  have d43 : w4.cell? ⟨w1.heap.size, 3, none⟩ = some (.int .i64 0) := D4.cell 3
  have e40 : w4.cell? ⟨w.heap.size, 0, none⟩ = some (.int .i64 0) := E4.cell 0
  have e41 : w4.cell? ⟨w.heap.size, 1, none⟩ = some (.int .i64 0) := E4.cell 1
  have e42 : w4.cell? ⟨w.heap.size, 2, none⟩ = some (.int .i64 0) := E4.cell 2
  have e43 : w4.cell? ⟨w.heap.size, 3, none⟩ = some (.int .i64 0) := E4.cell 3
  have f4 := D4.froz
  have g4 := E4.froz
  have G4 := Lib.hid (World.grownBy.trans G3'.out hg4)
  have hne1 : w.heap.size ≠ w1.heap.size := by omega
  have hne2 : w1.heap.size ≠ w.heap.size := by omega
  clear hs4 hg4 D3' E3' G3' HS3 D4 E4 d30 f3
  have hw2 : w.heap.size ≤ w1.heap.size := by omega
  go_wp2
  refine bodyPost_ret (v := .agg #[.int .i64 r0, .int .i64 r1, .int .i64 (50 * r2), .int .i64 (20 + 10 * r3)]) (by simp [results, Try.results73, go_sem, e40, e41, e42, e43]) rfl ?_
  refine ⟨r0, r1, 50 * r2, 20 + 10 * r3, ⟨by omega, by omega, by omega, by omega, by omega, by omega, by omega, by omega⟩, rfl, ?_⟩
  repeat (first | exact G4.out | refine grown_far ?_ (by omega) _)

/-- A drawn leather, and nothing that was there has turned. -/
def LPost (w : World) (e : Ending) (w' : World) : Prop :=
  ∃ a c s m : Int, DrawnL a c s m ∧ e = .returned (.agg #[.int .i64 a, .int .i64 c, .int .i64 s, .int .i64 m]) ∧ Below w.heap.size w w'
set_option maxRecDepth 100000 in
set_option maxHeartbeats 1000000 in
theorem a2Leather_any (A : Option Addr) (n c : Nat) (w : World) (h : Bytes w A n c) :
    Calls Try.prog 33 #[.slice A n c] w (LPost w) := by
  have hb0 : Below w.heap.size w (w.alloc (.cells #[.int .i64 0, .int .i64 0, .int .i64 0, .int .i64 0] 25)) := (by go_grown)
  have R0 := Box.new w #[.int .i64 0, .int .i64 0, .int .i64 0, .int .i64 0] 25
  have hn := h.2.1
  have hn' := h.1
  have H := Lib.hid (h.below hb0)
  clear h
  go_enter Try.func33, Try.ntmps33
  go_wp2_with fail
  refine (l00From_any A n c _ H.out).mono ?_
  rintro e w1 ⟨g, rfl, hs, hge, hb1⟩
  have R1 := R0.below hb1
  have b1 := hb0.trans (hb1.mono hb0.size)
  have HS := Lib.hid hs
  have hg1 : w.heap.size + 1 ≤ g := by simpa using hge
  clear hs hb1 R0 hb0 hge
  go_wp2_with fail
  refine (l12Draw_any g A n c 0 _ HS.out (by omega) (by omega)).mono ?_
  rintro e w2 ⟨a, c', s, m, hd, rfl, hg2⟩
  have R2 := R1.only hg2 (by omega)
  have b2 : Below w.heap.size w w2 := b1.grown hg2 b1.size (fun k hk => by injection hk with hk; omega)
  have e40 : w2.cell? ⟨w.heap.size, 0, none⟩ = some (.int .i64 0) := R2.cell 0
  have e41 : w2.cell? ⟨w.heap.size, 1, none⟩ = some (.int .i64 0) := R2.cell 1
  have e42 : w2.cell? ⟨w.heap.size, 2, none⟩ = some (.int .i64 0) := R2.cell 2
  have e43 : w2.cell? ⟨w.heap.size, 3, none⟩ = some (.int .i64 0) := R2.cell 3
  have f2 := R2.froz
  have HB := Lib.hid b2
  clear hg2 R1 b1 HS R2 b2
  go_wp2
  refine bodyPost_ret (v := .agg #[.int .i64 a, .int .i64 c', .int .i64 s, .int .i64 m]) (by simp [results, Try.results33, go_sem, e40, e41, e42, e43]) rfl ?_
  refine ⟨a, c', s, m, hd, rfl, ?_⟩
  repeat (first | exact HB.out | refine Below.setCell ?_ (by exact Nat.le_refl _) _)

set_option maxHeartbeats 400000 in
theorem a2Long_any (A : Option Addr) (n c : Nat) (B : Option Addr) (m d : Nat) (w : World) (hn : n ≤ 9223372036854775807) (hm : m ≤ 9223372036854775807) :
    Calls Try.prog 32 #[.slice A n c, .slice B m d] w fun e w' => e = .returned (.bool (decide (3000 < n) || decide (3000 < m))) ∧ w = w' := by
  by_cases h1 : 3000 < n
  · have h1' : (3000 : Int) < (n : Int) := by omega
    go_enter Try.func32, Try.ntmps32
    go_wp2
    go_ret
    exact ⟨ret_b (by simp [h1]), rfl⟩
  · have h1' : ¬ (3000 : Int) < (n : Int) := by omega
    have h1d : decide ((3000 : Int) < (n : Int)) = false := by simpa using h1'
    by_cases h2 : 3000 < m
    · have h2' : (3000 : Int) < (m : Int) := by omega
      go_enter Try.func32, Try.ntmps32
      go_wp2
      go_ret
      exact ⟨ret_b (by simp), rfl⟩
    · have h2' : ¬ (3000 : Int) < (m : Int) := by omega
      go_enter Try.func32, Try.ntmps32
      go_wp2
      go_ret
      exact ⟨ret_b (by simp), rfl⟩

/-- A number that some byte gives, from 0 to k - 1. -/
def AtPost (k : Int) (w : World) (e : Ending) (w' : World) : Prop := ∃ r : Int, 0 ≤ r ∧ r < k ∧ e = .returned (.int .i64 r) ∧ w = w'
set_option maxHeartbeats 400000 in
theorem a2At_any (A : Option Addr) (n c : Nat) (p k : Int) (w : World) (h : Bytes w A n c) (hp : 0 ≤ p) (hk : 1 ≤ k) :
    Calls Try.prog 34 #[.slice A n c, .int .i64 p, .int .i64 k] w (AtPost k w) := by
  obtain ⟨p, rfl⟩ := Int.eq_ofNat_of_zero_le hp
  have hn := h.2.1
  have hn' := h.1
  by_cases hpn : p < n
  · obtain ⟨b, o, x, hA, hlt, h0, h1, hc⟩ := h.2.2 p hpn
    subst hA
    have hpi : (p : Int) < (n : Int) := by omega
    have hpi' : ¬ (n : Int) ≤ (p : Int) := by omega
    have hk' : ¬ k < 1 := by omega
    have hm0 := Int.emod_nonneg x (b := k) (by omega)
    have hm1 := Int.emod_lt_of_pos x (b := k) (by omega)
    clear h
    go_enter Try.func34, Try.ntmps34
    go_wp2
    go_ret
    exact ⟨x % k, hm0, hm1, rfl, rfl⟩
  · have hpi : (n : Int) ≤ (p : Int) := by omega
    clear h
    go_enter Try.func34, Try.ntmps34
    go_wp2
    go_ret
    exact ⟨0, by omega, by omega, rfl, rfl⟩
end Go.Proofs.Ytdkklkpegnblnaa
