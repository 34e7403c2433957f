/- Leather: give, stretch, tears (program and reference): what they compute for a valid leather, a direction and a force. -/
import Derived.Test.YtdkklkpegnblnaaLea
import Derived.Deep.RegionHeld3
namespace Go.Proofs.Ytdkklkpegnblnaa
open Go.RowKit

def giveZ (a c d : Int) : Int := a * (4 - d) + c * d
def stretchZ (a c d f : Int) : Int := giveZ a c d * f
theorem mul_bd {x y p q : Int} (h0 : 0 ≤ x) (h1 : x ≤ p) (h2 : 0 ≤ y) (h3 : y ≤ q) : 0 ≤ x * y ∧ x * y ≤ p * q :=
  ⟨Int.mul_nonneg h0 h2, Int.mul_le_mul h1 h3 h2 (by omega)⟩
theorem give_bd {a c d : Int} (h0 : 0 ≤ a) (h1 : a ≤ 100) (h2 : 0 ≤ c) (h3 : c ≤ 100) (h4 : 0 ≤ d) (h5 : d ≤ 4) :
    (0 ≤ a * (4 - d) ∧ a * (4 - d) ≤ 400) ∧ (0 ≤ c * d ∧ c * d ≤ 400) ∧ (0 ≤ giveZ a c d ∧ giveZ a c d ≤ 400) := by
  unfold giveZ
  rcases (by omega : d = 0 ∨ d = 1 ∨ d = 2 ∨ d = 3 ∨ d = 4) with rfl | rfl | rfl | rfl | rfl <;> omega
theorem stretch_bd {a c d f : Int} (h0 : 0 ≤ a) (h1 : a ≤ 100) (h2 : 0 ≤ c) (h3 : c ≤ 100) (h4 : 0 ≤ d) (h5 : d ≤ 4) (h6 : 0 ≤ f) (h7 : f ≤ 1000) :
    0 ≤ stretchZ a c d f ∧ stretchZ a c d f ≤ 400000 := by
  have hg := (give_bd h0 h1 h2 h3 h4 h5).2.2
  exact mul_bd (p := 400) (q := 1000) hg.1 hg.2 h6 h7

/-- What the walks know of a valid leather and a direction. -/
structure LOk (a c s m : Int) : Prop where
  a0 : 0 ≤ a
  a1 : a ≤ 100
  c0 : 0 ≤ c
  c1 : c ≤ 100
  s0 : 0 ≤ s
  s1 : s ≤ 1000
  m0 : 1 ≤ m
  m1 : m ≤ 500
theorem lok {a c s m : Int} (h : leatherB a c s m = true) : LOk a c s m := by
  have := leatherB_true h
  exact ⟨by omega, by omega, by omega, by omega, by omega, by omega, by omega, by omega⟩

set_option maxHeartbeats 400000 in
theorem give_any (a c s m d : Int) (w : World) (hl : LOk a c s m) (h4 : 0 ≤ d) (h5 : d ≤ 4) :
    Calls Try.prog 68 #[.agg #[.int .i64 a, .int .i64 c, .int .i64 s, .int .i64 m], .int .i64 d] w fun e w' => e = .returned (.int .i64 (giveZ a c d)) ∧ Below w.heap.size w w' := by
  obtain ⟨⟨g1, g2⟩, ⟨g3, g4⟩, _, _⟩ := give_bd hl.a0 hl.a1 hl.c0 hl.c1 h4 h5
  go_enter Try.func68, Try.ntmps68
  go_wp2
  go_returns
  exact ⟨rfl, (by go_grown)⟩

set_option maxHeartbeats 400000 in
theorem l12Give_any (a c s m d : Int) (w : World) (hl : LOk a c s m) (h4 : 0 ≤ d) (h5 : d ≤ 4) :
    Calls Try.prog 62 #[.agg #[.int .i64 a, .int .i64 c, .int .i64 s, .int .i64 m], .int .i64 d] w fun e w' => e = .returned (.int .i64 (giveZ a c d)) ∧ Below w.heap.size w w' := by
  obtain ⟨⟨g1, g2⟩, ⟨g3, g4⟩, _, _⟩ := give_bd hl.a0 hl.a1 hl.c0 hl.c1 h4 h5
  go_enter Try.func62, Try.ntmps62
  go_wp2
  go_returns
  exact ⟨rfl, (by go_grown)⟩

set_option maxHeartbeats 400000 in
theorem stretch_any (a c s m d f : Int) (w : World) (hl : LOk a c s m) (h4 : 0 ≤ d) (h5 : d ≤ 4) (h6 : 0 ≤ f) (h7 : f ≤ 1000) :
    Calls Try.prog 72 #[.agg #[.int .i64 a, .int .i64 c, .int .i64 s, .int .i64 m], .int .i64 d, .int .i64 f] w fun e w' => e = .returned (.int .i64 (stretchZ a c d f)) ∧ Below w.heap.size w w' := by
  have hs := stretch_bd hl.a0 hl.a1 hl.c0 hl.c1 h4 h5 h6 h7
  unfold stretchZ at hs ⊢
  obtain ⟨hs0, hs1⟩ := hs
  go_enter Try.func72, Try.ntmps72
  go_wp2_with (go_at_call 68; refine (give_any _ _ _ _ _ _ hl h4 h5).mono ?_; rintro e w' ⟨rfl, hb⟩)
  go_returns
  exact ⟨rfl, ((Below.refl _ _).alloc (Nat.le_refl _) _).trans (hb.mono (by simp))⟩

set_option maxHeartbeats 400000 in
theorem l12Stretch_any (a c s m d f : Int) (w : World) (hl : LOk a c s m) (h4 : 0 ≤ d) (h5 : d ≤ 4) (h6 : 0 ≤ f) (h7 : f ≤ 1000) :
    Calls Try.prog 70 #[.agg #[.int .i64 a, .int .i64 c, .int .i64 s, .int .i64 m], .int .i64 d, .int .i64 f] w fun e w' => e = .returned (.int .i64 (stretchZ a c d f)) ∧ Below w.heap.size w w' := by
  have hs := stretch_bd hl.a0 hl.a1 hl.c0 hl.c1 h4 h5 h6 h7
  unfold stretchZ at hs ⊢
  obtain ⟨hs0, hs1⟩ := hs
  go_enter Try.func70, Try.ntmps70
  go_wp2_with (go_at_call 62; refine (l12Give_any _ _ _ _ _ _ hl h4 h5).mono ?_; rintro e w' ⟨rfl, hb⟩)
  go_returns
  exact ⟨rfl, ((Below.refl _ _).alloc (Nat.le_refl _) _).trans (hb.mono (by simp))⟩

theorem keep4 {W w' : World} {g : Nat} {v0 v1 v2 v3 : Value} (h : W.cell? ⟨g, 0, none⟩ = some v0 ∧ W.cell? ⟨g, 1, none⟩ = some v1 ∧ W.cell? ⟨g, 2, none⟩ = some v2 ∧ W.cell? ⟨g, 3, none⟩ = some v3) (hb : Below W.heap.size W w') :
    w'.cell? ⟨g, 0, none⟩ = some v0 ∧ w'.cell? ⟨g, 1, none⟩ = some v1 ∧ w'.cell? ⟨g, 2, none⟩ = some v2 ∧ w'.cell? ⟨g, 3, none⟩ = some v3 := by
  have hl := World.block_lt_of_cell? _ _ h.1
  exact ⟨(hb.cell (p := ⟨g, 0, none⟩) hl).trans h.1, (hb.cell (p := ⟨g, 1, none⟩) hl).trans h.2.1, (hb.cell (p := ⟨g, 2, none⟩) hl).trans h.2.2.1, (hb.cell (p := ⟨g, 3, none⟩) hl).trans h.2.2.2⟩

def tearsB (a c m d f : Int) : Bool := decide (40 * m < stretchZ a c d f)

set_option maxHeartbeats 400000 in
theorem tears_any (a c s m d f : Int) (w : World) (hl : LOk a c s m) (h4 : 0 ≤ d) (h5 : d ≤ 4) (h6 : 0 ≤ f) (h7 : f ≤ 1000) :
    Calls Try.prog 65 #[.agg #[.int .i64 a, .int .i64 c, .int .i64 s, .int .i64 m], .int .i64 d, .int .i64 f] w fun e w' => e = .returned (.bool (tearsB a c m d f)) ∧ Below w.heap.size w w' := by
  obtain ⟨hs0, hs1⟩ := stretch_bd hl.a0 hl.a1 hl.c0 hl.c1 h4 h5 h6 h7
  have m0 := hl.m0
  have m1 := hl.m1
  go_enter Try.func65, Try.ntmps65
  go_wp2
  go_region_held3 (fun w' => w'.cell? ⟨w.heap.size, 0, none⟩ = some (.int .i64 a) ∧ w'.cell? ⟨w.heap.size, 1, none⟩ = some (.int .i64 c) ∧ w'.cell? ⟨w.heap.size, 2, none⟩ = some (.int .i64 s) ∧ w'.cell? ⟨w.heap.size, 3, none⟩ = some (.int .i64 m)) (first | exact keep4 (by assumption) hb | exact keep4 ⟨by assumption, by assumption, by assumption, by assumption⟩ hb | go_keep)
    (first | (go_at_call 72; refine (stretch_any _ _ _ _ _ _ _ hl h4 h5 h6 h7).mono ?_; rintro e w' ⟨rfl, hb⟩))
  go_wp2
  go_returns
  exact ⟨ret_b (by rw [IntWalk.i64_in _ (by omega)]; rfl), ((Below.refl w.heap.size w).alloc (Nat.le_refl _) _).drew.trans (hb.mono (by simp))⟩

theorem isDirection_any (d : Int) (w : World) : Calls Try.prog 64 #[.int .i64 d] w fun e w' => e = .returned (.bool (inB d 0 4)) ∧ w = w' := by
  go_enter Try.func64, Try.ntmps64
  go_wp2_with (go_at_call 53; refine (within_any _ _ _ _).mono ?_; rintro e w' ⟨rfl, rfl⟩)
  go_returns
  exact ⟨rfl, rfl⟩

theorem isForce_any (d : Int) (w : World) : Calls Try.prog 71 #[.int .i64 d] w fun e w' => e = .returned (.bool (inB d 0 1000)) ∧ w = w' := by
  go_enter Try.func71, Try.ntmps71
  go_wp2_with (go_at_call 53; refine (within_any _ _ _ _).mono ?_; rintro e w' ⟨rfl, rfl⟩)
  go_returns
  exact ⟨rfl, rfl⟩

theorem isLength_any (d : Int) (w : World) : Calls Try.prog 77 #[.int .i64 d] w fun e w' => e = .returned (.bool (inB d 1 10000)) ∧ w = w' := by
  go_enter Try.func77, Try.ntmps77
  go_wp2_with (go_at_call 53; refine (within_any _ _ _ _).mono ?_; rintro e w' ⟨rfl, rfl⟩)
  go_returns
  exact ⟨rfl, rfl⟩

theorem l12Direction_any (d : Int) (w : World) : Calls Try.prog 61 #[.int .i64 d] w fun e w' => e = .returned (.bool (inB d 0 4)) ∧ w = w' := by
  go_enter Try.func61, Try.ntmps61
  go_wp2_with (go_at_call 54; refine (l00In_any _ _ _ _).mono ?_; rintro e w' ⟨rfl, rfl⟩)
  go_returns
  exact ⟨rfl, rfl⟩

theorem l12Force_any (d : Int) (w : World) : Calls Try.prog 69 #[.int .i64 d] w fun e w' => e = .returned (.bool (inB d 0 1000)) ∧ w = w' := by
  go_enter Try.func69, Try.ntmps69
  go_wp2_with (go_at_call 54; refine (l00In_any _ _ _ _).mono ?_; rintro e w' ⟨rfl, rfl⟩)
  go_returns
  exact ⟨rfl, rfl⟩

theorem l12Length_any (d : Int) (w : World) : Calls Try.prog 80 #[.int .i64 d] w fun e w' => e = .returned (.bool (inB d 1 10000)) ∧ w = w' := by
  go_enter Try.func80, Try.ntmps80
  go_wp2_with (go_at_call 54; refine (l00In_any _ _ _ _).mono ?_; rintro e w' ⟨rfl, rfl⟩)
  go_returns
  exact ⟨rfl, rfl⟩

/-- The code of a leather, a direction, a length and a force. -/
def codeZ (a c s m d len f : Int) : Int :=
  if leatherB a c s m = false then 1 else if (inB d 0 4 && inB len 1 10000 && inB f 0 1000) = false then 2 else if tearsB a c m d f = true then 10 else 0

set_option maxHeartbeats 800000 in
theorem leatherCode_any (a c s m d len f : Int) (w : World) :
    Calls Try.prog 75 #[.agg #[.int .i64 a, .int .i64 c, .int .i64 s, .int .i64 m], .int .i64 d, .int .i64 len, .int .i64 f] w fun e w' => e = .returned (.int .i64 (codeZ a c s m d len f)) ∧ Below w.heap.size w w' := by
  have B0 := Box.new w #[.int .i64 a, .int .i64 c, .int .i64 s, .int .i64 m] 25
  have b0 : Below w.heap.size w (w.alloc (.cells #[.int .i64 a, .int .i64 c, .int .i64 s, .int .i64 m] 25)) := (by go_grown)
  cases hl : leatherB a c s m with
  | false =>
    have hz : codeZ a c s m d len f = 1 := by unfold codeZ; rw [if_pos hl]
    have HZ := Lib.hid hz
    clear hz
    go_enter Try.func75, Try.ntmps75
    go_wp2_with fail
    refine (implValidLeather_any _ _ _ _ _).mono ?_
    rintro e w1 ⟨rfl, hb1⟩
    have b1 := b0.trans (hb1.mono b0.size)
    go_wp2_with fail
    go_returns
    exact ⟨ret_i HZ.out.symm, b1⟩
  | true =>
    have hk := lok hl
    go_enter Try.func75, Try.ntmps75
    go_wp2_with fail
    refine (implValidLeather_any _ _ _ _ _).mono ?_
    rintro e w1 ⟨rfl, hb1⟩
    have B1 := B0.below hb1
    have b1 := b0.trans (hb1.mono b0.size)
    have c1 := B1.cell
    clear hb1 b0 B0
    cases hr : (inB d 0 4 && inB len 1 10000 && inB f 0 1000) with
    | false =>
      have hz : codeZ a c s m d len f = 2 := by unfold codeZ; rw [hl, if_neg (by simp), if_pos hr]
      have HZ := Lib.hid hz
      clear hz
      cases h1 : inB d 0 4 <;> cases h2 : inB len 1 10000 <;> cases h3 : inB f 0 1000 <;> simp [h1, h2, h3] at hr
      all_goals
        go_wp2_with (first | (go_at_call 64; refine (isDirection_any _ _).mono ?_; rintro e w' ⟨rfl, rfl⟩) | (go_at_call 77; refine (isLength_any _ _).mono ?_; rintro e w' ⟨rfl, rfl⟩) | (go_at_call 71; refine (isForce_any _ _).mono ?_; rintro e w' ⟨rfl, rfl⟩))
        go_returns
        exact ⟨ret_i HZ.out.symm, b1⟩
    | true =>
      simp only [Bool.and_eq_true] at hr
      obtain ⟨⟨h1, h2⟩, h3⟩ := hr
      have hd := inB_true h1
      have hf := inB_true h3
      have hz : codeZ a c s m d len f = if tearsB a c m d f = true then 10 else 0 := by unfold codeZ; rw [hl, if_neg (by simp), h1, h2, h3, if_neg (by simp)]
      have HZ := Lib.hid hz
      clear hz
      cases ht : tearsB a c m d f
      all_goals
        go_wp2_with (first | (go_at_call 64; refine (isDirection_any _ _).mono ?_; rintro e w' ⟨rfl, rfl⟩) | (go_at_call 77; refine (isLength_any _ _).mono ?_; rintro e w' ⟨rfl, rfl⟩) | (go_at_call 71; refine (isForce_any _ _).mono ?_; rintro e w' ⟨rfl, rfl⟩) | (go_at_call 65; refine (tears_any _ _ _ _ _ _ _ hk hd.1 hd.2 hf.1 hf.2).mono ?_; rintro e w' ⟨rfl, hb2⟩))
        go_returns
        exact ⟨ret_i (by rw [HZ.out, ht]; rfl), b1.trans (hb2.mono b1.size)⟩

set_option maxHeartbeats 800000 in
theorem l12Code_any (a c s m d len f : Int) (w : World) :
    Calls Try.prog 78 #[.agg #[.int .i64 a, .int .i64 c, .int .i64 s, .int .i64 m], .int .i64 d, .int .i64 len, .int .i64 f] w fun e w' => e = .returned (.int .i64 (codeZ a c s m d len f)) ∧ Below w.heap.size w w' := by
  have B0 := Box.new w #[.int .i64 a, .int .i64 c, .int .i64 s, .int .i64 m] 25
  have b0 : Below w.heap.size w (w.alloc (.cells #[.int .i64 a, .int .i64 c, .int .i64 s, .int .i64 m] 25)) := (by go_grown)
  cases hl : leatherB a c s m with
  | false =>
    have hz : codeZ a c s m d len f = 1 := by unfold codeZ; rw [if_pos hl]
    have HZ := Lib.hid hz
    clear hz
    go_enter Try.func78, Try.ntmps78
    go_wp2_with fail
    refine (l12Ok_any _ _ _ _ _).mono ?_
    rintro e w1 ⟨rfl, hb1⟩
    have b1 := b0.trans (hb1.mono b0.size)
    go_wp2_with fail
    go_returns
    exact ⟨ret_i HZ.out.symm, b1⟩
  | true =>
    have hk := lok hl
    go_enter Try.func78, Try.ntmps78
    go_wp2_with fail
    refine (l12Ok_any _ _ _ _ _).mono ?_
    rintro e w1 ⟨rfl, hb1⟩
    have B1 := B0.below hb1
    have b1 := b0.trans (hb1.mono b0.size)
    have c1 := B1.cell
    clear hb1 b0 B0
    cases hr : (inB d 0 4 && inB len 1 10000 && inB f 0 1000) with
    | false =>
      have hz : codeZ a c s m d len f = 2 := by unfold codeZ; rw [hl, if_neg (by simp), if_pos hr]
      have HZ := Lib.hid hz
      clear hz
      cases h1 : inB d 0 4 <;> cases h2 : inB len 1 10000 <;> cases h3 : inB f 0 1000 <;> simp [h1, h2, h3] at hr
      all_goals
        go_wp2_with (first | (go_at_call 61; refine (l12Direction_any _ _).mono ?_; rintro e w' ⟨rfl, rfl⟩) | (go_at_call 80; refine (l12Length_any _ _).mono ?_; rintro e w' ⟨rfl, rfl⟩) | (go_at_call 69; refine (l12Force_any _ _).mono ?_; rintro e w' ⟨rfl, rfl⟩))
        go_returns
        exact ⟨ret_i HZ.out.symm, b1⟩
    | true =>
      simp only [Bool.and_eq_true] at hr
      obtain ⟨⟨h1, h2⟩, h3⟩ := hr
      have hd := inB_true h1
      have hf := inB_true h3
      have hz : codeZ a c s m d len f = if tearsB a c m d f = true then 10 else 0 := by unfold codeZ; rw [hl, if_neg (by simp), h1, h2, h3, if_neg (by simp)]
      have HZ := Lib.hid hz
      clear hz
      obtain ⟨hs0, hs1⟩ := stretch_bd hk.a0 hk.a1 hk.c0 hk.c1 hd.1 hd.2 hf.1 hf.2
      have m0 := hk.m0
      have m1 := hk.m1
      go_wp2_with (first | (go_at_call 61; refine (l12Direction_any _ _).mono ?_; rintro e w' ⟨rfl, rfl⟩) | (go_at_call 80; refine (l12Length_any _ _).mono ?_; rintro e w' ⟨rfl, rfl⟩) | (go_at_call 69; refine (l12Force_any _ _).mono ?_; rintro e w' ⟨rfl, rfl⟩))
      go_region_held3 (fun w' => w'.cell? ⟨w.heap.size, 0, none⟩ = some (.int .i64 a) ∧ w'.cell? ⟨w.heap.size, 1, none⟩ = some (.int .i64 c) ∧ w'.cell? ⟨w.heap.size, 2, none⟩ = some (.int .i64 s) ∧ w'.cell? ⟨w.heap.size, 3, none⟩ = some (.int .i64 m)) (first | exact keep4 (by assumption) hb | exact keep4 ⟨by assumption, by assumption, by assumption, by assumption⟩ hb | go_keep)
        (first | (go_at_call 70; refine (l12Stretch_any _ _ _ _ _ _ _ hk hd.1 hd.2 hf.1 hf.2).mono ?_; rintro e w' ⟨rfl, hb⟩))
      rw [IntWalk.i64_in (40 * m) (by omega)]
      have b2 : Below w.heap.size w w' := b1.drew.trans (hb.mono b1.size)
      by_cases ht : 40 * m < stretchZ a c d f
      all_goals
        go_wp2
        go_returns
        exact ⟨ret_i (by rw [HZ.out]; simp [tearsB]; omega), b2⟩
end Go.Proofs.Ytdkklkpegnblnaa
