/- StretchOf, LengthUnder, LengthAfter, CutLength (program and reference). -/
import Derived.Test.YtdkklkpegnblnaaLea2
import Derived.Test.YtdkklkpegnblnaaFrac
namespace Go.Proofs.Ytdkklkpegnblnaa
open Go.RowKit

theorem code_ok {a c s m d len f : Int} (h : codeZ a c s m d len f = 0) :
    LOk a c s m ∧ (0 ≤ d ∧ d ≤ 4) ∧ (1 ≤ len ∧ len ≤ 10000) ∧ (0 ≤ f ∧ f ≤ 1000) ∧ stretchZ a c d f ≤ 40 * m := by
  unfold codeZ at h
  split at h
  · omega
  · rename_i h1
    split at h
    · omega
    · rename_i h2
      split at h
      · omega
      · rename_i h3
        simp only [Bool.not_eq_false, Bool.and_eq_true] at h1 h2
        refine ⟨lok h1, inB_true h2.1.1, inB_true h2.1.2, inB_true h2.2, ?_⟩
        unfold tearsB at h3
        simp only [decide_eq_true_eq] at h3
        omega

/-- What the kept length comes from. -/
def afterZ (a c s d len f : Int) : Int := roundZ (len * (40000000 + stretchZ a c d f * s)) 40000000
theorem after_bd {a c s m d len f : Int} (hk : LOk a c s m) (hd : 0 ≤ d ∧ d ≤ 4) (hlen : 1 ≤ len ∧ len ≤ 10000) (hf : 0 ≤ f ∧ f ≤ 1000) :
    (0 ≤ stretchZ a c d f * s ∧ stretchZ a c d f * s ≤ 400000000) ∧ (0 ≤ len * (40000000 + stretchZ a c d f * s) ∧ len * (40000000 + stretchZ a c d f * s) ≤ 4400000000000) ∧ (0 ≤ stretchZ a c d f ∧ stretchZ a c d f ≤ 400000) := by
  have hs := stretch_bd hk.a0 hk.a1 hk.c0 hk.c1 hd.1 hd.2 hf.1 hf.2
  have h1 := mul_bd (p := 400000) (q := 1000) hs.1 hs.2 hk.s0 hk.s1
  have h2 := mul_bd (x := len) (y := 40000000 + stretchZ a c d f * s) (p := 10000) (q := 440000000) (by omega) (by omega) (by omega) (by omega)
  exact ⟨⟨h1.1, by omega⟩, ⟨h2.1, by omega⟩, hs⟩
theorem under_bd {x len : Int} (hs : 0 ≤ x ∧ x ≤ 400000) (hlen : 1 ≤ len ∧ len ≤ 10000) : 0 ≤ len * (40000 + x) ∧ len * (40000 + x) ≤ 4400000000 := by
  have h2 := mul_bd (x := len) (y := 40000 + x) (p := 10000) (q := 440000) (by omega) (by omega) (by omega) (by omega)
  omega

def stretchOfN (a c s m d f : Int) : Int := if codeZ a c s m d 1 f = 0 then lowN (stretchZ a c d f) 40 else 0
def stretchOfD (a c s m d f : Int) : Int := if codeZ a c s m d 1 f = 0 then lowD (stretchZ a c d f) 40 else 0
def underN (a c s m d len f : Int) : Int := if codeZ a c s m d len f = 0 then lowN (len * (40000 + stretchZ a c d f)) 40000 else 0
def underD (a c s m d len f : Int) : Int := if codeZ a c s m d len f = 0 then lowD (len * (40000 + stretchZ a c d f)) 40000 else 0
def lafterZ (a c s m d len f : Int) : Int := if codeZ a c s m d len f = 0 then afterZ a c s d len f else 0
def cutlenZ (a c s m d len f : Int) : Int × Int :=
  if codeZ a c s m d len f = 0 then (if len * 40000 / (40000 + stretchZ a c d f) < 1 then (0, 3) else (len * 40000 / (40000 + stretchZ a c d f), 0)) else (0, codeZ a c s m d len f)

set_option maxHeartbeats 1000000 in
theorem implStretchOf_any (a c s m d f : Int) (w : World) :
    Calls Try.prog 35 #[.agg #[.int .i64 a, .int .i64 c, .int .i64 s, .int .i64 m], .int .i64 d, .int .i64 f] w fun e w' => e = .returned (.tuple #[.agg #[.int .i64 (stretchOfN a c s m d f), .int .i64 (stretchOfD a c s m d f)], .int .i64 (codeZ a c s m d 1 f)]) ∧ Below w.heap.size w w' := by
  have b0 : Below w.heap.size w ((w.alloc (.cells #[.int .i64 a, .int .i64 c, .int .i64 s, .int .i64 m] 25)).alloc (.cells #[.int .i64 0, .int .i64 0] 47)) := (by go_grown)
  have B0 := (Box.new w #[.int .i64 a, .int .i64 c, .int .i64 s, .int .i64 m] 25).alloc (.cells #[.int .i64 0, .int .i64 0] 47)
  have R0 : Box ((w.alloc (.cells #[.int .i64 a, .int .i64 c, .int .i64 s, .int .i64 m] 25)).alloc (.cells #[.int .i64 0, .int .i64 0] 47)) (w.heap.size + 1) #[.int .i64 0, .int .i64 0] := by
    have := Box.new (w.alloc (.cells #[.int .i64 a, .int .i64 c, .int .i64 s, .int .i64 m] 25)) #[.int .i64 0, .int .i64 0] 47
    simpa using this
  have hcall := fun W => leatherCode_any a c s m d 1 f W
  by_cases hz : codeZ a c s m d 1 f = 0
  · obtain ⟨hk, hd, hlen, hf, _⟩ := code_ok hz
    have hs := stretch_bd hk.a0 hk.a1 hk.c0 hk.c1 hd.1 hd.2 hf.1 hf.2
    rw [hz] at hcall ⊢
    have e1 : stretchOfN a c s m d f = lowN (stretchZ a c d f) 40 := by unfold stretchOfN; rw [if_pos hz]
    have e2 : stretchOfD a c s m d f = lowD (stretchZ a c d f) 40 := by unfold stretchOfD; rw [if_pos hz]
    rw [e1, e2]
    clear e1 e2 hz
    have HC := Lib.hid hcall
    clear hcall
    go_enter Try.func35, Try.ntmps35
    go_wp2_with fail
    refine (HC.out _).mono ?_
    rintro e w1 ⟨rfl, hb1⟩
    have B1 := B0.below hb1
    have R1 := R0.below hb1
    have b1 := b0.trans (hb1.mono b0.size)
    have c1 := B1.cell
    clear hb1 B0 R0 b0 HC
    go_wp2_with fail
    refine (stretch_any _ _ _ _ _ _ _ hk hd.1 hd.2 hf.1 hf.2).mono ?_
    rintro e w2 ⟨rfl, hb2⟩
    have R2 := R1.below hb2
    have b2 := b1.trans (hb2.mono b1.size)
    clear hb2 B1 R1 b1 c1
    go_wp2_with fail
    refine (lowest_any _ _ _ (by omega) (by omega) (by omega) (by omega)).mono ?_
    rintro e w3 ⟨rfl, hb3⟩
    have R3 := R2.below hb3
    have b3 := b2.trans (hb3.mono b2.size)
    have c30 : w3.cell? ⟨w.heap.size + 1, 0, none⟩ = some (.int .i64 0) := R3.cell 0
    have c31 : w3.cell? ⟨w.heap.size + 1, 1, none⟩ = some (.int .i64 0) := R3.cell 1
    have f3 := R3.froz
    clear hb3 R2 b2
    go_wp2_with fail
    refine bodyPost_ret (v := .tuple #[.agg #[.int .i64 (lowN (stretchZ a c d f) 40), .int .i64 (lowD (stretchZ a c d f) 40)], .int .i64 0]) (by simp [results, Try.results35, go_sem, c30, c31]) rfl ⟨rfl, ?_⟩
    exact (b3.setCell (p := ⟨w.heap.size + 1, 0, none⟩) (by simp) _).setCell (p := ⟨w.heap.size + 1, 1, none⟩) (by simp) _
  · have hne : (codeZ a c s m d 1 f != 0) = true := by simpa using hz
    have e1 : stretchOfN a c s m d f = 0 := by unfold stretchOfN; rw [if_neg hz]
    have e2 : stretchOfD a c s m d f = 0 := by unfold stretchOfD; rw [if_neg hz]
    rw [e1, e2]
    clear e1 e2 hz
    generalize codeZ a c s m d 1 f = z at *
    have HC := Lib.hid hcall
    clear hcall
    go_enter Try.func35, Try.ntmps35
    go_wp2_with fail
    refine (HC.out _).mono ?_
    rintro e w1 ⟨rfl, hb1⟩
    have R1 := R0.below hb1
    have b1 := b0.trans (hb1.mono b0.size)
    have c10 : w1.cell? ⟨w.heap.size + 1, 0, none⟩ = some (.int .i64 0) := R1.cell 0
    have c11 : w1.cell? ⟨w.heap.size + 1, 1, none⟩ = some (.int .i64 0) := R1.cell 1
    have f1 := R1.froz
    clear hb1 R0 B0 b0 HC
    go_wp2_with fail
    refine bodyPost_ret (v := .tuple #[.agg #[.int .i64 0, .int .i64 0], .int .i64 z]) (by simp [results, Try.results35, go_sem, c10, c11]) rfl ⟨rfl, ?_⟩
    exact (b1.setCell (p := ⟨w.heap.size + 1, 0, none⟩) (by simp) _).setCell (p := ⟨w.heap.size + 1, 1, none⟩) (by simp) _

set_option maxHeartbeats 1000000 in
theorem implLengthUnder_any (a c s m d len f : Int) (w : World) :
    Calls Try.prog 36 #[.agg #[.int .i64 a, .int .i64 c, .int .i64 s, .int .i64 m], .int .i64 d, .int .i64 len, .int .i64 f] w fun e w' => e = .returned (.tuple #[.agg #[.int .i64 (underN a c s m d len f), .int .i64 (underD a c s m d len f)], .int .i64 (codeZ a c s m d len f)]) ∧ Below w.heap.size w w' := by
  have b0 : Below w.heap.size w ((w.alloc (.cells #[.int .i64 a, .int .i64 c, .int .i64 s, .int .i64 m] 25)).alloc (.cells #[.int .i64 0, .int .i64 0] 47)) := (by go_grown)
  have B0 := (Box.new w #[.int .i64 a, .int .i64 c, .int .i64 s, .int .i64 m] 25).alloc (.cells #[.int .i64 0, .int .i64 0] 47)
  have R0 : Box ((w.alloc (.cells #[.int .i64 a, .int .i64 c, .int .i64 s, .int .i64 m] 25)).alloc (.cells #[.int .i64 0, .int .i64 0] 47)) (w.heap.size + 1) #[.int .i64 0, .int .i64 0] := by
    have := Box.new (w.alloc (.cells #[.int .i64 a, .int .i64 c, .int .i64 s, .int .i64 m] 25)) #[.int .i64 0, .int .i64 0] 47
    simpa using this
  have hcall := fun W => leatherCode_any a c s m d len f W
  by_cases hz : codeZ a c s m d len f = 0
  · obtain ⟨hk, hd, hlen, hf, _⟩ := code_ok hz
    have hs := stretch_bd hk.a0 hk.a1 hk.c0 hk.c1 hd.1 hd.2 hf.1 hf.2
    have hu := under_bd hs hlen
    rw [hz] at hcall ⊢
    have e1 : underN a c s m d len f = lowN (len * (40000 + stretchZ a c d f)) 40000 := by unfold underN; rw [if_pos hz]
    have e2 : underD a c s m d len f = lowD (len * (40000 + stretchZ a c d f)) 40000 := by unfold underD; rw [if_pos hz]
    rw [e1, e2]
    clear e1 e2 hz
    have HC := Lib.hid hcall
    clear hcall
    go_enter Try.func36, Try.ntmps36
    go_wp2_with fail
    refine (HC.out _).mono ?_
    rintro e w1 ⟨rfl, hb1⟩
    have B1 := B0.below hb1
    have R1 := R0.below hb1
    have b1 := b0.trans (hb1.mono b0.size)
    have c1 := B1.cell
    clear hb1 B0 R0 b0 HC
    go_wp2_with fail
    refine (stretch_any _ _ _ _ _ _ _ hk hd.1 hd.2 hf.1 hf.2).mono ?_
    rintro e w2 ⟨rfl, hb2⟩
    have R2 := R1.below hb2
    have b2 := b1.trans (hb2.mono b1.size)
    clear hb2 B1 R1 b1 c1
    go_wp2_with fail
    refine (lowest_any _ _ _ (by omega) (by omega) (by omega) (by omega)).mono ?_
    rintro e w3 ⟨rfl, hb3⟩
    have R3 := R2.below hb3
    have b3 := b2.trans (hb3.mono b2.size)
    have c30 : w3.cell? ⟨w.heap.size + 1, 0, none⟩ = some (.int .i64 0) := R3.cell 0
    have c31 : w3.cell? ⟨w.heap.size + 1, 1, none⟩ = some (.int .i64 0) := R3.cell 1
    have f3 := R3.froz
    clear hb3 R2 b2
    go_wp2_with fail
    refine bodyPost_ret (v := .tuple #[.agg #[.int .i64 (lowN (len * (40000 + stretchZ a c d f)) 40000), .int .i64 (lowD (len * (40000 + stretchZ a c d f)) 40000)], .int .i64 0]) (by simp [results, Try.results36, go_sem, c30, c31]) rfl ⟨rfl, ?_⟩
    exact (b3.setCell (p := ⟨w.heap.size + 1, 0, none⟩) (by simp) _).setCell (p := ⟨w.heap.size + 1, 1, none⟩) (by simp) _
  · have hne : (codeZ a c s m d len f != 0) = true := by simpa using hz
    have e1 : underN a c s m d len f = 0 := by unfold underN; rw [if_neg hz]
    have e2 : underD a c s m d len f = 0 := by unfold underD; rw [if_neg hz]
    rw [e1, e2]
    clear e1 e2 hz
    generalize codeZ a c s m d len f = z at *
    have HC := Lib.hid hcall
    clear hcall
    go_enter Try.func36, Try.ntmps36
    go_wp2_with fail
    refine (HC.out _).mono ?_
    rintro e w1 ⟨rfl, hb1⟩
    have R1 := R0.below hb1
    have b1 := b0.trans (hb1.mono b0.size)
    have c10 : w1.cell? ⟨w.heap.size + 1, 0, none⟩ = some (.int .i64 0) := R1.cell 0
    have c11 : w1.cell? ⟨w.heap.size + 1, 1, none⟩ = some (.int .i64 0) := R1.cell 1
    have f1 := R1.froz
    clear hb1 R0 B0 b0 HC
    go_wp2_with fail
    refine bodyPost_ret (v := .tuple #[.agg #[.int .i64 0, .int .i64 0], .int .i64 z]) (by simp [results, Try.results36, go_sem, c10, c11]) rfl ⟨rfl, ?_⟩
    exact (b1.setCell (p := ⟨w.heap.size + 1, 0, none⟩) (by simp) _).setCell (p := ⟨w.heap.size + 1, 1, none⟩) (by simp) _

set_option maxHeartbeats 1000000 in
theorem implafter_any (a c s m d len f : Int) (w : World) (hk : LOk a c s m) (hd : 0 ≤ d ∧ d ≤ 4) (hlen : 1 ≤ len ∧ len ≤ 10000) (hf : 0 ≤ f ∧ f ≤ 1000) :
    Calls Try.prog 82 #[.agg #[.int .i64 a, .int .i64 c, .int .i64 s, .int .i64 m], .int .i64 d, .int .i64 len, .int .i64 f] w fun e w' => e = .returned (.int .i64 (afterZ a c s d len f)) ∧ Below w.heap.size w w' := by
  obtain ⟨⟨h1, h2⟩, ⟨h3, h4⟩, h5, h6⟩ := after_bd hk hd hlen hf
  have e0 : afterZ a c s d len f = roundZ (len * (40000000 + stretchZ a c d f * s)) 40000000 := rfl
  rw [e0]
  clear e0
  go_enter Try.func82, Try.ntmps82
  go_wp2
  go_region_held3 (fun w' => w'.cell? ⟨w.heap.size, 0, none⟩ = some (.int .i64 a) ∧ w'.cell? ⟨w.heap.size, 1, none⟩ = some (.int .i64 c) ∧ w'.cell? ⟨w.heap.size, 2, none⟩ = some (.int .i64 s) ∧ w'.cell? ⟨w.heap.size, 3, none⟩ = some (.int .i64 m)) (first | exact keep4 (by assumption) hb | exact keep4 ⟨by assumption, by assumption, by assumption, by assumption⟩ hb | go_keep)
    (first | (go_at_call 72; refine (stretch_any _ _ _ _ _ _ _ hk hd.1 hd.2 hf.1 hf.2).mono ?_; rintro e w' ⟨rfl, hb⟩) | (go_at_call 87; rw [IntWalk.i64_in (stretchZ a c d f * s) (by omega), IntWalk.i64_in (40000000 + stretchZ a c d f * s) (by omega), IntWalk.i64_in (len * (40000000 + stretchZ a c d f * s)) (by omega)]; refine (rounded_any _ _ _ (by omega) (by omega) (by omega) (by omega)).mono ?_; rintro e w'' ⟨rfl, rfl⟩))
  go_wp2
  go_returns
  exact ⟨rfl, ((Below.refl w.heap.size w).alloc (Nat.le_refl _) _).drew.trans (hb.mono (by simp))⟩

set_option maxHeartbeats 1000000 in
theorem implLengthAfter_any (a c s m d len f : Int) (w : World) :
    Calls Try.prog 43 #[.agg #[.int .i64 a, .int .i64 c, .int .i64 s, .int .i64 m], .int .i64 d, .int .i64 len, .int .i64 f] w fun e w' => e = .returned (.tuple #[.int .i64 (lafterZ a c s m d len f), .int .i64 (codeZ a c s m d len f)]) ∧ Below w.heap.size w w' := by
  have b0 : Below w.heap.size w (w.alloc (.cells #[.int .i64 a, .int .i64 c, .int .i64 s, .int .i64 m] 25)) := (by go_grown)
  have B0 := Box.new w #[.int .i64 a, .int .i64 c, .int .i64 s, .int .i64 m] 25
  have hcall := fun W => leatherCode_any a c s m d len f W
  by_cases hz : codeZ a c s m d len f = 0
  · obtain ⟨hk, hd, hlen, hf, _⟩ := code_ok hz
    rw [hz] at hcall ⊢
    have e1 : lafterZ a c s m d len f = afterZ a c s d len f := by unfold lafterZ; rw [if_pos hz]
    rw [e1]
    clear e1 hz
    have HC := Lib.hid hcall
    clear hcall
    go_enter Try.func43, Try.ntmps43
    go_wp2_with fail
    refine (HC.out _).mono ?_
    rintro e w1 ⟨rfl, hb1⟩
    have B1 := B0.below hb1
    have b1 := b0.trans (hb1.mono b0.size)
    have c1 := B1.cell
    clear hb1 B0 b0 HC
    go_wp2_with fail
    refine (implafter_any _ _ _ _ _ _ _ _ hk hd hlen hf).mono ?_
    rintro e w2 ⟨rfl, hb2⟩
    have b2 := b1.trans (hb2.mono b1.size)
    go_wp2_with fail
    go_ret2
    exact ⟨rfl, b2⟩
  · have hne : (codeZ a c s m d len f != 0) = true := by simpa using hz
    have e1 : lafterZ a c s m d len f = 0 := by unfold lafterZ; rw [if_neg hz]
    rw [e1]
    clear e1 hz
    generalize codeZ a c s m d len f = z at *
    have HC := Lib.hid hcall
    clear hcall
    go_enter Try.func43, Try.ntmps43
    go_wp2_with fail
    refine (HC.out _).mono ?_
    rintro e w1 ⟨rfl, hb1⟩
    have b1 := b0.trans (hb1.mono b0.size)
    go_wp2_with fail
    go_ret2
    exact ⟨rfl, b1⟩

set_option maxHeartbeats 1000000 in
theorem implCutLength_any (a c s m d len f : Int) (w : World) :
    Calls Try.prog 39 #[.agg #[.int .i64 a, .int .i64 c, .int .i64 s, .int .i64 m], .int .i64 d, .int .i64 len, .int .i64 f] w fun e w' => e = .returned (.tuple #[.int .i64 (cutlenZ a c s m d len f).1, .int .i64 (cutlenZ a c s m d len f).2]) ∧ Below w.heap.size w w' := by
  have b0 : Below w.heap.size w (w.alloc (.cells #[.int .i64 a, .int .i64 c, .int .i64 s, .int .i64 m] 25)) := (by go_grown)
  have B0 := Box.new w #[.int .i64 a, .int .i64 c, .int .i64 s, .int .i64 m] 25
  have hcall := fun W => leatherCode_any a c s m d len f W
  by_cases hz : codeZ a c s m d len f = 0
  · obtain ⟨hk, hd, hlen, hf, _⟩ := code_ok hz
    have hs := stretch_bd hk.a0 hk.a1 hk.c0 hk.c1 hd.1 hd.2 hf.1 hf.2
    rw [hz] at hcall
    have e1 : cutlenZ a c s m d len f = if len * 40000 / (40000 + stretchZ a c d f) < 1 then (0, 3) else (len * 40000 / (40000 + stretchZ a c d f), 0) := by unfold cutlenZ; rw [if_pos hz]
    rw [e1]
    clear e1 hz
    have HC := Lib.hid hcall
    clear hcall
    have hcs := fun W => stretch_any a c s m d f W hk hd.1 hd.2 hf.1 hf.2
    generalize stretchZ a c d f = x at *
    have HS := Lib.hid hcs
    clear hcs
    obtain ⟨hs0, hs1⟩ := hs
    obtain ⟨hl0, hl1⟩ := hlen
    have hmul : 40000 * len = len * 40000 := Int.mul_comm _ _
    by_cases hq : len * 40000 / (40000 + x) < 1
    · rw [if_pos hq]
      go_enter Try.func39, Try.ntmps39
      go_wp2_with fail
      refine (HC.out _).mono ?_
      rintro e w1 ⟨rfl, hb1⟩
      have B1 := B0.below hb1
      have b1 := b0.trans (hb1.mono b0.size)
      have c1 := B1.cell
      clear hb1 B0 b0 HC
      go_wp2_with fail
      refine (HS.out _).mono ?_
      rintro e w2 ⟨rfl, hb2⟩
      have b2 := b1.trans (hb2.mono b1.size)
      go_wp2_with fail
      go_ret2
      exact ⟨rfl, b2⟩
    · rw [if_neg hq]
      go_enter Try.func39, Try.ntmps39
      go_wp2_with fail
      refine (HC.out _).mono ?_
      rintro e w1 ⟨rfl, hb1⟩
      have B1 := B0.below hb1
      have b1 := b0.trans (hb1.mono b0.size)
      have c1 := B1.cell
      clear hb1 B0 b0 HC
      go_wp2_with fail
      refine (HS.out _).mono ?_
      rintro e w2 ⟨rfl, hb2⟩
      have b2 := b1.trans (hb2.mono b1.size)
      go_wp2_with fail
      go_ret2
      exact ⟨rfl, b2⟩
  · have hne : (codeZ a c s m d len f != 0) = true := by simpa using hz
    have e1 : cutlenZ a c s m d len f = (0, codeZ a c s m d len f) := by unfold cutlenZ; rw [if_neg hz]
    rw [e1]
    clear e1 hz
    generalize codeZ a c s m d len f = z at *
    have HC := Lib.hid hcall
    clear hcall
    go_enter Try.func39, Try.ntmps39
    go_wp2_with fail
    refine (HC.out _).mono ?_
    rintro e w1 ⟨rfl, hb1⟩
    have b1 := b0.trans (hb1.mono b0.size)
    go_wp2_with fail
    go_ret2
    exact ⟨rfl, b1⟩

set_option maxHeartbeats 1000000 in
theorem specStretchOf_any (a c s m d f : Int) (w : World) :
    Calls Try.prog 45 #[.agg #[.int .i64 a, .int .i64 c, .int .i64 s, .int .i64 m], .int .i64 d, .int .i64 f] w fun e w' => e = .returned (.tuple #[.agg #[.int .i64 (stretchOfN a c s m d f), .int .i64 (stretchOfD a c s m d f)], .int .i64 (codeZ a c s m d 1 f)]) ∧ Below w.heap.size w w' := by
  have b0 : Below w.heap.size w ((w.alloc (.cells #[.int .i64 a, .int .i64 c, .int .i64 s, .int .i64 m] 25)).alloc (.cells #[.int .i64 0, .int .i64 0] 47)) := (by go_grown)
  have B0 := (Box.new w #[.int .i64 a, .int .i64 c, .int .i64 s, .int .i64 m] 25).alloc (.cells #[.int .i64 0, .int .i64 0] 47)
  have R0 : Box ((w.alloc (.cells #[.int .i64 a, .int .i64 c, .int .i64 s, .int .i64 m] 25)).alloc (.cells #[.int .i64 0, .int .i64 0] 47)) (w.heap.size + 1) #[.int .i64 0, .int .i64 0] := by
    have := Box.new (w.alloc (.cells #[.int .i64 a, .int .i64 c, .int .i64 s, .int .i64 m] 25)) #[.int .i64 0, .int .i64 0] 47
    simpa using this
  have hcall := fun W => l12Code_any a c s m d 1 f W
  by_cases hz : codeZ a c s m d 1 f = 0
  · obtain ⟨hk, hd, hlen, hf, _⟩ := code_ok hz
    have hs := stretch_bd hk.a0 hk.a1 hk.c0 hk.c1 hd.1 hd.2 hf.1 hf.2
    rw [hz] at hcall ⊢
    have e1 : stretchOfN a c s m d f = lowN (stretchZ a c d f) 40 := by unfold stretchOfN; rw [if_pos hz]
    have e2 : stretchOfD a c s m d f = lowD (stretchZ a c d f) 40 := by unfold stretchOfD; rw [if_pos hz]
    rw [e1, e2]
    clear e1 e2 hz
    have HC := Lib.hid hcall
    clear hcall
    go_enter Try.func45, Try.ntmps45
    go_wp2_with fail
    refine (HC.out _).mono ?_
    rintro e w1 ⟨rfl, hb1⟩
    have B1 := B0.below hb1
    have R1 := R0.below hb1
    have b1 := b0.trans (hb1.mono b0.size)
    have c1 := B1.cell
    clear hb1 B0 R0 b0 HC
    go_wp2_with fail
    refine (l12Stretch_any _ _ _ _ _ _ _ hk hd.1 hd.2 hf.1 hf.2).mono ?_
    rintro e w2 ⟨rfl, hb2⟩
    have R2 := R1.below hb2
    have b2 := b1.trans (hb2.mono b1.size)
    clear hb2 B1 R1 b1 c1
    go_wp2_with fail
    refine (l02Make_any _ _ _ (by omega) (by omega) (by omega) (by omega)).mono ?_
    rintro e w3 ⟨rfl, hb3⟩
    have R3 := R2.below hb3
    have b3 := b2.trans (hb3.mono b2.size)
    have c30 : w3.cell? ⟨w.heap.size + 1, 0, none⟩ = some (.int .i64 0) := R3.cell 0
    have c31 : w3.cell? ⟨w.heap.size + 1, 1, none⟩ = some (.int .i64 0) := R3.cell 1
    have f3 := R3.froz
    clear hb3 R2 b2
    go_wp2_with fail
    refine bodyPost_ret (v := .tuple #[.agg #[.int .i64 (lowN (stretchZ a c d f) 40), .int .i64 (lowD (stretchZ a c d f) 40)], .int .i64 0]) (by simp [results, Try.results45, go_sem, c30, c31]) rfl ⟨rfl, ?_⟩
    exact (b3.setCell (p := ⟨w.heap.size + 1, 0, none⟩) (by simp) _).setCell (p := ⟨w.heap.size + 1, 1, none⟩) (by simp) _
  · have hne : (codeZ a c s m d 1 f != 0) = true := by simpa using hz
    have e1 : stretchOfN a c s m d f = 0 := by unfold stretchOfN; rw [if_neg hz]
    have e2 : stretchOfD a c s m d f = 0 := by unfold stretchOfD; rw [if_neg hz]
    rw [e1, e2]
    clear e1 e2 hz
    generalize codeZ a c s m d 1 f = z at *
    have HC := Lib.hid hcall
    clear hcall
    go_enter Try.func45, Try.ntmps45
    go_wp2_with fail
    refine (HC.out _).mono ?_
    rintro e w1 ⟨rfl, hb1⟩
    have R1 := R0.below hb1
    have b1 := b0.trans (hb1.mono b0.size)
    have c10 : w1.cell? ⟨w.heap.size + 1, 0, none⟩ = some (.int .i64 0) := R1.cell 0
    have c11 : w1.cell? ⟨w.heap.size + 1, 1, none⟩ = some (.int .i64 0) := R1.cell 1
    have f1 := R1.froz
    clear hb1 R0 B0 b0 HC
    go_wp2_with fail
    refine bodyPost_ret (v := .tuple #[.agg #[.int .i64 0, .int .i64 0], .int .i64 z]) (by simp [results, Try.results45, go_sem, c10, c11]) rfl ⟨rfl, ?_⟩
    exact (b1.setCell (p := ⟨w.heap.size + 1, 0, none⟩) (by simp) _).setCell (p := ⟨w.heap.size + 1, 1, none⟩) (by simp) _

set_option maxHeartbeats 1000000 in
theorem specLengthUnder_any (a c s m d len f : Int) (w : World) :
    Calls Try.prog 38 #[.agg #[.int .i64 a, .int .i64 c, .int .i64 s, .int .i64 m], .int .i64 d, .int .i64 len, .int .i64 f] w fun e w' => e = .returned (.tuple #[.agg #[.int .i64 (underN a c s m d len f), .int .i64 (underD a c s m d len f)], .int .i64 (codeZ a c s m d len f)]) ∧ Below w.heap.size w w' := by
  have b0 : Below w.heap.size w ((w.alloc (.cells #[.int .i64 a, .int .i64 c, .int .i64 s, .int .i64 m] 25)).alloc (.cells #[.int .i64 0, .int .i64 0] 47)) := (by go_grown)
  have B0 := (Box.new w #[.int .i64 a, .int .i64 c, .int .i64 s, .int .i64 m] 25).alloc (.cells #[.int .i64 0, .int .i64 0] 47)
  have R0 : Box ((w.alloc (.cells #[.int .i64 a, .int .i64 c, .int .i64 s, .int .i64 m] 25)).alloc (.cells #[.int .i64 0, .int .i64 0] 47)) (w.heap.size + 1) #[.int .i64 0, .int .i64 0] := by
    have := Box.new (w.alloc (.cells #[.int .i64 a, .int .i64 c, .int .i64 s, .int .i64 m] 25)) #[.int .i64 0, .int .i64 0] 47
    simpa using this
  have hcall := fun W => l12Code_any a c s m d len f W
  by_cases hz : codeZ a c s m d len f = 0
  · obtain ⟨hk, hd, hlen, hf, _⟩ := code_ok hz
    have hs := stretch_bd hk.a0 hk.a1 hk.c0 hk.c1 hd.1 hd.2 hf.1 hf.2
    have hu := under_bd hs hlen
    rw [hz] at hcall ⊢
    have e1 : underN a c s m d len f = lowN (len * (40000 + stretchZ a c d f)) 40000 := by unfold underN; rw [if_pos hz]
    have e2 : underD a c s m d len f = lowD (len * (40000 + stretchZ a c d f)) 40000 := by unfold underD; rw [if_pos hz]
    rw [e1, e2]
    clear e1 e2 hz
    have HC := Lib.hid hcall
    clear hcall
    go_enter Try.func38, Try.ntmps38
    go_wp2_with fail
    refine (HC.out _).mono ?_
    rintro e w1 ⟨rfl, hb1⟩
    have B1 := B0.below hb1
    have R1 := R0.below hb1
    have b1 := b0.trans (hb1.mono b0.size)
    have c1 := B1.cell
    clear hb1 B0 R0 b0 HC
    go_wp2_with fail
    refine (l12Stretch_any _ _ _ _ _ _ _ hk hd.1 hd.2 hf.1 hf.2).mono ?_
    rintro e w2 ⟨rfl, hb2⟩
    have R2 := R1.below hb2
    have b2 := b1.trans (hb2.mono b1.size)
    clear hb2 B1 R1 b1 c1
    go_wp2_with fail
    refine (l02Make_any _ _ _ (by omega) (by omega) (by omega) (by omega)).mono ?_
    rintro e w3 ⟨rfl, hb3⟩
    have R3 := R2.below hb3
    have b3 := b2.trans (hb3.mono b2.size)
    have c30 : w3.cell? ⟨w.heap.size + 1, 0, none⟩ = some (.int .i64 0) := R3.cell 0
    have c31 : w3.cell? ⟨w.heap.size + 1, 1, none⟩ = some (.int .i64 0) := R3.cell 1
    have f3 := R3.froz
    clear hb3 R2 b2
    go_wp2_with fail
    refine bodyPost_ret (v := .tuple #[.agg #[.int .i64 (lowN (len * (40000 + stretchZ a c d f)) 40000), .int .i64 (lowD (len * (40000 + stretchZ a c d f)) 40000)], .int .i64 0]) (by simp [results, Try.results38, go_sem, c30, c31]) rfl ⟨rfl, ?_⟩
    exact (b3.setCell (p := ⟨w.heap.size + 1, 0, none⟩) (by simp) _).setCell (p := ⟨w.heap.size + 1, 1, none⟩) (by simp) _
  · have hne : (codeZ a c s m d len f != 0) = true := by simpa using hz
    have e1 : underN a c s m d len f = 0 := by unfold underN; rw [if_neg hz]
    have e2 : underD a c s m d len f = 0 := by unfold underD; rw [if_neg hz]
    rw [e1, e2]
    clear e1 e2 hz
    generalize codeZ a c s m d len f = z at *
    have HC := Lib.hid hcall
    clear hcall
    go_enter Try.func38, Try.ntmps38
    go_wp2_with fail
    refine (HC.out _).mono ?_
    rintro e w1 ⟨rfl, hb1⟩
    have R1 := R0.below hb1
    have b1 := b0.trans (hb1.mono b0.size)
    have c10 : w1.cell? ⟨w.heap.size + 1, 0, none⟩ = some (.int .i64 0) := R1.cell 0
    have c11 : w1.cell? ⟨w.heap.size + 1, 1, none⟩ = some (.int .i64 0) := R1.cell 1
    have f1 := R1.froz
    clear hb1 R0 B0 b0 HC
    go_wp2_with fail
    refine bodyPost_ret (v := .tuple #[.agg #[.int .i64 0, .int .i64 0], .int .i64 z]) (by simp [results, Try.results38, go_sem, c10, c11]) rfl ⟨rfl, ?_⟩
    exact (b1.setCell (p := ⟨w.heap.size + 1, 0, none⟩) (by simp) _).setCell (p := ⟨w.heap.size + 1, 1, none⟩) (by simp) _

set_option maxHeartbeats 1000000 in
theorem specafter_any (a c s m d len f : Int) (w : World) (hk : LOk a c s m) (hd : 0 ≤ d ∧ d ≤ 4) (hlen : 1 ≤ len ∧ len ≤ 10000) (hf : 0 ≤ f ∧ f ≤ 1000) :
    Calls Try.prog 81 #[.agg #[.int .i64 a, .int .i64 c, .int .i64 s, .int .i64 m], .int .i64 d, .int .i64 len, .int .i64 f] w fun e w' => e = .returned (.int .i64 (afterZ a c s d len f)) ∧ Below w.heap.size w w' := by
  obtain ⟨⟨h1, h2⟩, ⟨h3, h4⟩, h5, h6⟩ := after_bd hk hd hlen hf
  have e0 : afterZ a c s d len f = roundZ (len * (40000000 + stretchZ a c d f * s)) 40000000 := rfl
  rw [e0]
  clear e0
  go_enter Try.func81, Try.ntmps81
  go_wp2
  go_region_held3 (fun w' => w'.cell? ⟨w.heap.size, 0, none⟩ = some (.int .i64 a) ∧ w'.cell? ⟨w.heap.size, 1, none⟩ = some (.int .i64 c) ∧ w'.cell? ⟨w.heap.size, 2, none⟩ = some (.int .i64 s) ∧ w'.cell? ⟨w.heap.size, 3, none⟩ = some (.int .i64 m)) (first | exact keep4 (by assumption) hb | exact keep4 ⟨by assumption, by assumption, by assumption, by assumption⟩ hb | go_keep)
    (first | (go_at_call 70; refine (l12Stretch_any _ _ _ _ _ _ _ hk hd.1 hd.2 hf.1 hf.2).mono ?_; rintro e w' ⟨rfl, hb⟩) | (go_at_call 86; rw [IntWalk.i64_in (stretchZ a c d f * s) (by omega), IntWalk.i64_in (40000000 + stretchZ a c d f * s) (by omega), IntWalk.i64_in (len * (40000000 + stretchZ a c d f * s)) (by omega)]; refine (l02Round_any _ _ _ (by omega) (by omega) (by omega) (by omega)).mono ?_; rintro e w'' ⟨rfl, rfl⟩))
  go_wp2
  go_returns
  exact ⟨rfl, ((Below.refl w.heap.size w).alloc (Nat.le_refl _) _).drew.trans (hb.mono (by simp))⟩

set_option maxHeartbeats 1000000 in
theorem specLengthAfter_any (a c s m d len f : Int) (w : World) :
    Calls Try.prog 42 #[.agg #[.int .i64 a, .int .i64 c, .int .i64 s, .int .i64 m], .int .i64 d, .int .i64 len, .int .i64 f] w fun e w' => e = .returned (.tuple #[.int .i64 (lafterZ a c s m d len f), .int .i64 (codeZ a c s m d len f)]) ∧ Below w.heap.size w w' := by
  have b0 : Below w.heap.size w (w.alloc (.cells #[.int .i64 a, .int .i64 c, .int .i64 s, .int .i64 m] 25)) := (by go_grown)
  have B0 := Box.new w #[.int .i64 a, .int .i64 c, .int .i64 s, .int .i64 m] 25
  have hcall := fun W => l12Code_any a c s m d len f W
  by_cases hz : codeZ a c s m d len f = 0
  · obtain ⟨hk, hd, hlen, hf, _⟩ := code_ok hz
    rw [hz] at hcall ⊢
    have e1 : lafterZ a c s m d len f = afterZ a c s d len f := by unfold lafterZ; rw [if_pos hz]
    rw [e1]
    clear e1 hz
    have HC := Lib.hid hcall
    clear hcall
    go_enter Try.func42, Try.ntmps42
    go_wp2_with fail
    refine (HC.out _).mono ?_
    rintro e w1 ⟨rfl, hb1⟩
    have B1 := B0.below hb1
    have b1 := b0.trans (hb1.mono b0.size)
    have c1 := B1.cell
    clear hb1 B0 b0 HC
    go_wp2_with fail
    refine (specafter_any _ _ _ _ _ _ _ _ hk hd hlen hf).mono ?_
    rintro e w2 ⟨rfl, hb2⟩
    have b2 := b1.trans (hb2.mono b1.size)
    go_wp2_with fail
    go_ret2
    exact ⟨rfl, b2⟩
  · have hne : (codeZ a c s m d len f != 0) = true := by simpa using hz
    have e1 : lafterZ a c s m d len f = 0 := by unfold lafterZ; rw [if_neg hz]
    rw [e1]
    clear e1 hz
    generalize codeZ a c s m d len f = z at *
    have HC := Lib.hid hcall
    clear hcall
    go_enter Try.func42, Try.ntmps42
    go_wp2_with fail
    refine (HC.out _).mono ?_
    rintro e w1 ⟨rfl, hb1⟩
    have b1 := b0.trans (hb1.mono b0.size)
    go_wp2_with fail
    go_ret2
    exact ⟨rfl, b1⟩

set_option maxHeartbeats 1000000 in
theorem specCutLength_any (a c s m d len f : Int) (w : World) :
    Calls Try.prog 41 #[.agg #[.int .i64 a, .int .i64 c, .int .i64 s, .int .i64 m], .int .i64 d, .int .i64 len, .int .i64 f] w fun e w' => e = .returned (.tuple #[.int .i64 (cutlenZ a c s m d len f).1, .int .i64 (cutlenZ a c s m d len f).2]) ∧ Below w.heap.size w w' := by
  have b0 : Below w.heap.size w (w.alloc (.cells #[.int .i64 a, .int .i64 c, .int .i64 s, .int .i64 m] 25)) := (by go_grown)
  have B0 := Box.new w #[.int .i64 a, .int .i64 c, .int .i64 s, .int .i64 m] 25
  have hcall := fun W => l12Code_any a c s m d len f W
  by_cases hz : codeZ a c s m d len f = 0
  · obtain ⟨hk, hd, hlen, hf, _⟩ := code_ok hz
    have hs := stretch_bd hk.a0 hk.a1 hk.c0 hk.c1 hd.1 hd.2 hf.1 hf.2
    rw [hz] at hcall
    have e1 : cutlenZ a c s m d len f = if len * 40000 / (40000 + stretchZ a c d f) < 1 then (0, 3) else (len * 40000 / (40000 + stretchZ a c d f), 0) := by unfold cutlenZ; rw [if_pos hz]
    rw [e1]
    clear e1 hz
    have HC := Lib.hid hcall
    clear hcall
    have hcs := fun W => l12Stretch_any a c s m d f W hk hd.1 hd.2 hf.1 hf.2
    generalize stretchZ a c d f = x at *
    have HS := Lib.hid hcs
    clear hcs
    obtain ⟨hs0, hs1⟩ := hs
    obtain ⟨hl0, hl1⟩ := hlen
    have hmul : 40000 * len = len * 40000 := Int.mul_comm _ _
    by_cases hq : len * 40000 / (40000 + x) < 1
    · rw [if_pos hq]
      go_enter Try.func41, Try.ntmps41
      go_wp2_with fail
      refine (HC.out _).mono ?_
      rintro e w1 ⟨rfl, hb1⟩
      have B1 := B0.below hb1
      have b1 := b0.trans (hb1.mono b0.size)
      have c1 := B1.cell
      clear hb1 B0 b0 HC
      go_wp2_with fail
      refine (HS.out _).mono ?_
      rintro e w2 ⟨rfl, hb2⟩
      have b2 := b1.trans (hb2.mono b1.size)
      go_wp2_with fail
      go_ret2
      exact ⟨rfl, b2⟩
    · rw [if_neg hq]
      go_enter Try.func41, Try.ntmps41
      go_wp2_with fail
      refine (HC.out _).mono ?_
      rintro e w1 ⟨rfl, hb1⟩
      have B1 := B0.below hb1
      have b1 := b0.trans (hb1.mono b0.size)
      have c1 := B1.cell
      clear hb1 B0 b0 HC
      go_wp2_with fail
      refine (HS.out _).mono ?_
      rintro e w2 ⟨rfl, hb2⟩
      have b2 := b1.trans (hb2.mono b1.size)
      go_wp2_with fail
      go_ret2
      exact ⟨rfl, b2⟩
  · have hne : (codeZ a c s m d len f != 0) = true := by simpa using hz
    have e1 : cutlenZ a c s m d len f = (0, codeZ a c s m d len f) := by unfold cutlenZ; rw [if_neg hz]
    rw [e1]
    clear e1 hz
    generalize codeZ a c s m d len f = z at *
    have HC := Lib.hid hcall
    clear hcall
    go_enter Try.func41, Try.ntmps41
    go_wp2_with fail
    refine (HC.out _).mono ?_
    rintro e w1 ⟨rfl, hb1⟩
    have b1 := b0.trans (hb1.mono b0.size)
    go_wp2_with fail
    go_ret2
    exact ⟨rfl, b1⟩
end Go.Proofs.Ytdkklkpegnblnaa
