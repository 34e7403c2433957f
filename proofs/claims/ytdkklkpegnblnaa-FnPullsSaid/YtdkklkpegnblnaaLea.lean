/- Leather: toLeather, ValidLeather (program and reference), give and stretch. -/
import Derived.Test.YtdkklkpegnblnaaLaw
namespace Go.Proofs.Ytdkklkpegnblnaa
open Go.RowKit

def leatherB (a c s m : Int) : Bool := inB a 0 100 && inB c 0 100 && inB s 0 1000 && inB m 1 500
theorem leatherB_true {a c s m : Int} (h : leatherB a c s m = true) : 0 ≤ a ∧ a ≤ 100 ∧ 0 ≤ c ∧ c ≤ 100 ∧ 0 ≤ s ∧ s ≤ 1000 ∧ 1 ≤ m ∧ m ≤ 500 := by
  simp only [leatherB, Bool.and_eq_true] at h
  have h1 := inB_true h.1.1.1
  have h2 := inB_true h.1.1.2
  have h3 := inB_true h.1.2
  have h4 := inB_true h.2
  omega

set_option maxHeartbeats 400000 in
theorem toLeather_any (a c s m : Int) (w : World) :
    Calls Try.prog 18 #[.agg #[.int .i64 a, .int .i64 c, .int .i64 s, .int .i64 m]] w fun e w' => e = .returned (.agg #[.int .i64 a, .int .i64 c, .int .i64 s, .int .i64 m]) ∧ Below w.heap.size w w' := by
  go_enter Try.func18, Try.ntmps18
  go_wp2
  go_returns
  exact ⟨rfl, (by go_grown)⟩

set_option maxHeartbeats 400000 in
theorem implValidLeather_any (a c s m : Int) (w : World) :
    Calls Try.prog 19 #[.agg #[.int .i64 a, .int .i64 c, .int .i64 s, .int .i64 m]] w fun e w' => e = .returned (.bool (leatherB a c s m)) ∧ Below w.heap.size w w' := by
  go_enter Try.func19, Try.ntmps19
  go_wp2_with (go_at_call 53; refine (within_any _ _ _ _).mono ?_; rintro e w' ⟨rfl, rfl⟩)
  all_goals (go_returns; exact ⟨by simp [leatherB, *], (by go_grown)⟩)

set_option maxHeartbeats 400000 in
theorem l12Ok_any (a c s m : Int) (w : World) :
    Calls Try.prog 52 #[.agg #[.int .i64 a, .int .i64 c, .int .i64 s, .int .i64 m]] w fun e w' => e = .returned (.bool (leatherB a c s m)) ∧ Below w.heap.size w w' := by
  go_enter Try.func52, Try.ntmps52
  go_wp2_with (go_at_call 54; refine (l00In_any _ _ _ _).mono ?_; rintro e w' ⟨rfl, rfl⟩)
  all_goals (go_returns; exact ⟨by simp [leatherB, *], (by go_grown)⟩)

set_option maxHeartbeats 400000 in
theorem specValidLeather_any (a c s m : Int) (w : World) :
    Calls Try.prog 17 #[.agg #[.int .i64 a, .int .i64 c, .int .i64 s, .int .i64 m]] w fun e w' => e = .returned (.bool (leatherB a c s m)) ∧ Below w.heap.size w w' := by
  go_enter Try.func17, Try.ntmps17
  go_wp2_with (go_at_call 52; refine (l12Ok_any _ _ _ _ _).mono ?_; rintro e w' ⟨rfl, hb⟩)
  all_goals (go_returns; exact ⟨rfl, (((Below.refl _ _).alloc (Nat.le_refl _) _).trans (hb.mono (by simp)))⟩)

set_option maxHeartbeats 400000 in
theorem law_ValidLeather (a c s m : Int) (w : World) :
    Calls Try.prog 3 #[.agg #[.int .i64 a, .int .i64 c, .int .i64 s, .int .i64 m]] w fun e w' => e = .returned (.bool true) ∧ Below w.heap.size w w' := by
  go_enter Try.func3, Try.ntmps3
  have B0 := Box.new w #[.int .i64 a, .int .i64 c, .int .i64 s, .int .i64 m] 23
  have b0 : Below w.heap.size w (w.alloc (.cells #[.int .i64 a, .int .i64 c, .int .i64 s, .int .i64 m] 23)) := (by go_grown)
  have c0 := B0.cell
  go_wp2_with fail
  refine (toLeather_any _ _ _ _ _).mono ?_
  rintro e w1 ⟨rfl, hb1⟩
  have B1 := B0.below hb1
  have b1 := b0.trans (hb1.mono b0.size)
  have c1 := B1.cell
  clear hb1 B0 b0 c0
  go_wp2_with fail
  refine (specValidLeather_any _ _ _ _ _).mono ?_
  rintro e w2 ⟨rfl, hb2⟩
  have B2 := B1.below hb2
  have b2 := b1.trans (hb2.mono b1.size)
  have c2 := B2.cell
  clear hb2 B1 b1 c1
  go_wp2_with fail
  refine (toLeather_any _ _ _ _ _).mono ?_
  rintro e w3 ⟨rfl, hb3⟩
  have B3 := B2.below hb3
  have b3 := b2.trans (hb3.mono b2.size)
  have c3 := B3.cell
  clear hb3 B2 b2 c2
  go_wp2_with fail
  refine (implValidLeather_any _ _ _ _ _).mono ?_
  rintro e w4 ⟨rfl, hb4⟩
  have B4 := B3.below hb4
  have b4 := b3.trans (hb4.mono b3.size)
  have c4 := B4.cell
  clear hb4 B3 b3 c3
  go_wp2_with fail
  go_returns
  exact ⟨rfl, b4⟩
end Go.Proofs.Ytdkklkpegnblnaa
