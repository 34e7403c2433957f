/- The laws on StretchOf, LengthUnder, LengthAfter, CutLength: the program's answer is the reference's. -/
import Derived.Test.YtdkklkpegnblnaaLea3
namespace Go.Proofs.Ytdkklkpegnblnaa
open Go.RowKit

set_option maxHeartbeats 400000 in
theorem eqFraction_self (x y : Int) (w : World) :
    Calls Try.prog 44 #[.agg #[.int .i64 x, .int .i64 y], .agg #[.int .i64 x, .int .i64 y]] w fun e w' => e = .returned (.bool true) ∧ Below w.heap.size w w' := by
  go_enter Try.func44, Try.ntmps44
  go_wp2
  go_ret
  exact ⟨rfl, (by go_grown)⟩

set_option maxHeartbeats 1000000 in
theorem law_LengthAfter (a c s m d len f : Int) (w : World) :
    Calls Try.prog 12 #[.agg #[.int .i64 a, .int .i64 c, .int .i64 s, .int .i64 m], .int .i64 d, .int .i64 len, .int .i64 f] w fun e w' => e = .returned (.bool true) ∧ Below w.heap.size w w' := by
  have B0 := Box.new w #[.int .i64 a, .int .i64 c, .int .i64 s, .int .i64 m] 23
  have b0 : Below w.heap.size w (w.alloc (.cells #[.int .i64 a, .int .i64 c, .int .i64 s, .int .i64 m] 23)) := (by go_grown)
  have c0 := B0.cell
  go_enter Try.func12, Try.ntmps12
  go_wp2_with fail
  refine (toLeather_any _ _ _ _ _).mono ?_
  rintro e w1 ⟨rfl, hb1⟩
  have B1 := B0.below hb1
  have b1 := b0.trans (hb1.mono b0.size)
  have c1 := B1.cell
  clear hb1 B0 b0 c0
  go_wp2_with fail
  refine (specLengthAfter_any a c s m d len f _).mono ?_
  rintro e w2 ⟨rfl, hb2⟩
  have B2 := B1.below hb2
  have b2 := b1.trans (hb2.mono b1.size)
  have c2 := B2.cell
  clear hb2 B1 b1 c1
  go_wp2_with fail
  refine (toLeather_any _ _ _ _ _).mono ?_
  rintro e w3 ⟨rfl, hb3⟩
  have B3 := B2.below hb3
  have b3 := b2.trans (hb3.mono b2.size)
  have c3 := B3.cell
  clear hb3 B2 b2 c2
  go_wp2_with fail
  refine (implLengthAfter_any a c s m d len f _).mono ?_
  rintro e w4 ⟨rfl, hb4⟩
  have B4 := B3.below hb4
  have b4 := b3.trans (hb4.mono b3.size)
  have c4 := B4.cell
  clear hb4 B3 b3 c3
  go_wp2_with fail
  go_returns
  exact ⟨rfl, b4⟩

set_option maxHeartbeats 1000000 in
theorem law_CutLength (a c s m d len f : Int) (w : World) :
    Calls Try.prog 11 #[.agg #[.int .i64 a, .int .i64 c, .int .i64 s, .int .i64 m], .int .i64 d, .int .i64 len, .int .i64 f] w fun e w' => e = .returned (.bool true) ∧ Below w.heap.size w w' := by
  have B0 := Box.new w #[.int .i64 a, .int .i64 c, .int .i64 s, .int .i64 m] 23
  have b0 : Below w.heap.size w (w.alloc (.cells #[.int .i64 a, .int .i64 c, .int .i64 s, .int .i64 m] 23)) := (by go_grown)
  have c0 := B0.cell
  go_enter Try.func11, Try.ntmps11
  go_wp2_with fail
  refine (toLeather_any _ _ _ _ _).mono ?_
  rintro e w1 ⟨rfl, hb1⟩
  have B1 := B0.below hb1
  have b1 := b0.trans (hb1.mono b0.size)
  have c1 := B1.cell
  clear hb1 B0 b0 c0
  go_wp2_with fail
  refine (specCutLength_any a c s m d len f _).mono ?_
  rintro e w2 ⟨rfl, hb2⟩
  have B2 := B1.below hb2
  have b2 := b1.trans (hb2.mono b1.size)
  have c2 := B2.cell
  clear hb2 B1 b1 c1
  go_wp2_with fail
  refine (toLeather_any _ _ _ _ _).mono ?_
  rintro e w3 ⟨rfl, hb3⟩
  have B3 := B2.below hb3
  have b3 := b2.trans (hb3.mono b2.size)
  have c3 := B3.cell
  clear hb3 B2 b2 c2
  go_wp2_with fail
  refine (implCutLength_any a c s m d len f _).mono ?_
  rintro e w4 ⟨rfl, hb4⟩
  have B4 := B3.below hb4
  have b4 := b3.trans (hb4.mono b3.size)
  have c4 := B4.cell
  clear hb4 B3 b3 c3
  go_wp2_with fail
  go_returns
  exact ⟨rfl, b4⟩

set_option maxHeartbeats 1000000 in
theorem law_StretchOf (a c s m d f : Int) (w : World) :
    Calls Try.prog 14 #[.agg #[.int .i64 a, .int .i64 c, .int .i64 s, .int .i64 m], .int .i64 d, .int .i64 f] w fun e w' => e = .returned (.bool true) ∧ Below w.heap.size w w' := by
  have B0 := Box.new w #[.int .i64 a, .int .i64 c, .int .i64 s, .int .i64 m] 23
  have b0 : Below w.heap.size w (w.alloc (.cells #[.int .i64 a, .int .i64 c, .int .i64 s, .int .i64 m] 23)) := (by go_grown)
  have c0 := B0.cell
  have hs := fun W => specStretchOf_any a c s m d f W
  have hi := fun W => implStretchOf_any a c s m d f W
  generalize stretchOfN a c s m d f = N at *
  generalize stretchOfD a c s m d f = D at *
  generalize codeZ a c s m d 1 f = z at *
  have HS := Lib.hid hs
  have HI := Lib.hid hi
  clear hs hi
  go_enter Try.func14, Try.ntmps14
  go_wp2_with fail
  refine (toLeather_any _ _ _ _ _).mono ?_
  rintro e w1 ⟨rfl, hb1⟩
  have B1 := B0.below hb1
  have b1 := b0.trans (hb1.mono b0.size)
  have c1 := B1.cell
  clear hb1 B0 b0 c0
  go_wp2_with fail
  refine (HS.out _).mono ?_
  rintro e w2 ⟨rfl, hb2⟩
  have B2 := B1.below hb2
  have b2 := b1.trans (hb2.mono b1.size)
  have c2 := B2.cell
  clear hb2 B1 b1 c1
  have hlt2 := B2.lt
  go_wp2_with fail
  refine (toLeather_any _ _ _ _ _).mono ?_
  rintro e w3 ⟨rfl, hb3⟩
  have B3 := (B2.alloc _).below hb3
  have F3 := (Box.new w2 #[.int .i64 N, .int .i64 D] 47).below hb3
  have b3 : Below w.heap.size w w3 := (b2.alloc b2.size _).trans (hb3.mono (by have := b2.size; simp; omega))
  have hw2 : w.heap.size ≤ w2.heap.size := b2.size
  clear hb3 B2 b2 c2 hlt2
  go_wp2_with fail
  refine (HI.out _).mono ?_
  rintro e w4 ⟨rfl, hb4⟩
  have F4 := F3.below hb4
  have b4 := b3.trans (hb4.mono b3.size)
  have f4 := F4.cell
  have hlt := F4.lt
  clear hb4 F3 B3 b3
  go_wp2_with fail
  refine (eqFraction_self N D _).mono ?_
  rintro e w5 ⟨rfl, hb5⟩
  have b5 : Below w.heap.size w w5 := (b4.alloc b4.size _).trans (hb5.mono (by have := b4.size; simp; omega))
  clear hb5 F4 b4 f4
  go_wp2_with fail
  go_returns
  exact ⟨rfl, b5⟩

set_option maxHeartbeats 1000000 in
theorem law_LengthUnder (a c s m d len f : Int) (w : World) :
    Calls Try.prog 13 #[.agg #[.int .i64 a, .int .i64 c, .int .i64 s, .int .i64 m], .int .i64 d, .int .i64 len, .int .i64 f] w fun e w' => e = .returned (.bool true) ∧ Below w.heap.size w w' := by
  have B0 := Box.new w #[.int .i64 a, .int .i64 c, .int .i64 s, .int .i64 m] 23
  have b0 : Below w.heap.size w (w.alloc (.cells #[.int .i64 a, .int .i64 c, .int .i64 s, .int .i64 m] 23)) := (by go_grown)
  have c0 := B0.cell
  have hs := fun W => specLengthUnder_any a c s m d len f W
  have hi := fun W => implLengthUnder_any a c s m d len f W
  generalize underN a c s m d len f = N at *
  generalize underD a c s m d len f = D at *
  generalize codeZ a c s m d len f = z at *
  have HS := Lib.hid hs
  have HI := Lib.hid hi
  clear hs hi
  go_enter Try.func13, Try.ntmps13
  go_wp2_with fail
  refine (toLeather_any _ _ _ _ _).mono ?_
  rintro e w1 ⟨rfl, hb1⟩
  have B1 := B0.below hb1
  have b1 := b0.trans (hb1.mono b0.size)
  have c1 := B1.cell
  clear hb1 B0 b0 c0
  go_wp2_with fail
  refine (HS.out _).mono ?_
  rintro e w2 ⟨rfl, hb2⟩
  have B2 := B1.below hb2
  have b2 := b1.trans (hb2.mono b1.size)
  have c2 := B2.cell
  clear hb2 B1 b1 c1
  have hlt2 := B2.lt
  go_wp2_with fail
  refine (toLeather_any _ _ _ _ _).mono ?_
  rintro e w3 ⟨rfl, hb3⟩
  have B3 := (B2.alloc _).below hb3
  have F3 := (Box.new w2 #[.int .i64 N, .int .i64 D] 47).below hb3
  have b3 : Below w.heap.size w w3 := (b2.alloc b2.size _).trans (hb3.mono (by have := b2.size; simp; omega))
  have hw2 : w.heap.size ≤ w2.heap.size := b2.size
  clear hb3 B2 b2 c2 hlt2
  go_wp2_with fail
  refine (HI.out _).mono ?_
  rintro e w4 ⟨rfl, hb4⟩
  have F4 := F3.below hb4
  have b4 := b3.trans (hb4.mono b3.size)
  have f4 := F4.cell
  have hlt := F4.lt
  clear hb4 F3 B3 b3
  go_wp2_with fail
  refine (eqFraction_self N D _).mono ?_
  rintro e w5 ⟨rfl, hb5⟩
  have b5 : Below w.heap.size w w5 := (b4.alloc b4.size _).trans (hb5.mono (by have := b4.size; simp; omega))
  clear hb5 F4 b4 f4
  go_wp2_with fail
  go_returns
  exact ⟨rfl, b5⟩
end Go.Proofs.Ytdkklkpegnblnaa
