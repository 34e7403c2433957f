/- The walk of the law FnStretches. Printed by mkstr2.py. -/
import Derived.Test.YtdkklkpegnblnaaStr
namespace Go.Proofs.Ytdkklkpegnblnaa
open Go.RowKit
set_option maxRecDepth 100000 in
set_option maxHeartbeats 8000000 in
theorem law_Stretches (A : Option Addr) (n cp : Nat) (A' : Option Addr) (n' cp' : Nat) (w : World) (h1 : Bytes w A n cp) (h2 : Bytes w A' n' cp') :
    Calls Try.prog 9 #[.slice A n cp, .slice A' n' cp'] w fun e w' => e = .returned (.bool true) ∧ Below w.heap.size w w' := by
  have nn := h1.1
  have nn' := h2.1
  have nc := h1.2.1
  have nc' := h2.2.1
  have H1 := Lib.hid h1
  have H2 := Lib.hid h2
  clear h1 h2
  go_enter Try.func9, Try.ntmps9
  go_wp2_with fail
  refine (a2Long_any _ _ _ _ _ _ _ (by omega) (by omega)).mono ?_
  rintro e w' ⟨rfl, rfl⟩
  cases hz : (decide (3000 < n) || decide (3000 < n')) with
  | true =>
    go_wp2
    go_returns
    exact ⟨rfl, Below.refl _ _⟩
  | false =>
  go_wp2_with fail
  refine (a2Leather_any _ _ _ _ H1.out).mono ?_
  rintro e w1 ⟨a, c, s, m, hd, rfl, b1⟩
  have K2 := Lib.hid (H2.out.below b1)
  clear H1 H2
  have B1 := Box.new w1 #[.int .i64 a, .int .i64 c, .int .i64 s, .int .i64 m] 25
  have b1' : Below w.heap.size w (w1.alloc (.cells #[.int .i64 a, .int .i64 c, .int .i64 s, .int .i64 m] 25)) := b1.alloc b1.size _
  have K2' := Lib.hid (K2.out.below ((by go_grown) : Below w1.heap.size w1 (w1.alloc (.cells #[.int .i64 a, .int .i64 c, .int .i64 s, .int .i64 m] 25))))
  go_wp2_with fail
  refine (a2At_any _ _ _ _ _ _ K2'.out (by omega) (by omega)).mono ?_
  rintro e w' ⟨d, d0, d1, rfl, rfl⟩
  go_wp2_with fail
  refine (a2At_any _ _ _ _ _ _ K2'.out (by omega) (by omega)).mono ?_
  rintro e w' ⟨f, f0, f1, rfl, rfl⟩
  go_wp2_with fail
  refine (a2At_any _ _ _ _ _ _ K2'.out (by omega) (by omega)).mono ?_
  rintro e w' ⟨r, r0, r1, rfl, rfl⟩
  go_wp2_with fail
  obtain ⟨L, hL⟩ : ∃ L, 500 + 10 * r = L := ⟨_, rfl⟩
  rw [hL]
  have L0 : 500 ≤ L ∧ L ≤ 2490 := by omega
  clear hL r0 r1
  have hd4 : 0 ≤ d ∧ d ≤ 4 := by omega
  have hf4 : 0 ≤ f ∧ f ≤ 249 := by omega
  obtain ⟨M, C, S, T, U, V, hM, hM0, hM1, hS, hT, hC1, hU, hV, hC, hcase⟩ := str_facts hd hd4 hf4 L0
  have hcut := fun hz => cut_facts hd hd4 hf4 L0 (hC.trans hz)
  have HB1 := Lib.hid B1
  have HK := K2'
  clear B1 K2 K2'
  refine (implGreatestPull_any a c s m d _).mono ?_
  rintro e w2 ⟨he, hb⟩
  rw [hM] at he
  subst he
  have b2 := b1'.trans (hb.mono b1'.size)
  have B2 := HB1.out.below hb
  have K3 := Lib.hid (HK.out.below hb)
  have c2 := B2.cell
  clear hb b1' HB1 HK b1
  go_wp2_with fail
  refine (implStretchOf_any a c s m d f _).mono ?_
  rintro e w3 ⟨he, hb⟩
  rw [hS, hT, hC1] at he
  subst he
  have b3 := b2.trans (hb.mono b2.size)
  have B3 := B2.below hb
  have K4 := Lib.hid (K3.out.below hb)
  have c3 := B3.cell
  clear hb B2 c2 K3 b2
  have S3 := Box.new w3 #[.int .i64 S, .int .i64 T] 47
  have B3' := B3.alloc (.cells #[.int .i64 S, .int .i64 T] 47)
  have c3' := B3'.cell
  go_wp2_with fail
  refine (implLengthUnder_any a c s m d L f _).mono ?_
  rintro e w4 ⟨he, hb⟩
  rw [hU, hV, hC] at he
  subst he
  have b4 := (b3.alloc b3.size _).trans (hb.mono (b3.alloc b3.size _).size)
  have B4 := B3'.below hb
  have S4 := S3.below hb
  have K5 := Lib.hid ((K4.out.below (by go_grown)).below hb)
  clear hb B3 c3 K4 b3 S3 B3' c3'
  have U4 := Box.new w4 #[.int .i64 U, .int .i64 V] 47
  have K6 := Lib.hid (K5.out.below ((by go_grown) : Below w4.heap.size w4 (w4.alloc (.cells #[.int .i64 U, .int .i64 V] 47))))
  have x1 : (C == 0) = decide (f ≤ M) := by
    rcases hcase with ⟨h1, h2⟩ | ⟨h1, h2, _⟩
    · rw [h2, decide_eq_false (by omega)]; rfl
    · rw [h2, decide_eq_true (by omega)]; rfl
  have x2 : decide (M < 0) = false := decide_eq_false (by omega)
  have x3 : decide (1000 < M) = false := decide_eq_false (by omega)
  have B5 := B4.alloc (.cells #[.int .i64 U, .int .i64 V] 47)
  have S5 := S4.alloc (.cells #[.int .i64 U, .int .i64 V] 47)
  have b5 := b4.alloc b4.size (.cells #[.int .i64 U, .int .i64 V] 47)
  have c5 := B5.cell
  clear B4 S4 b4 K5
  go_wp2_with fail
  refine (a2At_any _ _ _ _ _ _ K6.out (by omega) (by omega)).mono ?_
  rintro e w' ⟨r, r0, r1, rfl, rfl⟩
  go_wp2_with fail
  obtain ⟨W, hL⟩ : ∃ W, L + r = W := ⟨_, rfl⟩
  rw [hL]
  have W0 : 500 ≤ W ∧ W ≤ 2690 := by omega
  clear hL r0 r1 x1 x2 x3
  obtain ⟨p, k, hp, hpc⟩ := pull_facts hd hd4 L0 W0 hM
  refine (implPullFor_any a c s m d L W _).mono ?_
  rintro e w6 ⟨he, hb⟩
  rw [hp] at he
  subst he
  have b6 := b5.trans (hb.mono b5.size)
  have B6 := B5.below hb
  have S6 := S5.below hb
  have U6 := U4.below hb
  have c6 := B6.cell
  clear hb B5 S5 U4 b5 c5 K6
  rcases hpc with hk | ⟨rfl, p0, p1, ⟨X, Y, hX, hY, hXc, ya, yb, hXY⟩, hpc⟩
  · have hk' : (k == 0) = false := by simpa using hk
    clear hk
    rcases hcase with ⟨t1, t2⟩ | ⟨t1, t2, v1, v2, u1, u2, q1, q2, s1, s2, hx⟩
    · subst t2
      go_wp2
      go_returns
      exact ⟨rfl, b6⟩
    subst t2
    have m1 := mul_bd (x := U * 1000) (y := T) (p := 1000000000000) (q := 40) (by omega) (by omega) (by omega) q2
    have m2 := mul_bd (x := L) (y := 1000 * T + S) (p := 2490) (q := 60000) (by omega) (by omega) (by omega) (by omega)
    have m3 := mul_bd (x := L * (1000 * T + S)) (y := V) (p := 149400000) (q := 40000) (by omega) (by omega) (by omega) v2
    have x4 : (U * 1000 * T != L * (1000 * T + S) * V) = false := by rw [hx]; simp
    obtain ⟨q, hq, qa, qb, ⟨Z, E, hZ, hE, hZc, ea, eb, hZE⟩, ⟨Z2, E2, hZ2, hE2, hZc2, ec, ed, hZE2⟩⟩ := hcut rfl
    clear hcut hx
    have Bp := B6
    clear B6
    have Sp := S6
    clear S6
    have Up := U6
    clear U6
    have bp := b6
    clear b6
    have cB := Bp.cell
    have cS := Sp.cell
    have cU := Up.cell
    go_wp2_with fail
    refine (implCutLength_any a c s m d L f _).mono ?_
    rintro e wc ⟨he, hb⟩
    rw [hq] at he
    subst he
    have bc := bp.trans (hb.mono bp.size)
    have Bc := Bp.below hb
    have cc := Bc.cell
    clear hb bp Bp Sp Up cB cS cU
    go_wp2_with fail
    refine (specLengthUnder_any a c s m d q f _).mono ?_
    rintro e wd ⟨he, hb⟩
    rw [hZ, hE, hZc] at he
    subst he
    have bd := bc.trans (hb.mono bc.size)
    have Bd := (Bc.below hb).alloc (.cells #[.int .i64 Z, .int .i64 E] 47)
    have cd := Bd.cell
    have D1 := Box.new wd #[.int .i64 Z, .int .i64 E] 47
    have bd2 := bd.alloc bd.size (.cells #[.int .i64 Z, .int .i64 E] 47)
    clear hb bc Bc cc bd
    go_wp2_with fail
    refine (specLengthUnder_any a c s m d (q + 1) f _).mono ?_
    rintro e we ⟨he, hb⟩
    rw [hZ2, hE2, hZc2] at he
    subst he
    have be := bd2.trans (hb.mono bd2.size)
    have De := (D1.below hb).alloc (.cells #[.int .i64 Z2, .int .i64 E2] 47)
    have ce := De.cell
    have be2 := be.alloc be.size (.cells #[.int .i64 Z2, .int .i64 E2] 47)
    clear hb bd2 Bd cd D1 be De
    have x5 : decide (Z ≤ L * E) = true := decide_eq_true hZE
    have x6 : decide (L * E2 < Z2) = true := decide_eq_true hZE2
    have m4 := mul_bd (x := L) (y := E) (p := 2490) (q := 40000) (by omega) (by omega) (by omega) eb
    have m5 := mul_bd (x := L) (y := E2) (p := 2490) (q := 40000) (by omega) (by omega) (by omega) ed
    clear hZE hZE2
    go_wp2
    go_returns
    exact ⟨rfl, be2⟩
  have x1 : decide (X < W * Y) = false := decide_eq_false (by omega)
  have m6 := mul_bd (x := W) (y := Y) (p := 2690) (q := 40000) (by omega) (by omega) (by omega) yb
  clear hXY
  go_wp2_with fail
  refine (specLengthUnder_any a c s m d L p _).mono ?_
  rintro e w7 ⟨he, hb⟩
  rw [hX, hY, hXc] at he
  subst he
  have b7 := b6.trans (hb.mono b6.size)
  have B7 := B6.below hb
  have S7 := S6.below hb
  have U7 := U6.below hb
  clear hb B6 S6 U6 b6 c6
  rcases hpc with rfl | ⟨p2, X2, Y2, hX2, hY2, hXc2, yc, yd, hXY2⟩
  · clear hX hY hXc
    rcases hcase with ⟨t1, t2⟩ | ⟨t1, t2, v1, v2, u1, u2, q1, q2, s1, s2, hx⟩
    · subst t2
      go_wp2
      go_returns
      exact ⟨rfl, b7.alloc b7.size _⟩
    subst t2
    have m1 := mul_bd (x := U * 1000) (y := T) (p := 1000000000000) (q := 40) (by omega) (by omega) (by omega) q2
    have m2 := mul_bd (x := L) (y := 1000 * T + S) (p := 2490) (q := 60000) (by omega) (by omega) (by omega) (by omega)
    have m3 := mul_bd (x := L * (1000 * T + S)) (y := V) (p := 149400000) (q := 40000) (by omega) (by omega) (by omega) v2
    have x4 : (U * 1000 * T != L * (1000 * T + S) * V) = false := by rw [hx]; simp
    obtain ⟨q, hq, qa, qb, ⟨Z, E, hZ, hE, hZc, ea, eb, hZE⟩, ⟨Z2, E2, hZ2, hE2, hZc2, ec, ed, hZE2⟩⟩ := hcut rfl
    clear hcut hx
    have Bp := B7.alloc (.cells #[.int .i64 X, .int .i64 Y] 47)
    have Sp := S7.alloc (.cells #[.int .i64 X, .int .i64 Y] 47)
    have Up := U7.alloc (.cells #[.int .i64 X, .int .i64 Y] 47)
    have bp := b7.alloc b7.size (.cells #[.int .i64 X, .int .i64 Y] 47)
    clear B7 S7 U7 b7
    have cB := Bp.cell
    have cS := Sp.cell
    have cU := Up.cell
    go_wp2_with fail
    refine (implCutLength_any a c s m d L f _).mono ?_
    rintro e wc ⟨he, hb⟩
    rw [hq] at he
    subst he
    have bc := bp.trans (hb.mono bp.size)
    have Bc := Bp.below hb
    have cc := Bc.cell
    clear hb bp Bp Sp Up cB cS cU
    go_wp2_with fail
    refine (specLengthUnder_any a c s m d q f _).mono ?_
    rintro e wd ⟨he, hb⟩
    rw [hZ, hE, hZc] at he
    subst he
    have bd := bc.trans (hb.mono bc.size)
    have Bd := (Bc.below hb).alloc (.cells #[.int .i64 Z, .int .i64 E] 47)
    have cd := Bd.cell
    have D1 := Box.new wd #[.int .i64 Z, .int .i64 E] 47
    have bd2 := bd.alloc bd.size (.cells #[.int .i64 Z, .int .i64 E] 47)
    clear hb bc Bc cc bd
    go_wp2_with fail
    refine (specLengthUnder_any a c s m d (q + 1) f _).mono ?_
    rintro e we ⟨he, hb⟩
    rw [hZ2, hE2, hZc2] at he
    subst he
    have be := bd2.trans (hb.mono bd2.size)
    have De := (D1.below hb).alloc (.cells #[.int .i64 Z2, .int .i64 E2] 47)
    have ce := De.cell
    have be2 := be.alloc be.size (.cells #[.int .i64 Z2, .int .i64 E2] 47)
    clear hb bd2 Bd cd D1 be De
    have x5 : decide (Z ≤ L * E) = true := decide_eq_true hZE
    have x6 : decide (L * E2 < Z2) = true := decide_eq_true hZE2
    have m4 := mul_bd (x := L) (y := E) (p := 2490) (q := 40000) (by omega) (by omega) (by omega) eb
    have m5 := mul_bd (x := L) (y := E2) (p := 2490) (q := 40000) (by omega) (by omega) (by omega) ed
    clear hZE hZE2
    go_wp2
    go_returns
    exact ⟨rfl, be2⟩
  have x2 : decide (W * Y2 ≤ X2) = false := decide_eq_false (by omega)
  have m7 := mul_bd (x := W) (y := Y2) (p := 2690) (q := 40000) (by omega) (by omega) (by omega) yd
  clear hXY2
  have B8 := B7.alloc (.cells #[.int .i64 X, .int .i64 Y] 47)
  have S8 := S7.alloc (.cells #[.int .i64 X, .int .i64 Y] 47)
  have U8 := U7.alloc (.cells #[.int .i64 X, .int .i64 Y] 47)
  have b8 := b7.alloc b7.size (.cells #[.int .i64 X, .int .i64 Y] 47)
  have c8 := B8.cell
  have cx := (Box.new w7 #[.int .i64 X, .int .i64 Y] 47).cell
  clear B7 S7 U7 b7
  go_wp2_with fail
  refine (specLengthUnder_any a c s m d L (p - 1) _).mono ?_
  rintro e w9 ⟨he, hb⟩
  rw [hX2, hY2, hXc2] at he
  subst he
  have b9 := b8.trans (hb.mono b8.size)
  have B9 := B8.below hb
  have S9 := S8.below hb
  have U9 := U8.below hb
  clear hb B8 S8 U8 b8 c8 cx hX hY hXc hX2 hY2 hXc2 x1
  rcases hcase with ⟨t1, t2⟩ | ⟨t1, t2, v1, v2, u1, u2, q1, q2, s1, s2, hx⟩
  · subst t2
    go_wp2
    go_returns
    exact ⟨rfl, b9.alloc b9.size _⟩
  subst t2
  have m1 := mul_bd (x := U * 1000) (y := T) (p := 1000000000000) (q := 40) (by omega) (by omega) (by omega) q2
  have m2 := mul_bd (x := L) (y := 1000 * T + S) (p := 2490) (q := 60000) (by omega) (by omega) (by omega) (by omega)
  have m3 := mul_bd (x := L * (1000 * T + S)) (y := V) (p := 149400000) (q := 40000) (by omega) (by omega) (by omega) v2
  have x4 : (U * 1000 * T != L * (1000 * T + S) * V) = false := by rw [hx]; simp
  obtain ⟨q, hq, qa, qb, ⟨Z, E, hZ, hE, hZc, ea, eb, hZE⟩, ⟨Z2, E2, hZ2, hE2, hZc2, ec, ed, hZE2⟩⟩ := hcut rfl
  clear hcut hx
  have Bp := B9.alloc (.cells #[.int .i64 X2, .int .i64 Y2] 47)
  have Sp := S9.alloc (.cells #[.int .i64 X2, .int .i64 Y2] 47)
  have Up := U9.alloc (.cells #[.int .i64 X2, .int .i64 Y2] 47)
  have bp := b9.alloc b9.size (.cells #[.int .i64 X2, .int .i64 Y2] 47)
  clear B9 S9 U9 b9
  have cB := Bp.cell
  have cS := Sp.cell
  have cU := Up.cell
  go_wp2_with fail
  refine (implCutLength_any a c s m d L f _).mono ?_
  rintro e wc ⟨he, hb⟩
  rw [hq] at he
  subst he
  have bc := bp.trans (hb.mono bp.size)
  have Bc := Bp.below hb
  have cc := Bc.cell
  clear hb bp Bp Sp Up cB cS cU
  go_wp2_with fail
  refine (specLengthUnder_any a c s m d q f _).mono ?_
  rintro e wd ⟨he, hb⟩
  rw [hZ, hE, hZc] at he
  subst he
  have bd := bc.trans (hb.mono bc.size)
  have Bd := (Bc.below hb).alloc (.cells #[.int .i64 Z, .int .i64 E] 47)
  have cd := Bd.cell
  have D1 := Box.new wd #[.int .i64 Z, .int .i64 E] 47
  have bd2 := bd.alloc bd.size (.cells #[.int .i64 Z, .int .i64 E] 47)
  clear hb bc Bc cc bd
  go_wp2_with fail
  refine (specLengthUnder_any a c s m d (q + 1) f _).mono ?_
  rintro e we ⟨he, hb⟩
  rw [hZ2, hE2, hZc2] at he
  subst he
  have be := bd2.trans (hb.mono bd2.size)
  have De := (D1.below hb).alloc (.cells #[.int .i64 Z2, .int .i64 E2] 47)
  have ce := De.cell
  have be2 := be.alloc be.size (.cells #[.int .i64 Z2, .int .i64 E2] 47)
  clear hb bd2 Bd cd D1 be De
  have x5 : decide (Z ≤ L * E) = true := decide_eq_true hZE
  have x6 : decide (L * E2 < Z2) = true := decide_eq_true hZE2
  have m4 := mul_bd (x := L) (y := E) (p := 2490) (q := 40000) (by omega) (by omega) (by omega) eb
  have m5 := mul_bd (x := L) (y := E2) (p := 2490) (q := 40000) (by omega) (by omega) (by omega) ed
  clear hZE hZE2
  go_wp2
  go_returns
  exact ⟨rfl, be2⟩
end Go.Proofs.Ytdkklkpegnblnaa
