/- The walk of the law FnOpRounds. Printed by mkoy.py. -/
import Derived.Test.YtgghjieeckkpbaaOx
import Derived.Test.YtgghjieeckkpbaaFx
import Derived.Test.YtgghjieeckkpbaaDq
import Derived.Deep.CutRange
import Derived.Lib.MinMax
namespace Go.Proofs.Ytgghjieeckkpbaa
open Go.RowKit Go.Shelf

set_option maxRecDepth 100000 in
set_option maxHeartbeats 8000000 in
theorem law_OpRounds (A : Option Addr) (n c : Nat) (w : World) (h : Bytes w A n c) :
    Calls Try.prog 3 #[.slice A n c] w fun e w' => e = .returned (.bool true) ∧ Below w.heap.size w w' := by
  have nn := h.1
  have nc := h.2.1
  have H := Lib.hid h
  clear h
  go_enter Try.func3, Try.ntmps3
  go_wp2_with fail
  refine (f6big_any _ _ _ _ (by omega)).mono ?_
  rintro e w' ⟨rfl, rfl⟩
  cases hz : decide (4096 < n) with
  | true =>
    go_wp2
    go_ret
    exact ⟨rfl, Below.refl _ _⟩
  | false =>
  clear hz
  go_wp2_with fail
  refine (drawCount_any _ _ _ _ H.out).mono ?_
  rintro e w1 ⟨gl, nl, cl, ops, rfl, hnl, hr, hb1⟩
  have R1 := Lib.hid hr
  have B1 := Lib.hid hb1
  have s1 := hb1.size
  have hll := hr.len
  have hlc := hr.cap
  have hlm := hr.max
  have hco := co_code (ops := ops)
  have hrz := fun (h : (roZ ops).2 = 0) => rd_law (hco.2.1 h) hll
  have hro := fun (h : (roZ ops).2 = 0) => (show roZ ops = (decL (endL ops (wtR ops)), 0) ∧ lmZ ops = (maxL (endL ops (wtM ops)), 0) from ⟨roZ_ok (hco.2.1 h), lmZ_ok (hco.2.1 h)⟩)
  have hnd := fun (t : Nat) (q : List Int) (h : (ndZ ops).1[t]? = some q) => nd_law h
  have hI1 := fun W h => implCountOpOrders_any (some ⟨gl, 0, none⟩) nl cl ops W h
  have hS1 := fun W h => specCountOpOrders_any (some ⟨gl, 0, none⟩) nl cl ops W h
  have hI2 := fun W h => implRoundsOf_any (some ⟨gl, 0, none⟩) nl cl ops W h
  have hS2 := fun W h => specRoundsOf_any (some ⟨gl, 0, none⟩) nl cl ops W h
  have hI3 := fun W h => implLeastMinutes_any (some ⟨gl, 0, none⟩) nl cl ops W h
  have hS3 := fun W h => specLeastMinutes_any (some ⟨gl, 0, none⟩) nl cl ops W h
  have hI4 := fun W h => implNeedlessBefore_any (some ⟨gl, 0, none⟩) nl cl ops W h
  have hS4 := fun W h => specNeedlessBefore_any (some ⟨gl, 0, none⟩) nl cl ops W h
  have HCO := Lib.hid (And.intro hco.1 hco.2.2)
  obtain ⟨cn, hcn⟩ : ∃ x, coZ ops = x := ⟨_, rfl⟩
  obtain ⟨cz1, cz2⟩ := cn
  obtain ⟨rn, hrn⟩ : ∃ x, roZ ops = x := ⟨_, rfl⟩
  obtain ⟨rz1, rz2⟩ := rn
  obtain ⟨ln, hln⟩ : ∃ x, lmZ ops = x := ⟨_, rfl⟩
  obtain ⟨lz1, lz2⟩ := ln
  obtain ⟨dn, hdn⟩ : ∃ x, ndZ ops = x := ⟨_, rfl⟩
  obtain ⟨dz1, dz2⟩ := dn
  rw [hcn] at hI1 hS1 HCO
  rw [hrn] at hI2 hS2 HCO hrz hro
  rw [hln] at hI3 hS3 hro
  rw [hdn] at hI4 hS4 hnd
  simp only at hI1 hS1 hI2 hS2 hI3 hS3 hI4 hS4 HCO hrz hro hnd
  have HI1 := Lib.hid hI1
  have HS1 := Lib.hid hS1
  have HI2 := Lib.hid hI2
  have HS2 := Lib.hid hS2
  have HI3 := Lib.hid hI3
  have HS3 := Lib.hid hS3
  have HI4 := Lib.hid hI4
  have HS4 := Lib.hid hS4
  have HRZ := Lib.hid hrz
  have HRO := Lib.hid hro
  have HND := Lib.hid hnd
  have HLL := Lib.hid hll
  clear hI1 hS1 hI2 hS2 hI3 hS3 hI4 hS4 hrz hro hnd hco hcn hrn hln hdn hr hb1 hll
  go_wp2_with fail
  refine (HI1.out _ R1.out).mono ?_
  rintro e w2 ⟨rfl, hb⟩
  have R2 := Lib.hid (R1.out.below hb)
  have B2 := Lib.hid (B1.out.trans (hb.mono s1))
  have s2 := B2.out.size
  clear hb R1 B1 s1
  go_wp2_with fail
  refine (HS1.out _ R2.out).mono ?_
  rintro e w3 ⟨rfl, hb⟩
  have R3 := Lib.hid (R2.out.below hb)
  have B3 := Lib.hid (B2.out.trans (hb.mono s2))
  have s3 := B3.out.size
  clear hb R2 B2 s2
  go_wp2_with fail
  refine (HI2.out _ R3.out).mono ?_
  rintro e w4 ⟨A1, n1, c1, rfl, ho, hb⟩
  have X4 := Lib.hid (Rd.of_own ho)
  have R4 := Lib.hid (R3.out.below hb)
  have B4 := Lib.hid (B3.out.trans (hb.mono s3))
  have s4 := B4.out.size
  clear ho hb R3 B3 s3
  go_wp2_with fail
  refine (HS2.out _ R4.out).mono ?_
  rintro e w5 ⟨A2, n2, c2, rfl, ho, hb⟩
  have Y5 := Lib.hid (Rd.of_own ho)
  have X5 := Lib.hid (X4.out.below hb)
  have R5 := Lib.hid (R4.out.below hb)
  have B5 := Lib.hid (B4.out.trans (hb.mono s4))
  have s5 := B5.out.size
  clear ho hb R4 B4 s4 X4
  go_wp2_with fail
  refine (HI3.out _ R5.out).mono ?_
  rintro e w6 ⟨rfl, hb⟩
  have Y6 := Lib.hid (Y5.out.below hb)
  have X6 := Lib.hid (X5.out.below hb)
  have R6 := Lib.hid (R5.out.below hb)
  have B6 := Lib.hid (B5.out.trans (hb.mono s5))
  have s6 := B6.out.size
  clear hb R5 B5 s5 X5 Y5
  go_wp2_with fail
  refine (HS3.out _ R6.out).mono ?_
  rintro e w7 ⟨rfl, hb⟩
  have Y7 := Lib.hid (Y6.out.below hb)
  have X7 := Lib.hid (X6.out.below hb)
  have R7 := Lib.hid (R6.out.below hb)
  have B7 := Lib.hid (B6.out.trans (hb.mono s6))
  have s7 := B7.out.size
  clear hb R6 B6 s6 X6 Y6
  go_wp2_with fail
  refine (HI4.out _ R7.out).mono ?_
  rintro e w8 ⟨A3, n3, c3, cs3, G3, rfl, ho, hb⟩
  have P8 := Lib.hid ho.rd
  have Y8 := Lib.hid (Y7.out.below hb)
  have X8 := Lib.hid (X7.out.below hb)
  have R8 := Lib.hid (R7.out.below hb)
  have B8 := Lib.hid (B7.out.trans (hb.mono s7))
  have s8 := B8.out.size
  clear ho hb R7 B7 s7 X7 Y7
  go_wp2_with fail
  refine (HS4.out _ R8.out).mono ?_
  rintro e w9 ⟨A4, n4, c4, cs4, G4, rfl, ho, hb⟩
  have N9 := Lib.hid ho.rd
  have P9 := Lib.hid (P8.out.below hb)
  have Y9 := Lib.hid (Y8.out.below hb)
  have X9 := Lib.hid (X8.out.below hb)
  have R9 := Lib.hid (R8.out.below hb)
  have B9 := Lib.hid (B8.out.trans (hb.mono s8))
  have s9 := B9.out.size
  clear ho hb R8 B8 s8 X8 Y8 P8
  go_wp2_with fail
  refine (drawReady_any _ _ _ _ (H.out.below B9.out)).mono ?_
  rintro e wa ⟨ga, na, ca, opa, gd, nd, cd, ds, rfl, hna, hnd, hra, hrd, hb⟩
  have D10 := Lib.hid hrd
  have Q10 := Lib.hid hra
  have N10 := Lib.hid (N9.out.below hb)
  have P10 := Lib.hid (P9.out.below hb)
  have Y10 := Lib.hid (Y9.out.below hb)
  have X10 := Lib.hid (X9.out.below hb)
  have R10 := Lib.hid (R9.out.below hb)
  have B10 := Lib.hid (B9.out.trans (hb.mono s9))
  have s10 := B10.out.size
  have hac := hra.cap
  have ham := hra.max
  have hal := hra.len
  have hI5 := fun W h h' => implReadyOps_any (some ⟨ga, 0, none⟩) na ca opa (some ⟨gd, 0, none⟩) nd cd ds W h h'
  have hS5 := fun W h h' => specReadyOps_any (some ⟨ga, 0, none⟩) na ca opa (some ⟨gd, 0, none⟩) nd cd ds W h h'
  obtain ⟨yn, hyn⟩ : ∃ x, rdZ opa ds = x := ⟨_, rfl⟩
  obtain ⟨yz1, yz2⟩ := yn
  have hry := fun (h : yz2 = 0) (i : Nat) (x : Int) (hx : yz1[i]? = some x) => rd_ready (ops := opa) (os := ds) (R := yz1) (by rw [hyn, h]) hx
  rw [hyn] at hI5 hS5
  simp only at hI5 hS5
  have HI5 := Lib.hid hI5
  have HS5 := Lib.hid hS5
  have HRY := Lib.hid hry
  have HAL := Lib.hid hal
  clear hI5 hS5 hry hyn hrd hra hb N9 P9 Y9 X9 R9 B9 s9 hal
  go_wp2_with fail
  refine (HI5.out _ Q10.out D10.out).mono ?_
  rintro e wb ⟨A5, n5, c5, rfl, ho, hb⟩
  have U11 := Lib.hid (Rd.of_own ho)
  have D11 := Lib.hid (D10.out.below hb)
  have Q11 := Lib.hid (Q10.out.below hb)
  have N11 := Lib.hid (N10.out.below hb)
  have P11 := Lib.hid (P10.out.below hb)
  have Y11 := Lib.hid (Y10.out.below hb)
  have X11 := Lib.hid (X10.out.below hb)
  have R11 := Lib.hid (R10.out.below hb)
  have B11 := Lib.hid (B10.out.trans (hb.mono s10))
  have s11 := B11.out.size
  clear ho hb D10 Q10 N10 P10 Y10 X10 R10 B10 s10
  go_wp2_with fail
  refine (HS5.out _ Q11.out D11.out).mono ?_
  rintro e wcc ⟨A6, n6, c6, rfl, ho, hb⟩
  have V12 := Lib.hid (Rd.of_own ho)
  have U12 := Lib.hid (U11.out.below hb)
  have D12 := Lib.hid (D11.out.below hb)
  have Q12 := Lib.hid (Q11.out.below hb)
  have N12 := Lib.hid (N11.out.below hb)
  have P12 := Lib.hid (P11.out.below hb)
  have Y12 := Lib.hid (Y11.out.below hb)
  have X12 := Lib.hid (X11.out.below hb)
  have R12 := Lib.hid (R11.out.below hb)
  have B12 := Lib.hid (B11.out.trans (hb.mono s11))
  have s12 := B12.out.size
  clear ho hb U11 D11 Q11 N11 P11 Y11 X11 R11 B11 s11 HI1 HS1 HI2 HS2 HI3 HS3 HI4 HS4 HI5 HS5
  have hbn1 : ∀ z : Int, (z != z) = false := fun z => by simp
  have hq1 := hbn1 cz1
  have hq2 := hbn1 cz2
  have hq3 := hbn1 rz2
  have hq4 := hbn1 lz1
  have hq5 := hbn1 lz2
  have hq6 := hbn1 dz2
  have hq7 := hbn1 yz2
  clear hbn1
  go_wp2_with fail
  refine (f6ints_bel _ _ _ rz1 _ _ _ _ X12.out Y12.out).mono ?_
  rintro e wd ⟨rfl, hb⟩
  have V13 := Lib.hid (V12.out.below hb)
  have U13 := Lib.hid (U12.out.below hb)
  have D13 := Lib.hid (D12.out.below hb)
  have Q13 := Lib.hid (Q12.out.below hb)
  have N13 := Lib.hid (N12.out.below hb)
  have P13 := Lib.hid (P12.out.below hb)
  have Y13 := Lib.hid (Y12.out.below hb)
  have R13 := Lib.hid (R12.out.below hb)
  have B13 := Lib.hid (B12.out.trans (hb.mono s12))
  have s13 := B13.out.size
  clear hb V12 U12 D12 Q12 N12 P12 Y12 X12 R12 B12 s12
  go_wp2_with fail
  refine (f6lists_self _ _ _ _ _ _ dz1 _ P13.out N13.out).mono ?_
  rintro e we ⟨rfl, hb⟩
  have V14 := Lib.hid (V13.out.below hb)
  have U14 := Lib.hid (U13.out.below hb)
  have D14 := Lib.hid (D13.out.below hb)
  have Q14 := Lib.hid (Q13.out.below hb)
  have N14 := Lib.hid (N13.out.below hb)
  have Y14 := Lib.hid (Y13.out.below hb)
  have R14 := Lib.hid (R13.out.below hb)
  have B14 := Lib.hid (B13.out.trans (hb.mono s13))
  have s14 := B14.out.size
  clear hb V13 U13 D13 Q13 N13 P13 Y13 R13 B13 s13
  go_wp2_with fail
  refine (f6ints_bel _ _ _ yz1 _ _ _ _ U14.out V14.out).mono ?_
  rintro e wf ⟨rfl, hb⟩
  have V := Lib.hid (V14.out.below hb)
  have D := Lib.hid (D14.out.below hb)
  have Q := Lib.hid (Q14.out.below hb)
  have N := Lib.hid (N14.out.below hb)
  have Y := Lib.hid (Y14.out.below hb)
  have R := Lib.hid (R14.out.below hb)
  have B := Lib.hid (B14.out.trans (hb.mono s14))
  have sB := B.out.size
  clear hb V14 U14 D14 Q14 N14 Y14 R14 B14 s14 hq1 hq2 hq3 hq4 hq5 hq6 hq7
  go_upto_if 148 with fail
  go_cut [26, 27, 28] from 147 (fun _ _ _ wx => Hid (Below wf.heap.size wf wx))
  case first =>
    clear HRZ HRO HND HCO
    by_cases h7 : yz2 = 0
    · subst h7
      have HRY0 := Lib.hid (HRY.out rfl)
      have v1 := V.out.cap
      have v2 := V.out.max
      have vl := V.out.ilen
      clear HRY
      go_wp2
      go_loopg [26, 27, 28] n6 (fun gg vi _ _ wr => ∃ i : Nat, i ≤ n6 ∧ n6 - i ≤ gg ∧ vi = .int .i64 i ∧ wf = wr)
      case atStart => exact ⟨0, Nat.zero_le _, by omega, rfl, rfl⟩
      case round =>
        obtain ⟨i, hi, hgg, rfl, hwe⟩ := hrel
        subst hwe
        by_cases hlt : i < n6
        · have hi0 : (0 : Int) ≤ (i : Int) := by omega
          have hi1 : (i : Int) < (n6 : Int) := by omega
          obtain ⟨b, o, x, hA, hbl, hx, hcx⟩ := V.out.int hlt
          subst hA
          obtain ⟨k, p, rfl, hp, hd0, hd1⟩ := HRY0.out i x hx
          have hk : k < na := by have := (List.getElem?_eq_some_iff.1 hp).1; have := HAL.out; omega
          obtain ⟨p', b', o', B', m', d', hp', hps', hA', hbl', c0, c1, c2, hr'⟩ := Q.out.op hk
          rw [hp] at hp'
          injection hp' with hp'
          subst hp'
          injection hA' with hA'
          injection hA' with e1 e2
          subst e1
          subst e2
          rw [Nat.zero_add] at c2
          have hk0 : (0 : Int) ≤ (k : Int) := by omega
          have hk1 : (k : Int) < (na : Int) := by omega
          have hh := f6has_any _ _ _ ds (k : Int) _ D.out
          rw [hd0] at hh
          have HH := Lib.hid hh
          have HD1 := Lib.hid hd1
          have HB' := Lib.hid hr'
          have hm1 := hr'.cap
          have hm2 := hr'.max
          clear hh hx hp hd0 hd1 hr' c0 c1
          go_wp2_with (go_at_call 30; refine (HH.out).mono ?_; rintro e w' ⟨rfl, rfl⟩)
          go_loopg [28] m' (fun gg vj wr => ∃ j : Nat, j ≤ m' ∧ m' - j ≤ gg ∧ vj = .int .i64 j ∧ wf = wr)
          case atStart => exact ⟨0, Nat.zero_le _, by omega, rfl, rfl⟩
          case round =>
            obtain ⟨j, hj, hgg2, rfl, hwe⟩ := hrel
            subst hwe
            by_cases hlj : j < m'
            · have hj0 : (0 : Int) ≤ (j : Int) := by omega
              have hj1 : (j : Int) < (m' : Int) := by omega
              obtain ⟨b4, o4, y, hA4, hbl4, hy, hcy⟩ := HB'.out.int hlj
              subst hA4
              have hh := f6has_any _ _ _ ds y _ D.out
              rw [HD1.out j y hy] at hh
              have HH2 := Lib.hid hh
              clear hh hy
              go_wp2_with (go_at_call 30; refine (HH2.out).mono ?_; rintro e w' ⟨rfl, rfl⟩)
              go_roundg (m' - (j + 1))
              case measure => omega
              case rel => exact ⟨j + 1, by omega, by omega, by go_num, by first | trivial | rfl⟩
            · go_wp2
              go_roundg (n6 - (i + 1))
              case measure => omega
              case rel => exact ⟨i + 1, by omega, by omega, by go_num, by first | trivial | rfl⟩
        · go_wp2
          go_meet
          exact Lib.hid (Below.refl _ _)
    · have h7' : (yz2 == 0) = false := by simpa using h7
      go_wp2
      go_meet
      exact Lib.hid (Below.refl _ _)
  case rest =>
  obtain ⟨wg, rfl⟩ : ∃ w', w' = wc := ⟨_, rfl⟩
  have HBG := Lib.hid (B.out.trans (hcut.out.mono sB))
  have Ng := Lib.hid (N.out.below hcut.out)
  have Yg := Lib.hid (Y.out.below hcut.out)
  have Rg := Lib.hid (R.out.below hcut.out)
  have sg := HBG.out.size
  clear V D Q N Y R B sB hcut HRY HAL
  by_cases h2 : rz2 = 0
  · subst h2
    have hL := HRZ.out rfl
    obtain ⟨hE, hlz⟩ := HRO.out rfl
    injection hE with hE hE2
    injection hlz with hlz hlz2
    subst hE
    subst hlz
    subst hlz2
    clear hE2
    clear HRO HRZ
    generalize endL ops (wtR ops) = E at *
    generalize maxL (endL ops (wtM ops)) = LM at *
    have hcc : (cz2 == 0) = true → (decide (cz1 < 1)) = false := fun h => by
      have := HCO.out.2 (by simpa using h)
      exact decide_eq_false (by omega)
    go_upto_region 31 with fail
    go_cut [191] from 184 (fun v wx => v = .bool false ∧ wg = wx)
    case first =>
      by_cases hz : cz2 = 0
      · subst hz
        have hc1 := hcc rfl
        have hc2 : ¬ cz1 < 1 := of_decide_eq_false hc1
        clear hcc
        go_wp2
        go_meet
        exact ⟨rfl, rfl⟩
      · have hz2 : (cz2 == 0) = false := by simpa using hz
        clear hcc
        go_wp2
        go_meet
        exact ⟨rfl, rfl⟩
    case rest =>
    obtain ⟨rfl, hwe⟩ := hcut
    subst hwe
    have HL := Lib.hid hL
    have y1 := Yg.out.cap
    have y2 := Yg.out.max
    have yl := Yg.out.ilen
    have hn2 : n2 = nl := by
      have := HL.out.el
      simp only [decL, List.length_map] at yl
      omega
    have n1' := Ng.out.cap
    have n2' := Ng.out.max
    subst hn2
    clear hL hcc HCO yl
    go_wp2
    go_loopg [29, 30, 31, 32, 33] n2 (fun gg v29 v30 v31 _ _ wr => ∃ (i : Nat) (S T : Int), i ≤ n2 ∧ n2 - i ≤ gg ∧ v29 = .int .i64 S ∧ v30 = .int .i64 T ∧ v31 = .int .i64 i ∧ Hid (S = smK ops i) ∧ Hid (T = tpK ops i) ∧ 0 ≤ S ∧ S ≤ 600 * (i : Int) ∧ wg = wr)
    case atStart => exact ⟨0, 0, 0, Nat.zero_le _, by omega, rfl, rfl, rfl, Lib.hid rfl, Lib.hid rfl, by omega, by omega, rfl⟩
    case round =>
      obtain ⟨i, S, T, hi, hgg, rfl, rfl, rfl, HS, HT, hs0, hs1, hwe⟩ := hrel
      subst hwe
      by_cases hlt : i < n2
      · have hi0 : (0 : Int) ≤ (i : Int) := by omega
        have hi1 : (i : Int) < (n2 : Int) := by omega
        obtain ⟨p, b', o', B', m', d', hp, hps, hA', hbl', c0, c1, c2, hr'⟩ := Rg.out.op hlt
        injection hA' with hA'
        injection hA' with e1 e2
        subst e1
        subst e2
        rw [Nat.zero_add] at c1 c2
        obtain ⟨b3, o3, y, hA3, hbl3, hy, hcy⟩ := Yg.out.int hlt
        subst hA3
        have hmn := HL.out.mn i p hp
        have hval := HL.out.val i p hp
        have hinn := HL.out.inn i p hp
        have hsb := HL.out.smb (i + 1) (by omega)
        have hss : smK ops (i + 1) = smK ops i + wtM ops i := rfl
        have htt : tpK ops (i + 1) = max (tpK ops i) (wtM ops i) := rfl
        rw [hmn.2.2] at hss htt
        rw [← HS.out] at hss
        rw [← HT.out] at htt
        have hyE : y = E.getD i 0 - 1 := by
          unfold decL at hy
          rw [List.getElem?_map, getD_of (by have := HL.out.el; omega)] at hy
          simp at hy
          exact hy.symm
        rw [hval] at hyE
        have hrl := hr'.ilen
        have hm1 := hr'.cap
        have hm2 := hr'.max
        have hmx := mx_bd (M := 8400) (by omega) HL.out.bd p.bf
        have HMXB := Lib.hid (fun j => mx_bd (M := 8400) (by omega) HL.out.bd (p.bf.take j))
        have HST : Hid (∀ (j x : Nat), p.bf[j]? = some (x : Int) → mx E (p.bf.take (j + 1)) = max (mx E (p.bf.take j)) (E.getD x 0)) := Lib.hid (fun j x h => mx_take h)
        have HFIN : Hid (mx E (p.bf.take m') = mx E p.bf) := Lib.hid (by rw [List.take_of_length_le (by omega)])
        have HM0 : Hid (mx E (p.bf.take 0) = 0) := Lib.hid rfl
        have HINN := Lib.hid hinn
        have HB' := Lib.hid hr'
        have HSS := Lib.hid hss
        have HTT := Lib.hid htt
        obtain ⟨G, hG⟩ : ∃ G : Nat → Int, ∀ j, mx E (p.bf.take j) = G j := ⟨_, fun _ => rfl⟩
        simp only [hG] at HMXB HST HFIN HM0
        obtain ⟨FX, hFX⟩ : ∃ FX, mx E p.bf = FX := ⟨_, rfl⟩
        rw [hFX] at HFIN hyE hmx
        subst hyE
        have hmb := hmn.1
        have hmc := hmn.2.1
        rw [hss] at hsb
        clear hp hval hinn hss htt hr' c0 hy hrl hmn hG hFX
        go_wp2
        go_loopg [32, 33] m' (fun gg v32 v33 wr => ∃ j : Nat, j ≤ m' ∧ m' - j ≤ gg ∧ v33 = .int .i64 j ∧ v32 = .int .i64 (G j - 1) ∧ wg = wr)
        case atStart => exact ⟨0, Nat.zero_le _, by omega, rfl, by rw [HM0.out]; rfl, rfl⟩
        case round =>
          obtain ⟨j, hj, hgg2, rfl, rfl, hwe⟩ := hrel
          subst hwe
          have hGb := HMXB.out j
          by_cases hlj : j < m'
          · have hj0 : (0 : Int) ≤ (j : Int) := by omega
            have hj1 : (j : Int) < (m' : Int) := by omega
            obtain ⟨b4, o4, x, hA4, hbl4, hx, hcx⟩ := HB'.out.int hlj
            subst hA4
            have hxr := HINN.out j x hx
            obtain ⟨x, rfl⟩ := Int.eq_ofNat_of_zero_le hxr.1
            have hxn : x < n2 := by omega
            obtain ⟨b5, o5, z, hA5, hbl5, hz, hcz⟩ := Yg.out.int hxn
            injection hA5 with hA5
            injection hA5 with e3 e4
            subst e3
            subst e4
            have hzE : z = E.getD x 0 - 1 := by
              unfold decL at hz
              rw [List.getElem?_map, getD_of (by have := HL.out.el; omega)] at hz
              simp at hz
              exact hz.symm
            have hst := HST.out j x hx
            have hbx := HL.out.bd x
            generalize E.getD x 0 = ex at *
            subst hzE
            have hx0 : (0 : Int) ≤ (x : Int) := by omega
            have hx1 : (x : Int) < (n2 : Int) := by omega
            have HG2 : Hid (max (G j - 1) (ex - 1) = G (j + 1) - 1) := Lib.hid (by rw [hst]; omega)
            generalize G j = gj at *
            clear hx hz hst
            go_wp2
            go_roundg (m' - (j + 1))
            case measure => omega
            case rel => exact ⟨j + 1, by omega, by omega, by go_num, by rw [HG2.out], by first | trivial | rfl⟩
          · obtain rfl : j = m' := by omega
            rw [HFIN.out]
            have hne : ((FX + 1 - 1) != (FX - 1 + 1)) = false := by simp
            have hne2 : (FX != (FX - 1 + 1)) = false := by simp
            go_wp2
            go_roundg (n2 - (i + 1))
            case measure => omega
            case rel => exact ⟨i + 1, _, _, by omega, by omega, rfl, rfl, by go_num, Lib.hid HSS.out.symm, Lib.hid HTT.out.symm, by omega, by omega, by first | trivial | rfl⟩
      · obtain rfl : i = n2 := by omega
        have hTL : T ≤ LM := by rw [HT.out]; exact HL.out.top
        have hLS : LM ≤ S := by rw [HS.out]; exact HL.out.sum
        clear HS HT HL Yg
        have d1 : decide (T ≤ LM) = true := decide_eq_true hTL
        have d2 : decide (LM ≤ S) = true := decide_eq_true hLS
        go_wp2
        go_loopg [34] n4 (fun gg vi wr => ∃ t : Nat, t ≤ n4 ∧ n4 - t ≤ gg ∧ vi = .int .i64 t ∧ Hid (Below wg.heap.size wg wr))
        case atStart => exact ⟨0, Nat.zero_le _, by omega, rfl, Lib.hid (Below.refl _ _)⟩
        case round =>
          obtain ⟨t, ht, hgg3, rfl, HW⟩ := hrel
          by_cases hlt2 : t < n4
          · have ht0 : (0 : Int) ≤ (t : Int) := by omega
            have ht1 : (t : Int) < (n4 : Int) := by omega
            obtain ⟨q, b, o, X, m, d, hq, hA, hbl, hc, hr⟩ := (Ng.out.below HW.out).row hlt2
            subst hA
            obtain ⟨k, p, x, hp, rfl, hx⟩ := HND.out t q hq
            have hm2 : m = 2 := by have := hr.ilen; simpa using this.symm
            subst hm2
            obtain ⟨b1, o1, z0, hX, _, hz0, hc0⟩ := hr.int (k := 0) (by omega)
            obtain ⟨b2, o2, z1, hX2, _, hz1, hc1⟩ := hr.int (k := 1) (by omega)
            subst hX
            injection hX2 with hX2
            injection hX2 with e1 e2
            subst e1
            subst e2
            simp at hz0 hz1
            subst hz0
            subst hz1
            rw [Nat.add_zero] at hc0
            have hd1 := hr.cap
            have hd2 := hr.max
            have hki : k < i := by have := (List.getElem?_eq_some_iff.1 hp).1; have := HLL.out; omega
            have hk0 : (0 : Int) ≤ (k : Int) := by omega
            have hk1 : (k : Int) < (i : Int) := by omega
            obtain ⟨p', b', o', B', m', d', hp', _, hA', _, _, _, c2, hr'⟩ := (Rg.out.below HW.out).op hki
            rw [hp] at hp'
            injection hp' with hp'
            subst hp'
            injection hA' with hA'
            injection hA' with e1 e2
            subst e1
            subst e2
            rw [Nat.zero_add] at c2
            have hv1 := hr'.cap
            have hv2 := hr'.max
            have HH : Hid (∀ W, Below wr.heap.size wr W → Calls Try.prog 30 #[.slice B' m' d', .int .i64 x] W fun e w' => e = .returned (.bool true) ∧ W = w') := Lib.hid (fun W hW => by
              have := f6has_any B' m' d' p.bf x W (hr'.below hW)
              rw [hx] at this
              exact this)
            clear hq hr hr' hx hp
            go_wp2
            go_quiet ((go_at_call 30; refine Calls.quiet_of_same ((HH.out _ (by first | exact Below.refl _ _ | exact below_drewN (Below.refl _ _) _ | exact (Below.refl _ _).drew)).mono fun _ _ h => ⟨h.1, h.2.symm⟩)))
            have HW2 := Lib.hid (below_drewN HW.out nq)
            generalize wr.drewN nq = w8 at *
            go_wp2
            go_roundg (n4 - (t + 1))
            case measure => omega
            case rel => exact ⟨t + 1, by omega, by omega, by go_num, HW2⟩
          · obtain rfl : t = n4 := by omega
            have hBF := HBG.out.trans (HW.out.mono sg)
            go_wp2
            go_ret
            exact ⟨rfl, hBF⟩
  · have h2' : (rz2 != 0) = true := by simpa using h2
    have hc2 : (cz2 != 0) = true := by simpa using HCO.out.1 h2
    go_wp2
    go_ret
    exact ⟨rfl, HBG.out⟩
end Go.Proofs.Ytgghjieeckkpbaa
