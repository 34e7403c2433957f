/- The walk of the law FnOps. Printed by mkob.py. -/
import Derived.Test.YtgghjieeckkpbaaDoorOa
import Derived.Test.YtgghjieeckkpbaaDoorFx
import Derived.Test.YtgghjieeckkpbaaDoorDt
import Derived.Test.YtgghjieeckkpbaaDoorOu
import Derived.Test.YtgghjieeckkpbaaDoorVo
import Derived.Deep.CutRange
namespace Go.Proofs.YtgghjieeckkpbaaDoor
open Go.RowKit Go.Shelf

set_option maxRecDepth 100000 in
set_option maxHeartbeats 4000000 in
theorem law_Ops (A : Option Addr) (n c : Nat) (w : World) (h : Bytes w A n c) (ht : PowT w.heap.size w) :
    Calls Tryd.prog 4 #[.slice A n c] w fun e w' => e = .returned (.bool true) ∧ Below w.heap.size w w' := by
  have nn := h.1
  have nc := h.2.1
  have H := Lib.hid h
  have HT := Lib.hid ht
  clear h ht
  go_enter Tryd.func4, Tryd.ntmps4
  go_wp2_with fail
  refine (f6big_any _ _ _ _ (by omega)).mono ?_
  rintro e w' ⟨rfl, rfl⟩
  cases hz : decide (4096 < n) with
  | true =>
    go_wp2
    go_ret
    exact ⟨rfl, Below.refl _ _⟩
  | false =>
  clear hz
  have B_0 := Lib.hid (Below.refl w.heap.size w)
  have H_0 := Lib.hid H.out
  clear H
  go_wp2_with fail
  refine (drawOrder_any _ _ _ _ H_0.out).mono ?_
  rintro e w1 ⟨gl, nl, cl, opl, rfl, hnl, hr, hb⟩
  have H_1 := Lib.hid (H_0.out.below hb)
  have R_1 := Lib.hid (hr)
  have B_1 := Lib.hid (B_0.out.trans (hb.mono B_0.out.size))
  clear hb B_0 H_0
  have hll := hr.len
  have hlc := hr.cap
  have hlm := hr.max
  have hlaw := og_code (ops := opl)
  have hol := fun (h : codeO opl = 0) => ord_law h hll
  have hI1 := fun W h => implOrderOfOps_any (some ⟨gl, 0, none⟩) nl cl opl W h
  have hS1 := fun W h => specOrderOfOps_any (some ⟨gl, 0, none⟩) nl cl opl W h
  have hI2 := fun W h => implCircleOf_any (some ⟨gl, 0, none⟩) nl cl opl W h
  have hS2 := fun W h => specCircleOf_any (some ⟨gl, 0, none⟩) nl cl opl W h
  have hV1 := fun W h => implValidOps_any (some ⟨gl, 0, none⟩) nl cl opl W h
  have hV2 := fun W h => specValidOps_any (some ⟨gl, 0, none⟩) nl cl opl W h
  have hIO := fun A m d os W h h' => implIsOpOrder_any (some ⟨gl, 0, none⟩) nl cl opl A m d os W h h'
  have hAB := fun z W h => implAllBefore_any (some ⟨gl, 0, none⟩) nl cl opl z W h
  have HLAW : Hid (((circP opl).2 = 0 → (decide (0 ≤ (circP opl).1)) = ((ogZ opl).2 == 9)) ∧ ((ogZ opl).2 = 0 → OrdLaw opl nl (ogZ opl).1)) := Lib.hid ⟨hlaw.1, fun h => by
    obtain ⟨h1, h2⟩ := hlaw.2 h
    rw [h2]
    exact hol h1⟩
  clear hlaw hol hr
  obtain ⟨on, hon⟩ : ∃ x, ogZ opl = x := ⟨_, rfl⟩
  obtain ⟨oz1, oz2⟩ := on
  obtain ⟨cn, hcn⟩ : ∃ x, circP opl = x := ⟨_, rfl⟩
  obtain ⟨cz1, cz2⟩ := cn
  rw [hon] at hI1 hS1 HLAW
  rw [hcn] at hI2 hS2 HLAW
  simp only at hI1 hS1 hI2 hS2 HLAW
  obtain ⟨vk, hvk⟩ : ∃ x, okO opl = x := ⟨_, rfl⟩
  rw [hvk] at hV1 hV2
  have HI1 := Lib.hid hI1
  have HS1 := Lib.hid hS1
  have HI2 := Lib.hid hI2
  have HS2 := Lib.hid hS2
  have HV1 := Lib.hid hV1
  have HV2 := Lib.hid hV2
  have HIO := Lib.hid hIO
  have HAB := Lib.hid hAB
  have HLL := Lib.hid hll
  clear hI1 hS1 hI2 hS2 hV1 hV2 hIO hAB hon hcn hvk hll
  go_wp2_with fail
  refine (HI1.out _ R_1.out).mono ?_
  rintro e w2 ⟨A1, n1, c1, rfl, ho, hb⟩
  have H_2 := Lib.hid (H_1.out.below hb)
  have R_2 := Lib.hid (R_1.out.below hb)
  have X_2 := Lib.hid (Rd.of_own ho)
  have B_2 := Lib.hid (B_1.out.trans (hb.mono B_1.out.size))
  clear hb B_1 H_1 R_1
  clear ho
  go_wp2_with fail
  refine (HS1.out _ R_2.out).mono ?_
  rintro e w3 ⟨A2, n2, c2, rfl, ho, hb⟩
  have H_3 := Lib.hid (H_2.out.below hb)
  have R_3 := Lib.hid (R_2.out.below hb)
  have X_3 := Lib.hid (X_2.out.below hb)
  have Y_3 := Lib.hid (Rd.of_own ho)
  have B_3 := Lib.hid (B_2.out.trans (hb.mono B_2.out.size))
  clear hb B_2 H_2 R_2 X_2
  clear ho
  go_wp2_with fail
  refine (HI2.out _ R_3.out).mono ?_
  rintro e w4 ⟨rfl, hb⟩
  have H_4 := Lib.hid (H_3.out.below hb)
  have R_4 := Lib.hid (R_3.out.below hb)
  have X_4 := Lib.hid (X_3.out.below hb)
  have Y_4 := Lib.hid (Y_3.out.below hb)
  have B_4 := Lib.hid (B_3.out.trans (hb.mono B_3.out.size))
  clear hb B_3 H_3 R_3 X_3 Y_3
  go_wp2_with fail
  refine (HS2.out _ R_4.out).mono ?_
  rintro e w5 ⟨rfl, hb⟩
  have H_5 := Lib.hid (H_4.out.below hb)
  have R_5 := Lib.hid (R_4.out.below hb)
  have X_5 := Lib.hid (X_4.out.below hb)
  have Y_5 := Lib.hid (Y_4.out.below hb)
  have B_5 := Lib.hid (B_4.out.trans (hb.mono B_4.out.size))
  clear hb B_4 H_4 R_4 X_4 Y_4
  go_wp2_with fail
  refine (drawIs_any _ _ _ _ H_5.out).mono ?_
  rintro e w6 ⟨ga, na, ca, opa, Ad, nd, cd, ds, rfl, hra, hrd, hb⟩
  have H_6 := Lib.hid (H_5.out.below hb)
  have R_6 := Lib.hid (R_5.out.below hb)
  have X_6 := Lib.hid (X_5.out.below hb)
  have Y_6 := Lib.hid (Y_5.out.below hb)
  have Ra_6 := Lib.hid (hra)
  have Da_6 := Lib.hid (hrd)
  have B_6 := Lib.hid (B_5.out.trans (hb.mono B_5.out.size))
  clear hb B_5 H_5 R_5 X_5 Y_5
  have hac := hra.cap
  have ham := hra.max
  have hdc := hrd.cap
  have hdm := hrd.max
  clear hra hrd
  have hI3 := fun W h h' => implIsOpOrder_any (some ⟨ga, 0, none⟩) na ca opa Ad nd cd ds W h h'
  have hS3 := fun W h h' => specIsOpOrder_any (some ⟨ga, 0, none⟩) na ca opa Ad nd cd ds W h h'
  obtain ⟨inn, hin⟩ : ∃ x, isO opa ds = x := ⟨_, rfl⟩
  obtain ⟨iz1, iz2⟩ := inn
  rw [hin] at hI3 hS3
  simp only at hI3 hS3
  have HI3 := Lib.hid hI3
  have HS3 := Lib.hid hS3
  clear hI3 hS3 hin
  go_wp2_with fail
  refine (HI3.out _ Ra_6.out Da_6.out).mono ?_
  rintro e w7 ⟨rfl, hb⟩
  have H_7 := Lib.hid (H_6.out.below hb)
  have R_7 := Lib.hid (R_6.out.below hb)
  have X_7 := Lib.hid (X_6.out.below hb)
  have Y_7 := Lib.hid (Y_6.out.below hb)
  have Ra_7 := Lib.hid (Ra_6.out.below hb)
  have Da_7 := Lib.hid (Da_6.out.below hb)
  have B_7 := Lib.hid (B_6.out.trans (hb.mono B_6.out.size))
  clear hb B_6 H_6 R_6 X_6 Y_6 Ra_6 Da_6
  go_wp2_with fail
  refine (HS3.out _ Ra_7.out Da_7.out).mono ?_
  rintro e w8 ⟨rfl, hb⟩
  have H_8 := Lib.hid (H_7.out.below hb)
  have R_8 := Lib.hid (R_7.out.below hb)
  have X_8 := Lib.hid (X_7.out.below hb)
  have Y_8 := Lib.hid (Y_7.out.below hb)
  have Ra_8 := Lib.hid (Ra_7.out.below hb)
  have Da_8 := Lib.hid (Da_7.out.below hb)
  have B_8 := Lib.hid (B_7.out.trans (hb.mono B_7.out.size))
  clear hb B_7 H_7 R_7 X_7 Y_7 Ra_7 Da_7
  go_wp2_with fail
  refine (drawAll_any _ _ _ _ H_8.out).mono ?_
  rintro e w9 ⟨gb, nb, cb, opb, zb, rfl, hnb, hrb, hb⟩
  have H_9 := Lib.hid (H_8.out.below hb)
  have R_9 := Lib.hid (R_8.out.below hb)
  have X_9 := Lib.hid (X_8.out.below hb)
  have Y_9 := Lib.hid (Y_8.out.below hb)
  have Rb_9 := Lib.hid (hrb)
  have B_9 := Lib.hid (B_8.out.trans (hb.mono B_8.out.size))
  clear hb B_8 H_8 R_8 X_8 Y_8
  have hbc := hrb.cap
  have hbm := hrb.max
  clear hrb
  have hI4 := fun z W h => implAllBefore_any (some ⟨gb, 0, none⟩) nb cb opb z W h
  have hS4 := fun z W h => specAllBefore_any (some ⟨gb, 0, none⟩) nb cb opb z W h
  have hI4z := hI4 zb
  have hS4z := hS4 zb
  obtain ⟨an, han⟩ : ∃ x, abZ opb zb = x := ⟨_, rfl⟩
  obtain ⟨az1, az2⟩ := an
  have HAM : Hid (az2 = 0 → ∀ (i : Nat) (x : Int), az1[i]? = some x → ∃ S, abZ opb x = (S, 0) ∧ ∀ (j : Nat) (y : Int), S[j]? = some y → hasB az1 y = true) := Lib.hid (fun h i x hx => ab_more (by rw [han, h]) hx)
  rw [han] at hI4z hS4z
  simp only at hI4z hS4z
  have HI4 := Lib.hid hI4
  have HI4z := Lib.hid hI4z
  have HS4z := Lib.hid hS4z
  clear hI4 hS4 hI4z hS4z han
  go_wp2_with fail
  refine (HI4z.out _ Rb_9.out).mono ?_
  rintro e w10 ⟨A3, n3, c3, rfl, ho, hb⟩
  have H_10 := Lib.hid (H_9.out.below hb)
  have R_10 := Lib.hid (R_9.out.below hb)
  have X_10 := Lib.hid (X_9.out.below hb)
  have Y_10 := Lib.hid (Y_9.out.below hb)
  have Rb_10 := Lib.hid (Rb_9.out.below hb)
  have U_10 := Lib.hid (Rd.of_own ho)
  have B_10 := Lib.hid (B_9.out.trans (hb.mono B_9.out.size))
  clear hb B_9 H_9 R_9 X_9 Y_9 Rb_9
  clear ho
  go_wp2_with fail
  refine (HS4z.out _ Rb_10.out).mono ?_
  rintro e w11 ⟨A4, n4, c4, rfl, ho, hb⟩
  have H_11 := Lib.hid (H_10.out.below hb)
  have R_11 := Lib.hid (R_10.out.below hb)
  have X_11 := Lib.hid (X_10.out.below hb)
  have Y_11 := Lib.hid (Y_10.out.below hb)
  have Rb_11 := Lib.hid (Rb_10.out.below hb)
  have U_11 := Lib.hid (U_10.out.below hb)
  have V_11 := Lib.hid (Rd.of_own ho)
  have B_11 := Lib.hid (B_10.out.trans (hb.mono B_10.out.size))
  clear hb B_10 H_10 R_10 X_10 Y_10 Rb_10 U_10
  clear ho
  go_wp2_with fail
  refine (drawSame_any _ _ _ _ H_11.out).mono ?_
  rintro e w12 ⟨gc, nc2, cc, opc2, gd, nd2, cd2, opd, rfl, hrc, hrd, hb⟩
  have H_12 := Lib.hid (H_11.out.below hb)
  have R_12 := Lib.hid (R_11.out.below hb)
  have X_12 := Lib.hid (X_11.out.below hb)
  have Y_12 := Lib.hid (Y_11.out.below hb)
  have Rb_12 := Lib.hid (Rb_11.out.below hb)
  have U_12 := Lib.hid (U_11.out.below hb)
  have V_12 := Lib.hid (V_11.out.below hb)
  have Rc_12 := Lib.hid (hrc)
  have Rd2_12 := Lib.hid (hrd)
  have B_12 := Lib.hid (B_11.out.trans (hb.mono B_11.out.size))
  clear hb B_11 H_11 R_11 X_11 Y_11 Rb_11 U_11 V_11
  have hcc := hrc.cap
  have hcm := hrc.max
  have hddc := hrd.cap
  have hddm := hrd.max
  clear hrc hrd
  go_wp2_with fail
  refine (drawText_any _ _ _ _ H_12.out).mono ?_
  rintro e w13 ⟨ge, ne, ce, ope, ze, rfl, hne, hre, hb⟩
  have H_13 := Lib.hid (H_12.out.below hb)
  have R_13 := Lib.hid (R_12.out.below hb)
  have X_13 := Lib.hid (X_12.out.below hb)
  have Y_13 := Lib.hid (Y_12.out.below hb)
  have Rb_13 := Lib.hid (Rb_12.out.below hb)
  have U_13 := Lib.hid (U_12.out.below hb)
  have V_13 := Lib.hid (V_12.out.below hb)
  have Rc_13 := Lib.hid (Rc_12.out.below hb)
  have Rd2_13 := Lib.hid (Rd2_12.out.below hb)
  have Re_13 := Lib.hid (hre)
  have B_13 := Lib.hid (B_12.out.trans (hb.mono B_12.out.size))
  clear hb B_12 H_12 R_12 X_12 Y_12 Rb_12 U_12 V_12 Rc_12 Rd2_12
  have hec := hre.cap
  have hem := hre.max
  clear hre
  clear HI1 HS1 HI2 HS2 HI3 HS3 HI4z HS4z
  have hbn1 : ∀ z : Int, (z != z) = false := fun z => by simp
  have hq1 := hbn1 oz2
  have hq2 := hbn1 cz2
  have hq3 := hbn1 cz1
  have hq4 := hbn1 iz2
  have hq5 := hbn1 az2
  have hq6 : (iz1 != iz1) = false := by simp
  clear hbn1
  go_wp2_with fail
  refine (f6ints_bel _ _ _ oz1 _ _ _ _ X_13.out Y_13.out).mono ?_
  rintro e w14 ⟨rfl, hb⟩
  have R_14 := Lib.hid (R_13.out.below hb)
  have X_14 := Lib.hid (X_13.out.below hb)
  have Y_14 := Lib.hid (Y_13.out.below hb)
  have Rb_14 := Lib.hid (Rb_13.out.below hb)
  have U_14 := Lib.hid (U_13.out.below hb)
  have V_14 := Lib.hid (V_13.out.below hb)
  have Rc_14 := Lib.hid (Rc_13.out.below hb)
  have Rd2_14 := Lib.hid (Rd2_13.out.below hb)
  have Re_14 := Lib.hid (Re_13.out.below hb)
  have B_14 := Lib.hid (B_13.out.trans (hb.mono B_13.out.size))
  clear hb B_13 R_13 X_13 Y_13 Rb_13 U_13 V_13 Rc_13 Rd2_13 Re_13
  go_wp2_with fail
  refine (f6ints_bel _ _ _ az1 _ _ _ _ U_14.out V_14.out).mono ?_
  rintro e w15 ⟨rfl, hb⟩
  have R_15 := Lib.hid (R_14.out.below hb)
  have Y_15 := Lib.hid (Y_14.out.below hb)
  have Rb_15 := Lib.hid (Rb_14.out.below hb)
  have U_15 := Lib.hid (U_14.out.below hb)
  have V_15 := Lib.hid (V_14.out.below hb)
  have Rc_15 := Lib.hid (Rc_14.out.below hb)
  have Rd2_15 := Lib.hid (Rd2_14.out.below hb)
  have Re_15 := Lib.hid (Re_14.out.below hb)
  have B_15 := Lib.hid (B_14.out.trans (hb.mono B_14.out.size))
  clear hb B_14 R_14 Y_14 Rb_14 U_14 V_14 Rc_14 Rd2_14 Re_14
  go_wp2_with fail
  refine (implSameOps_any _ _ _ opc2 _ _ _ opd _ Rc_15.out Rd2_15.out).mono ?_
  rintro e w16 ⟨rfl, hb⟩
  have R_16 := Lib.hid (R_15.out.below hb)
  have Y_16 := Lib.hid (Y_15.out.below hb)
  have Rb_16 := Lib.hid (Rb_15.out.below hb)
  have V_16 := Lib.hid (V_15.out.below hb)
  have Rc_16 := Lib.hid (Rc_15.out.below hb)
  have Rd2_16 := Lib.hid (Rd2_15.out.below hb)
  have Re_16 := Lib.hid (Re_15.out.below hb)
  have B_16 := Lib.hid (B_15.out.trans (hb.mono B_15.out.size))
  clear hb B_15 R_15 Y_15 Rb_15 V_15 Rc_15 Rd2_15 Re_15
  go_wp2_with fail
  refine (specSameOps_any _ _ _ opc2 _ _ _ opd _ Rc_16.out Rd2_16.out).mono ?_
  rintro e w17 ⟨rfl, hb⟩
  have R_17 := Lib.hid (R_16.out.below hb)
  have Y_17 := Lib.hid (Y_16.out.below hb)
  have Rb_17 := Lib.hid (Rb_16.out.below hb)
  have V_17 := Lib.hid (V_16.out.below hb)
  have Rc_17 := Lib.hid (Rc_16.out.below hb)
  have Rd2_17 := Lib.hid (Rd2_16.out.below hb)
  have Re_17 := Lib.hid (Re_16.out.below hb)
  have B_17 := Lib.hid (B_16.out.trans (hb.mono B_16.out.size))
  clear hb B_16 R_16 Y_16 Rb_16 V_16 Rc_16 Rd2_16 Re_16
  have hq7 : (sameO opc2 opd != sameO opc2 opd) = false := by simp
  generalize sameO opc2 opd = sq at *
  go_wp2_with fail
  refine (implOpText_any _ _ _ ope ze _ Re_17.out w.heap.size (HT.out.on B_17.out) B_17.out.size).mono ?_
  rintro e w18 ⟨rfl, hb⟩
  have R_18 := Lib.hid (R_17.out.below hb)
  have Y_18 := Lib.hid (Y_17.out.below hb)
  have Rb_18 := Lib.hid (Rb_17.out.below hb)
  have V_18 := Lib.hid (V_17.out.below hb)
  have Re_18 := Lib.hid (Re_17.out.below hb)
  have B_18 := Lib.hid (B_17.out.trans (hb.mono B_17.out.size))
  clear hb B_17 R_17 Y_17 Rb_17 V_17 Re_17
  go_wp2_with fail
  refine (specOpText_any _ _ _ ope ze _ Re_18.out).mono ?_
  rintro e w19 ⟨rfl, hb⟩
  have R_19 := Lib.hid (R_18.out.below hb)
  have Y_19 := Lib.hid (Y_18.out.below hb)
  have Rb_19 := Lib.hid (Rb_18.out.below hb)
  have V_19 := Lib.hid (V_18.out.below hb)
  have Re_19 := Lib.hid (Re_18.out.below hb)
  have B_19 := Lib.hid (B_18.out.trans (hb.mono B_18.out.size))
  clear hb B_18 R_18 Y_18 Rb_18 V_18 Re_18
  generalize opT ope ze = tx at *
  go_wp2_with fail
  refine (HV1.out _ R_19.out).mono ?_
  rintro e w20 ⟨rfl, hb⟩
  have R_20 := Lib.hid (R_19.out.below hb)
  have Y_20 := Lib.hid (Y_19.out.below hb)
  have Rb_20 := Lib.hid (Rb_19.out.below hb)
  have V_20 := Lib.hid (V_19.out.below hb)
  have B_20 := Lib.hid (B_19.out.trans (hb.mono B_19.out.size))
  clear hb B_19 R_19 Y_19 Rb_19 V_19
  go_wp2_with fail
  refine (HV2.out _ R_20.out).mono ?_
  rintro e w21 ⟨rfl, hb⟩
  have R_21 := Lib.hid (R_20.out.below hb)
  have Y_21 := Lib.hid (Y_20.out.below hb)
  have Rb_21 := Lib.hid (Rb_20.out.below hb)
  have V_21 := Lib.hid (V_20.out.below hb)
  have B_21 := Lib.hid (B_20.out.trans (hb.mono B_20.out.size))
  clear hb B_20 R_20 Y_20 Rb_20 V_20
  have hq8 : (vk != vk) = false := by simp
  clear HV1 HV2
  have R := R_21
  have Y := Y_21
  have Rb := Rb_21
  have V := V_21
  have B := B_21
  clear R_21 Y_21 Rb_21 V_21 B_21
  obtain ⟨wf, rfl⟩ : ∃ w', w' = w21 := ⟨_, rfl⟩
  have sB := B.out.size
  go_upto_if 172 with fail
  go_cut [28, 29, 30, 31] from 171 (fun _ _ _ _ wx => Hid (Below wf.heap.size wf wx))
  case first =>
    clear HLAW HIO HAB HT
    by_cases h5 : az2 = 0
    · subst h5
      have HAM0 := Lib.hid (HAM.out rfl)
      have v1 := V.out.cap
      have v2 := V.out.max
      clear HAM
      go_wp2
      go_loopg [28, 29, 30, 31] n4 (fun gg vi _ _ _ wr => ∃ i : Nat, i ≤ n4 ∧ n4 - i ≤ gg ∧ vi = .int .i64 i ∧ Hid (Below wf.heap.size wf wr))
      case atStart => exact ⟨0, Nat.zero_le _, by omega, rfl, Lib.hid (Below.refl _ _)⟩
      case round =>
        obtain ⟨i, hi, hgg, rfl, HW⟩ := hrel
        obtain ⟨wi, rfl⟩ : ∃ w', w' = wr := ⟨_, rfl⟩
        by_cases hlt : i < n4
        · have hi0 : (0 : Int) ≤ (i : Int) := by omega
          have hi1 : (i : Int) < (n4 : Int) := by omega
          have hVi := V.out.below HW.out
          obtain ⟨b, o, x, hA, hbl, hx, hcx⟩ := hVi.int hlt
          subst hA
          obtain ⟨S, hS, hSS⟩ := HAM0.out i x hx
          have hcall := HI4.out x wi (Rb.out.below HW.out)
          rw [hS] at hcall
          simp only at hcall
          have HCL := Lib.hid hcall
          have HSS := Lib.hid hSS
          have HVI := Lib.hid hVi
          clear hcall hS hSS hVi hx
          go_wp2_with fail
          refine (HCL.out).mono ?_
          rintro e wj ⟨A7, n7, c7, rfl, ho, hb⟩
          have X7 := Lib.hid (Rd.of_own ho)
          have V7 := Lib.hid (HVI.out.below hb)
          have HW7 := Lib.hid (HW.out.trans (hb.mono HW.out.size))
          have x1 := X7.out.cap
          have x2 := X7.out.max
          clear ho hb HCL HVI HW hcx
          go_wp2
          go_loopg [31] n7 (fun gg vj wr => ∃ j : Nat, j ≤ n7 ∧ n7 - j ≤ gg ∧ vj = .int .i64 j ∧ wj = wr)
          case atStart => exact ⟨0, Nat.zero_le _, by omega, rfl, rfl⟩
          case round =>
            obtain ⟨j, hj, hgg2, rfl, hwe⟩ := hrel
            subst hwe
            by_cases hlj : j < n7
            · have hj0 : (0 : Int) ≤ (j : Int) := by omega
              have hj1 : (j : Int) < (n7 : Int) := by omega
              obtain ⟨b4, o4, y, hA4, hbl4, hy, hcy⟩ := X7.out.int hlj
              subst hA4
              have hh := f6has_any _ _ _ az1 y _ V7.out
              rw [HSS.out j y hy] at hh
              have HH2 := Lib.hid hh
              clear hh hy
              go_wp2_with (go_at_call 29; refine (HH2.out).mono ?_; rintro e w' ⟨rfl, rfl⟩)
              go_roundg (n7 - (j + 1))
              case measure => omega
              case rel => exact ⟨j + 1, by omega, by omega, by go_num, by first | trivial | rfl⟩
            · go_wp2
              go_roundg (n4 - (i + 1))
              case measure => omega
              case rel => exact ⟨i + 1, by omega, by omega, by go_num, HW7⟩
        · go_wp2
          go_meet
          exact HW
    · have h5' : (az2 == 0) = false := by simpa using h5
      go_wp2
      go_meet
      exact Lib.hid (Below.refl _ _)
  case rest =>
  obtain ⟨wg, rfl⟩ : ∃ w', w' = wc := ⟨_, rfl⟩
  have BG := Lib.hid (B.out.trans (hcut.out.mono sB))
  have Yg := Lib.hid (Y.out.below hcut.out)
  have Rg := Lib.hid (R.out.below hcut.out)
  have sg := BG.out.size
  clear R Y Rb V B sB hcut HAM HI4 HT
  go_upto_region 30 with fail
  go_cut [211] from 203 (fun v wx => v = .bool false ∧ wg = wx)
  case first =>
    have hco := HLAW.out.1
    clear HLAW
    by_cases hz : cz2 = 0
    · subst hz
      have hd := hco rfl
      clear hco
      by_cases h9 : oz2 = 9
      · subst h9
        have hp : 0 ≤ cz1 := of_decide_eq_true (hd.trans rfl)
        clear hd
        go_wp2
        go_meet
        exact ⟨by first | rfl | simp, rfl⟩
      · have h9' : (oz2 == 9) = false := by simpa using h9
        have hp : ¬ 0 ≤ cz1 := of_decide_eq_false (hd.trans h9')
        clear hd
        go_wp2
        go_meet
        exact ⟨by first | rfl | simp, rfl⟩
    · have hz2 : (cz2 == 0) = false := by simpa using hz
      clear hco
      go_wp2
      go_meet
      exact ⟨by first | rfl | simp, rfl⟩
  case rest =>
  obtain ⟨rfl, hwe⟩ := hcut
  subst hwe
  by_cases h2 : oz2 = 0
  · subst h2
    have hL := HLAW.out.2 rfl
    clear HLAW
    have hiso := HIO.out A2 n2 c2 oz1 wg Rg.out Yg.out
    rw [hL.iso] at hiso
    simp only at hiso
    have HIS := Lib.hid hiso
    have HL := Lib.hid hL
    have y1 := Yg.out.cap
    have y2 := Yg.out.max
    have hn2 : n2 = nl := by have := Yg.out.ilen; have := hL.ol; omega
    clear hL hiso HIO
    subst hn2
    go_wp2_with fail
    refine (HIS.out).mono ?_
    rintro e wh ⟨rfl, hb⟩
    have Yh := Lib.hid (Yg.out.below hb)
    have Rh := Lib.hid (Rg.out.below hb)
    have Bh := Lib.hid (BG.out.trans (hb.mono sg))
    have sh := Bh.out.size
    clear hb HIS Yg Rg BG sg
    go_wp2
    go_loopg [34, 35, 36, 37] n2 (fun gg vi _ _ _ wr => ∃ i : Nat, i ≤ n2 ∧ n2 - i ≤ gg ∧ vi = .int .i64 i ∧ Hid (Below wh.heap.size wh wr))
    case atStart => exact ⟨0, Nat.zero_le _, by omega, rfl, Lib.hid (Below.refl _ _)⟩
    case round =>
      obtain ⟨i, hi, hgg, rfl, HW⟩ := hrel
      obtain ⟨wi, rfl⟩ : ∃ w', w' = wr := ⟨_, rfl⟩
      by_cases hlt : i < n2
      · have hi0 : (0 : Int) ≤ (i : Int) := by omega
        have hi1 : (i : Int) < (n2 : Int) := by omega
        have hYi := Yh.out.below HW.out
        obtain ⟨b, o, x, hA, hbl, hx, hcx⟩ := hYi.int hlt
        subst hA
        obtain ⟨S, hS, hSS⟩ := HL.out.bef i x hx
        have hcall := HAB.out x wi (Rh.out.below HW.out)
        rw [hS] at hcall
        simp only at hcall
        have HCL := Lib.hid hcall
        have HSS := Lib.hid hSS
        have HYI := Lib.hid hYi
        clear hcall hS hSS hYi hx
        go_wp2_with fail
        refine (HCL.out).mono ?_
        rintro e wj ⟨A7, n7, c7, rfl, ho, hb⟩
        have X7 := Lib.hid (Rd.of_own ho)
        have Y7 := Lib.hid (HYI.out.below hb)
        have HW7 := Lib.hid (HW.out.trans (hb.mono HW.out.size))
        have s7 := HW7.out.size
        have x1 := X7.out.cap
        have x2 := X7.out.max
        have hsl := fun W => slice_head b o n2 c2 i (i : Int) rfl (by omega) W
        have hT := Lib.hid (Y7.out.takeI (j := i) (by omega))
        clear ho hb HCL HYI HW hcx
        go_wp2
        go_loopg [37] n7 (fun gg vj wr => ∃ j : Nat, j ≤ n7 ∧ n7 - j ≤ gg ∧ vj = .int .i64 j ∧ Hid (Below wj.heap.size wj wr))
        case atStart => exact ⟨0, Nat.zero_le _, by omega, rfl, Lib.hid (Below.refl _ _)⟩
        case round =>
          obtain ⟨j, hj, hgg2, rfl, HV⟩ := hrel
          by_cases hlj : j < n7
          · have hj0 : (0 : Int) ≤ (j : Int) := by omega
            have hj1 : (j : Int) < (n7 : Int) := by omega
            obtain ⟨b4, o4, y, hA4, hbl4, hy, hcy⟩ := (X7.out.below HV.out).int hlj
            subst hA4
            have HH2 : Hid (∀ W, Below wr.heap.size wr W → Calls Tryd.prog 29 #[.slice (some ⟨b, o, none⟩) i c2, .int .i64 y] W fun e w' => e = .returned (.bool true) ∧ W = w') := Lib.hid (fun W hW => by
              have hh := f6has_any _ _ _ (oz1.take i) y W ((hT.out.below HV.out).below hW)
              rw [HSS.out j y hy] at hh
              exact hh)
            clear hy
            go_wp2
            go_quiet ((go_at_call 29; refine Calls.quiet_of_same ((HH2.out _ (by first | exact Below.refl _ _ | exact below_drewN (Below.refl _ _) _ | exact (Below.refl _ _).drew)).mono fun _ _ h => ⟨h.1, h.2.symm⟩)))
            have HV2 := Lib.hid (below_drewN HV.out nq)
            generalize wr.drewN nq = w8 at *
            go_wp2
            go_roundg (n7 - (j + 1))
            case measure => omega
            case rel => exact ⟨j + 1, by omega, by omega, by go_num, HV2⟩
          · have HW8 := Lib.hid (HW7.out.trans (HV.out.mono s7))
            clear hsl
            go_wp2
            go_roundg (n2 - (i + 1))
            case measure => omega
            case rel => exact ⟨i + 1, by omega, by omega, by go_num, HW8⟩
      · go_wp2
        go_ret
        exact ⟨rfl, Bh.out.trans (HW.out.mono sh)⟩
  · have h2' : (oz2 != 0) = true := by simpa using h2
    go_wp2
    go_ret
    exact ⟨rfl, BG.out⟩
end Go.Proofs.YtgghjieeckkpbaaDoor
