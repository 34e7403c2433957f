/- The walk of the law FnPlacedBlocks. Printed by mkzl.py. -/
import Derived.Test.YthdbaflihgkomaaDoorZq
import Derived.Test.YthdbaflihgkomaaDoorFy
import Derived.Test.YthdbaflihgkomaaDoorDb
import Derived.Test.YthdbaflihgkomaaDoorDe
import Derived.Test.YthdbaflihgkomaaDoorWs2
import Derived.Test.YthdbaflihgkomaaDoorTb2
import Derived.Test.YthdbaflihgkomaaDoorBlk
import Derived.Test.YthdbaflihgkomaaDoorNu
import Derived.Deep.CutRange
namespace Go.Proofs.YthdbaflihgkomaaDoor
open Go.RowKit Go.Shelf

set_option maxRecDepth 100000 in
set_option maxHeartbeats 8000000 in
theorem law_Placed (A : Option Addr) (n c : Nat) (w : World) (h : Bytes w A n c) (ht : PowT w.heap.size w) :
    Calls Tryd.prog 4 #[.slice A n c] w fun e w' => e = .returned (.bool true) ∧ Below w.heap.size w w' := by
  have nn := h.1
  have nc := h.2.1
  have H := Lib.hid h
  have HT := Lib.hid ht
  clear h ht
  go_enter Tryd.func4, Tryd.ntmps4
  go_wp2_with fail
  refine (f6big_any _ _ _ _ (by omega)).mono ?_
  rintro e w' ⟨rfl, rfl⟩
  cases hz : decide (4096 < n) with
  | true =>
    go_wp2
    go_ret
    exact ⟨rfl, Below.refl _ _⟩
  | false =>
  clear hz
  obtain ⟨w0, hw0⟩ : ∃ x, x = w := ⟨_, rfl⟩
  have B_0 : Hid (Below w.heap.size w w0) := Lib.hid (by rw [hw0]; exact Below.refl _ _)
  have H_0 : Hid (Bytes w0 A n c) := Lib.hid (by rw [hw0]; exact H.out)
  rw [← hw0]
  clear H hw0
  go_wp2_with fail
  refine (drawPlaces_any _ _ _ _ H_0.out).mono ?_
  rintro e w1 ⟨g, nl, cl, ps, roll, BR, nr, cr, rs, rfl, hr1, hr2, hb⟩
  have H_1 := Lib.hid (H_0.out.below hb)
  have R_1 := Lib.hid (hr1)
  have Q_1 := Lib.hid (hr2)
  have B_1 := Lib.hid (B_0.out.trans (hb.mono B_0.out.size))
  clear hb B_0 H_0
  have hll := hr1.plen
  have hlc := hr1.cap
  have hlm := hr1.max
  have hrc := hr2.cap
  have hrm := hr2.max
  have hplc := fun (h : (poZ ps roll rs).2 = 0) => plc_law hll h
  have htrn := fun (h : (turnedZ ps roll).2 = 0) => turn_law hll h
  have hwst := fun (h : wasteC ps roll rs = 0) => waste_share h
  have hI1 := fun W h h' => implPlacesOnRoll_any (some ⟨g, 0, none⟩) nl cl ps roll BR nr cr rs W h h'
  have hS1 := fun W h h' => specPlacesOnRoll_any (some ⟨g, 0, none⟩) nl cl ps roll BR nr cr rs W h h'
  have hI2 := fun W h h' => implRowsFault_any (some ⟨g, 0, none⟩) nl cl ps roll BR nr cr rs W h h'
  have hS2 := fun W h h' => specRowsFault_any (some ⟨g, 0, none⟩) nl cl ps roll BR nr cr rs W h h'
  have hI3 := fun W h h' => implHeightOfRows_any (some ⟨g, 0, none⟩) nl cl ps roll BR nr cr rs W h h'
  have hS3 := fun W h h' => specHeightOfRows_any (some ⟨g, 0, none⟩) nl cl ps roll BR nr cr rs W h h'
  have hI4 := fun W h h' => implWasteOfRows_any (some ⟨g, 0, none⟩) nl cl ps roll BR nr cr rs W h h'
  have hS4 := fun W h h' => specWasteOfRows_any (some ⟨g, 0, none⟩) nl cl ps roll BR nr cr rs W h h'
  have hI5 := fun W h => implTurnBlocks_any (some ⟨g, 0, none⟩) nl cl ps roll W h
  have hS5 := fun W h => specTurnBlocks_any g 0 nl cl ps roll W h
  obtain ⟨pn, hpn⟩ : ∃ x, poZ ps roll rs = x := ⟨_, rfl⟩
  obtain ⟨PL, pz⟩ := pn
  obtain ⟨high, hhigh⟩ : ∃ x, heightOfZ ps roll rs = x := ⟨_, rfl⟩
  obtain ⟨fz, hfz⟩ : ∃ x, fineZ ps roll rs = x := ⟨_, rfl⟩
  obtain ⟨ra, hra⟩ : ∃ x, rowsFaultZ ps roll rs = x := ⟨_, rfl⟩
  obtain ⟨rb, hrb⟩ : ∃ x, rowsC ps roll rs = x := ⟨_, rfl⟩
  obtain ⟨wN, hwN⟩ : ∃ x, wasteN ps roll rs = x := ⟨_, rfl⟩
  obtain ⟨wD, hwD⟩ : ∃ x, wasteD ps roll rs = x := ⟨_, rfl⟩
  obtain ⟨wC, hwC⟩ : ∃ x, wasteC ps roll rs = x := ⟨_, rfl⟩
  obtain ⟨tn, htn⟩ : ∃ x, turnedZ ps roll = x := ⟨_, rfl⟩
  obtain ⟨TL, tz⟩ := tn
  rw [hpn] at hI1 hS1 hplc
  rw [hhigh] at hI3 hS3 hplc
  rw [hfz] at hI3 hS3
  rw [hra, hrb] at hI2 hS2
  rw [hwN, hwD, hwC] at hI4 hS4 hwst
  rw [htn] at hI5 hS5 htrn
  simp only at hI1 hS1 hI5 hS5 hplc htrn
  have HI1 := Lib.hid hI1
  have HS1 := Lib.hid hS1
  have HI2 := Lib.hid hI2
  have HS2 := Lib.hid hS2
  have HI3 := Lib.hid hI3
  have HS3 := Lib.hid hS3
  have HI4 := Lib.hid hI4
  have HS4 := Lib.hid hS4
  have HI5 := Lib.hid hI5
  have HS5 := Lib.hid hS5
  have HPLC := Lib.hid hplc
  have HTRN := Lib.hid htrn
  have HWST := Lib.hid hwst
  have HLL := Lib.hid hll
  clear hI1 hS1 hI2 hS2 hI3 hS3 hI4 hS4 hI5 hS5 hplc htrn hwst hll hpn hhigh hfz hra hrb hwN hwD hwC htn hr1 hr2
  go_wp2_with fail
  refine (HI1.out _ R_1.out Q_1.out).mono ?_
  rintro e w2 ⟨A1, n1, c1, cs1, G1, rfl, ho, hb⟩
  have H_2 := Lib.hid (H_1.out.below hb)
  have R_2 := Lib.hid (R_1.out.below hb)
  have Q_2 := Lib.hid (Q_1.out.below hb)
  have X_2 := Lib.hid (ho.rd)
  have B_2 := Lib.hid (B_1.out.trans (hb.mono B_1.out.size))
  clear hb B_1 H_1 R_1 Q_1
  clear ho HI1
  go_wp2_with fail
  refine (HS1.out _ R_2.out Q_2.out).mono ?_
  rintro e w3 ⟨A2, n2, c2, cs2, G2, rfl, ho, hb⟩
  have H_3 := Lib.hid (H_2.out.below hb)
  have R_3 := Lib.hid (R_2.out.below hb)
  have Q_3 := Lib.hid (Q_2.out.below hb)
  have X_3 := Lib.hid (X_2.out.below hb)
  have Y_3 := Lib.hid (ho.rd)
  have B_3 := Lib.hid (B_2.out.trans (hb.mono B_2.out.size))
  clear hb B_2 H_2 R_2 Q_2 X_2
  clear ho HS1
  go_wp2_with fail
  refine (HI2.out _ R_3.out Q_3.out).mono ?_
  rintro e w4 ⟨rfl, hb⟩
  have H_4 := Lib.hid (H_3.out.below hb)
  have R_4 := Lib.hid (R_3.out.below hb)
  have Q_4 := Lib.hid (Q_3.out.below hb)
  have X_4 := Lib.hid (X_3.out.below hb)
  have Y_4 := Lib.hid (Y_3.out.below hb)
  have B_4 := Lib.hid (B_3.out.trans (hb.mono B_3.out.size))
  clear hb B_3 H_3 R_3 Q_3 X_3 Y_3
  go_wp2_with fail
  refine (HS2.out _ R_4.out Q_4.out).mono ?_
  rintro e w5 ⟨rfl, hb⟩
  have H_5 := Lib.hid (H_4.out.below hb)
  have R_5 := Lib.hid (R_4.out.below hb)
  have Q_5 := Lib.hid (Q_4.out.below hb)
  have X_5 := Lib.hid (X_4.out.below hb)
  have Y_5 := Lib.hid (Y_4.out.below hb)
  have B_5 := Lib.hid (B_4.out.trans (hb.mono B_4.out.size))
  clear hb B_4 H_4 R_4 Q_4 X_4 Y_4
  go_wp2_with fail
  refine (HI3.out _ R_5.out Q_5.out).mono ?_
  rintro e w6 ⟨rfl, hb⟩
  have H_6 := Lib.hid (H_5.out.below hb)
  have R_6 := Lib.hid (R_5.out.below hb)
  have Q_6 := Lib.hid (Q_5.out.below hb)
  have X_6 := Lib.hid (X_5.out.below hb)
  have Y_6 := Lib.hid (Y_5.out.below hb)
  have B_6 := Lib.hid (B_5.out.trans (hb.mono B_5.out.size))
  clear hb B_5 H_5 R_5 Q_5 X_5 Y_5
  go_wp2_with fail
  refine (HS3.out _ R_6.out Q_6.out).mono ?_
  rintro e w7 ⟨rfl, hb⟩
  have H_7 := Lib.hid (H_6.out.below hb)
  have R_7 := Lib.hid (R_6.out.below hb)
  have Q_7 := Lib.hid (Q_6.out.below hb)
  have X_7 := Lib.hid (X_6.out.below hb)
  have Y_7 := Lib.hid (Y_6.out.below hb)
  have B_7 := Lib.hid (B_6.out.trans (hb.mono B_6.out.size))
  clear hb B_6 H_6 R_6 Q_6 X_6 Y_6
  clear HI2 HS2 HI3 HS3
  go_wp2_with fail
  refine (HI4.out _ R_7.out Q_7.out).mono ?_
  rintro e w8 ⟨rfl, hb⟩
  have H_8 := Lib.hid (H_7.out.below hb)
  have R_8 := Lib.hid (R_7.out.below hb)
  have Q_8 := Lib.hid (Q_7.out.below hb)
  have X_8 := Lib.hid (X_7.out.below hb)
  have Y_8 := Lib.hid (Y_7.out.below hb)
  have B_8 := Lib.hid (B_7.out.trans (hb.mono B_7.out.size))
  clear hb B_7 H_7 R_7 Q_7 X_7 Y_7
  have U0 := Box.new w8 #[.int .i64 wN, .int .i64 wD] 40
  have hb : Below w8.heap.size w8 (w8.alloc (.cells #[.int .i64 wN, .int .i64 wD] 40)) := (Below.refl _ _).alloc (Nat.le_refl _) _
  obtain ⟨w9, hv9⟩ : ∃ x, x = w8.alloc (.cells #[.int .i64 wN, .int .i64 wD] 40) := ⟨_, rfl⟩
  rw [← hv9] at hb U0
  have H_9 := Lib.hid (H_8.out.below hb)
  have R_9 := Lib.hid (R_8.out.below hb)
  have Q_9 := Lib.hid (Q_8.out.below hb)
  have X_9 := Lib.hid (X_8.out.below hb)
  have Y_9 := Lib.hid (Y_8.out.below hb)
  have U_9 := Lib.hid U0
  have B_9 := Lib.hid (B_8.out.trans (hb.mono B_8.out.size))
  clear hb U0 B_8 H_8 R_8 Q_8 X_8 Y_8
  go_wp2_with fail
  rw [← hv9]
  refine (HS4.out _ R_9.out Q_9.out).mono ?_
  rintro e w10 ⟨rfl, hb⟩
  have H_10 := Lib.hid (H_9.out.below hb)
  have R_10 := Lib.hid (R_9.out.below hb)
  have Q_10 := Lib.hid (Q_9.out.below hb)
  have X_10 := Lib.hid (X_9.out.below hb)
  have Y_10 := Lib.hid (Y_9.out.below hb)
  have U_10 := Lib.hid (U_9.out.below hb)
  have B_10 := Lib.hid (B_9.out.trans (hb.mono B_9.out.size))
  clear hb B_9 H_9 R_9 Q_9 X_9 Y_9 U_9
  have V0 := Box.new w10 #[.int .i64 wN, .int .i64 wD] 40
  have hb : Below w10.heap.size w10 (w10.alloc (.cells #[.int .i64 wN, .int .i64 wD] 40)) := (Below.refl _ _).alloc (Nat.le_refl _) _
  obtain ⟨w11, hv11⟩ : ∃ x, x = w10.alloc (.cells #[.int .i64 wN, .int .i64 wD] 40) := ⟨_, rfl⟩
  rw [← hv11] at hb V0
  have H_11 := Lib.hid (H_10.out.below hb)
  have R_11 := Lib.hid (R_10.out.below hb)
  have X_11 := Lib.hid (X_10.out.below hb)
  have Y_11 := Lib.hid (Y_10.out.below hb)
  have U_11 := Lib.hid (U_10.out.below hb)
  have V_11 := Lib.hid V0
  have B_11 := Lib.hid (B_10.out.trans (hb.mono B_10.out.size))
  clear hb V0 B_10 H_10 R_10 X_10 Y_10 U_10
  clear HI4 HS4
  go_wp2_with fail
  rw [← hv11]
  refine (HI5.out _ R_11.out).mono ?_
  rintro e w12 ⟨A3, n3, c3, rfl, ho, hb⟩
  have H_12 := Lib.hid (H_11.out.below hb)
  have R_12 := Lib.hid (R_11.out.below hb)
  have X_12 := Lib.hid (X_11.out.below hb)
  have Y_12 := Lib.hid (Y_11.out.below hb)
  have U_12 := Lib.hid (U_11.out.below hb)
  have V_12 := Lib.hid (V_11.out.below hb)
  have S_12 := Lib.hid (Rd.of_own ho)
  have B_12 := Lib.hid (B_11.out.trans (hb.mono B_11.out.size))
  clear hb B_11 H_11 R_11 X_11 Y_11 U_11 V_11
  clear ho
  go_wp2_with fail
  refine (HS5.out _ R_12.out).mono ?_
  rintro e w13 ⟨A4, n4, c4, rfl, ho, hb⟩
  have H_13 := Lib.hid (H_12.out.below hb)
  have R_13 := Lib.hid (R_12.out.below hb)
  have X_13 := Lib.hid (X_12.out.below hb)
  have Y_13 := Lib.hid (Y_12.out.below hb)
  have U_13 := Lib.hid (U_12.out.below hb)
  have V_13 := Lib.hid (V_12.out.below hb)
  have S_13 := Lib.hid (S_12.out.below hb)
  have T_13 := Lib.hid (Rd.of_own ho)
  have B_13 := Lib.hid (B_12.out.trans (hb.mono B_12.out.size))
  clear hb B_12 H_12 R_12 X_12 Y_12 U_12 V_12 S_12
  clear ho HI5 HS5
  go_wp2_with fail
  refine (drawSame_any _ _ _ _ H_13.out).mono ?_
  rintro e w14 ⟨A5, n5, c5, ps5, A6, n6, c6, ps6, rfl, hra, hrd, hb⟩
  have H_14 := Lib.hid (H_13.out.below hb)
  have R_14 := Lib.hid (R_13.out.below hb)
  have X_14 := Lib.hid (X_13.out.below hb)
  have Y_14 := Lib.hid (Y_13.out.below hb)
  have U_14 := Lib.hid (U_13.out.below hb)
  have V_14 := Lib.hid (V_13.out.below hb)
  have S_14 := Lib.hid (S_13.out.below hb)
  have T_14 := Lib.hid (T_13.out.below hb)
  have M_14 := Lib.hid (hra)
  have O_14 := Lib.hid (hrd)
  have B_14 := Lib.hid (B_13.out.trans (hb.mono B_13.out.size))
  clear hb B_13 H_13 R_13 X_13 Y_13 U_13 V_13 S_13 T_13
  have hac := hra.cap
  have ham := hra.max
  have hdc := hrd.cap
  have hdm := hrd.max
  clear hra hrd
  have hbn1 : ∀ z : Int, (z != z) = false := fun z => by simp
  have hq1 := hbn1 pz
  have hq2 := hbn1 ra
  have hq3 := hbn1 rb
  have hq4 := hbn1 high
  have hq5 := hbn1 fz
  have hq6 := hbn1 wC
  have hq7 := hbn1 tz
  have hq8 := hbn1 wN
  have hq9 := hbn1 wD
  clear hbn1
  go_wp2_with fail
  refine (f6lists_self _ _ _ _ _ _ PL _ X_14.out Y_14.out).mono ?_
  rintro e w15 ⟨rfl, hb⟩
  have R_15 := Lib.hid (R_14.out.below hb)
  have X_15 := Lib.hid (X_14.out.below hb)
  have Y_15 := Lib.hid (Y_14.out.below hb)
  have U_15 := Lib.hid (U_14.out.below hb)
  have V_15 := Lib.hid (V_14.out.below hb)
  have S_15 := Lib.hid (S_14.out.below hb)
  have T_15 := Lib.hid (T_14.out.below hb)
  have M_15 := Lib.hid (M_14.out.below hb)
  have O_15 := Lib.hid (O_14.out.below hb)
  have B_15 := Lib.hid (B_14.out.trans (hb.mono B_14.out.size))
  clear hb B_14 R_14 X_14 Y_14 U_14 V_14 S_14 T_14 M_14 O_14
  have u0 := U_15.out.cell 0
  have u1 := U_15.out.cell 1
  have v0 := V_15.out.cell 0
  have v1 := V_15.out.cell 1
  simp at u0 u1 v0 v1
  go_wp2_with fail
  refine (specSameBlocks_any _ _ _ TL _ _ _ TL _ S_15.out T_15.out).mono ?_
  rintro e w16 ⟨rfl, hb⟩
  have R_16 := Lib.hid (R_15.out.below hb)
  have Y_16 := Lib.hid (Y_15.out.below hb)
  have U_16 := Lib.hid (U_15.out.below hb)
  have V_16 := Lib.hid (V_15.out.below hb)
  have S_16 := Lib.hid (S_15.out.below hb)
  have T_16 := Lib.hid (T_15.out.below hb)
  have M_16 := Lib.hid (M_15.out.below hb)
  have O_16 := Lib.hid (O_15.out.below hb)
  have B_16 := Lib.hid (B_15.out.trans (hb.mono B_15.out.size))
  clear hb B_15 R_15 Y_15 U_15 V_15 S_15 T_15 M_15 O_15
  clear u0 u1 v0 v1
  rw [eqG_self]
  go_wp2_with fail
  refine (implSameBlocks_any _ _ _ ps5 _ _ _ ps6 _ M_16.out O_16.out).mono ?_
  rintro e w17 ⟨rfl, hb⟩
  have R_17 := Lib.hid (R_16.out.below hb)
  have Y_17 := Lib.hid (Y_16.out.below hb)
  have U_17 := Lib.hid (U_16.out.below hb)
  have V_17 := Lib.hid (V_16.out.below hb)
  have T_17 := Lib.hid (T_16.out.below hb)
  have M_17 := Lib.hid (M_16.out.below hb)
  have O_17 := Lib.hid (O_16.out.below hb)
  have B_17 := Lib.hid (B_16.out.trans (hb.mono B_16.out.size))
  clear hb B_16 R_16 Y_16 U_16 V_16 T_16 M_16 O_16
  go_wp2_with fail
  refine (specSameBlocks_any _ _ _ ps5 _ _ _ ps6 _ M_17.out O_17.out).mono ?_
  rintro e w18 ⟨rfl, hb⟩
  have R_18 := Lib.hid (R_17.out.below hb)
  have Y_18 := Lib.hid (Y_17.out.below hb)
  have U_18 := Lib.hid (U_17.out.below hb)
  have V_18 := Lib.hid (V_17.out.below hb)
  have T_18 := Lib.hid (T_17.out.below hb)
  have M_18 := Lib.hid (M_17.out.below hb)
  have O_18 := Lib.hid (O_17.out.below hb)
  have B_18 := Lib.hid (B_17.out.trans (hb.mono B_17.out.size))
  clear hb B_17 R_17 Y_17 U_17 V_17 T_17 M_17 O_17
  have hqa : (eqG ps5 ps6 != eqG ps5 ps6) = false := by simp
  generalize eqG ps5 ps6 = sq at *
  go_wp2_with fail
  refine (implBlocksText_any _ _ _ ps roll _ R_18.out w.heap.size (HT.out.on B_18.out) B_18.out.size).mono ?_
  rintro e w19 ⟨rfl, hb⟩
  have R_19 := Lib.hid (R_18.out.below hb)
  have Y_19 := Lib.hid (Y_18.out.below hb)
  have U_19 := Lib.hid (U_18.out.below hb)
  have V_19 := Lib.hid (V_18.out.below hb)
  have T_19 := Lib.hid (T_18.out.below hb)
  have B_19 := Lib.hid (B_18.out.trans (hb.mono B_18.out.size))
  clear hb B_18 R_18 Y_18 U_18 V_18 T_18
  go_wp2_with fail
  refine (specBlocksText_any _ _ _ ps roll _ R_19.out).mono ?_
  rintro e w20 ⟨rfl, hb⟩
  have R_20 := Lib.hid (R_19.out.below hb)
  have Y_20 := Lib.hid (Y_19.out.below hb)
  have U_20 := Lib.hid (U_19.out.below hb)
  have V_20 := Lib.hid (V_19.out.below hb)
  have T_20 := Lib.hid (T_19.out.below hb)
  have B_20 := Lib.hid (B_19.out.trans (hb.mono B_19.out.size))
  clear hb B_19 R_19 Y_19 U_19 V_19 T_19
  generalize bkT ps roll = tx at *
  have R := R_20
  have Y := Y_20
  have T := T_20
  have U := U_20
  have B := B_20
  clear R_20 Y_20 T_20 U_20 V_20 B_20
  obtain ⟨wf, rfl⟩ : ∃ w', w' = w20 := ⟨_, rfl⟩
  have sB := B.out.size
  go_upto_if 183 with fail
  go_cut [28] from 182 (fun _ wx => Hid (Below wf.heap.size wf wx))
  case first => as_aux_lemma =>
    clear HPLC HWST U Y
    by_cases h5 : tz = 0
    · subst h5
      have HTR := HTRN.out rfl
      have t1 := T.out.cap
      have t2 := T.out.max
      have hn4 : n4 = nl := by have := T.out.plen; have := HTR.len; omega
      have HTP := Lib.hid HTR.one
      clear HTRN HTR
      subst hn4
      go_wp2
      go_loopg [28] n4 (fun gg vi wr => ∃ i : Nat, i ≤ n4 ∧ n4 - i ≤ gg ∧ vi = .int .i64 i ∧ Hid (Below wf.heap.size wf wr))
      case atStart => exact ⟨0, Nat.zero_le _, by omega, rfl, Lib.hid (Below.refl _ _)⟩
      case round =>
        obtain ⟨i, hi, hgg, rfl, HW⟩ := hrel
        obtain ⟨wi, rfl⟩ : ∃ w', w' = wr := ⟨_, rfl⟩
        by_cases hlt : i < n4
        · have hi0 : (0 : Int) ≤ (i : Int) := by omega
          have hi1 : (i : Int) < (n4 : Int) := by omega
          obtain ⟨bp, op, x, y, hPe, _, hx, cP0, cP1⟩ := (R.out.below HW.out).pair hlt
          obtain ⟨bt, ot, a', b', hTe, _, ht, cT0, cT1⟩ := (T.out.below HW.out).pair hlt
          obtain ⟨a, b, hab, hby, hmul, ba1, ba2, bb1, bb2, bx1, bx2, by1, by2⟩ := HTP.out i x y hx
          rw [ht] at hab
          injection hab with hab
          injection hab with ea eb
          subst ea
          subst eb
          injection hPe with hPe
          injection hPe with pa1 pa2
          subst pa1
          subst pa2
          subst hTe
          rw [Nat.zero_add] at cP0 cP1
          have hm0 := Int.mul_nonneg (show 0 ≤ x by omega) (show 0 ≤ y by omega)
          have hm1 := Int.mul_le_mul (show x ≤ 5000 by omega) (show y ≤ 5000 by omega) (by omega) (by omega)
          obtain ⟨p, hp⟩ : ∃ p, x * y = p := ⟨_, rfl⟩
          rw [hp] at hm0 hm1 hmul
          have hm2 : p ≤ 25000000 := by omega
          have d1 : decide (b' > y) = false := by simpa using hby
          have d2 : (p != p) = false := by simp
          clear hx ht hm1 hby
          go_wp2
          go_quiet (fail)
          have HW8 := Lib.hid (below_drewN HW.out nq)
          generalize wi.drewN nq = w8 at *
          clear cP0 cP1 cT0 cT1 HW
          go_wp2
          go_roundg (n4 - (i + 1))
          case measure => omega
          case rel => exact ⟨i + 1, by omega, by omega, by go_num, HW8⟩
        · go_wp2
          go_meet
          exact HW
    · have h5' : (tz == 0) = false := by simpa using h5
      go_wp2
      go_meet
      exact Lib.hid (Below.refl _ _)
  case rest =>
  obtain ⟨wg, rfl⟩ : ∃ w', w' = wc := ⟨_, rfl⟩
  have BG := Lib.hid (B.out.trans (hcut.out.mono sB))
  have Yg := Lib.hid (Y.out.below hcut.out)
  have Rg := Lib.hid (R.out.below hcut.out)
  have Ug := Lib.hid (U.out.below hcut.out)
  have sg := BG.out.size
  clear R Y T U B sB hcut HTRN HT
  go_upto_region 23 with fail
  go_cut [239] from 226 (fun v wx => v = .bool false ∧ wg = wx)
  case first => as_aux_lemma =>
    clear HPLC
    have u0 := Ug.out.cell 0
    have u1 := Ug.out.cell 1
    simp at u0 u1
    by_cases hw : wC = 0
    · subst hw
      obtain ⟨hw1, hw2⟩ := HWST.out rfl
      have d1 : decide (wN < 0) = false := by simpa using hw1
      have d2 : decide (wN ≥ wD) = false := by simpa using hw2
      clear HWST
      go_wp2
      go_meet
      exact ⟨by first | rfl | simp, rfl⟩
    · have hw2 : (wC == 0) = false := by simpa using hw
      clear HWST
      go_wp2
      go_meet
      exact ⟨by first | rfl | simp, rfl⟩
  case rest =>
  obtain ⟨rfl, hwe⟩ := hcut
  subst hwe
  clear Ug HWST
  by_cases h2 : pz = 0
  · as_aux_lemma =>
    subst h2
    have hL := HPLC.out rfl
    have y1 := Yg.out.cap
    have y2 := Yg.out.max
    have hn2 : n2 = nl := by have := Yg.out.len; have := hL.len; omega
    have HONE := Lib.hid hL.one
    have HTWO := Lib.hid hL.two
    have hrb := hL.rb
    have hhb := hL.hb
    clear hL HPLC
    subst hn2
    go_wp2
    go_loopg [29, 30, 31, 32] n2 (fun gg vi _ _ _ wr => ∃ i : Nat, i ≤ n2 ∧ n2 - i ≤ gg ∧ vi = .int .i64 i ∧ Hid (Below wg.heap.size wg wr))
    case atStart => exact ⟨0, Nat.zero_le _, by omega, rfl, Lib.hid (Below.refl _ _)⟩
    case round =>
      obtain ⟨i, hi, hgg, rfl, HW⟩ := hrel
      obtain ⟨wi, rfl⟩ : ∃ w', w' = wr := ⟨_, rfl⟩
      by_cases hlt : i < n2
      · have hi0 : (0 : Int) ≤ (i : Int) := by omega
        have hi1 : (i : Int) < (n2 : Int) := by omega
        obtain ⟨bp, op, x, y, hPe, _, hx, cP0, cP1⟩ := (Rg.out.below HW.out).pair hlt
        obtain ⟨xs, b0, o0, C, m, e, hp, hA, hbl, hc0, hr⟩ := (Yg.out.below HW.out).row hlt
        obtain ⟨a, b, hab, ba1, ba2, bb1, bb2, bx, byy⟩ := HONE.out i x y hx
        rw [hp] at hab
        injection hab with hab
        subst hab
        obtain rfl : m = 2 := by have := hr.ilen; simpa using this.symm
        obtain ⟨b1, o1, v1, hC1, _, hv1, cc0⟩ := hr.int (show 0 < 2 by omega)
        obtain ⟨b2, o2, v2, hC2, _, hv2, cc1⟩ := hr.int (show 1 < 2 by omega)
        have hec := hr.cap
        have hem := hr.max
        subst hC1
        injection hC2 with hC2
        injection hC2 with ea eb
        subst ea
        subst eb
        simp at hv1 hv2
        subst hv1
        subst hv2
        injection hPe with hPe
        injection hPe with pa1 pa2
        subst pa1
        subst pa2
        rw [Nat.zero_add] at cP0 cP1
        rw [Nat.add_zero] at cc0
        have HX := Lib.hid hx
        have HP := Lib.hid hp
        have HRR := Lib.hid hr
        have e1 : decide (a < 0) = false := by simpa using ba1
        have e2 : decide (a + x > roll) = false := by simpa using ba2
        have e3 : decide (b < 0) = false := by simpa using bb1
        have e4 : decide (b + y > high) = false := by simpa using bb2
        subst hA
        clear hx hp hr
        go_wp2
        go_quiet (fail)
        have HW8 := Lib.hid (below_drewN HW.out nq)
        have cb : Below wi.heap.size wi (wi.drewN nq) := below_drewN (Below.refl _ _) nq
        have HR8 := Lib.hid (HRR.out.below cb)
        generalize wi.drewN nq = w8 at *
        clear cP0 cP1 cc0 cc1 hc0 HW HRR cb e1 e2 e3 e4
        go_wp2
        go_loopg [31, 32] i (fun gg vj _ wr => ∃ j : Nat, j ≤ i ∧ i - j ≤ gg ∧ vj = .int .i64 j ∧ Hid (Below w8.heap.size w8 wr))
        case atStart => exact ⟨0, Nat.zero_le _, by omega, rfl, Lib.hid (Below.refl _ _)⟩
        case round =>
          obtain ⟨j, hj, hgg2, rfl, HV⟩ := hrel
          obtain ⟨wj, rfl⟩ : ∃ w', w' = wr := ⟨_, rfl⟩
          have HWV := Lib.hid (HW8.out.trans (HV.out.mono HW8.out.size))
          by_cases hlj : j < i
          · have hj0 : (0 : Int) ≤ (j : Int) := by omega
            have hj1 : (j : Int) < (n2 : Int) := by omega
            have hj2 : (j : Int) < (i : Int) := by omega
            obtain ⟨bp, op, x', y', hPe, _, hx', cP0, cP1⟩ := (Rg.out.below HWV.out).pair (show j < n2 by omega)
            obtain ⟨bq, oq, x9, y9, hPq, _, hx9, cQ0, cQ1⟩ := (Rg.out.below HWV.out).pair hlt
            obtain ⟨xs, b3, o3, C, m, e3, hp', hA, hbl', hc0, hr⟩ := (Yg.out.below HWV.out).row (show j < n2 by omega)
            obtain ⟨a', b', hab, ca1, ca2, cb1, cb2, cx, cy⟩ := HONE.out j x' y' hx'
            have htwo := HTWO.out i j x y x' y' a b a' b' hlj HX.out hx' HP.out hab
            rw [hp'] at hab
            injection hab with hab
            subst hab
            rw [HX.out] at hx9
            injection hx9 with hx9
            injection hx9 with e9 e8
            subst e9
            subst e8
            obtain rfl : m = 2 := by have := hr.ilen; simpa using this.symm
            obtain ⟨b4, o4, v1, hC1, _, hv1, cc0⟩ := hr.int (show 0 < 2 by omega)
            obtain ⟨b5, o5, v2, hC2, _, hv2, cc1⟩ := hr.int (show 1 < 2 by omega)
            obtain ⟨b6, o6, v3, hC3, _, hv3, cd0⟩ := (HR8.out.below HV.out).int (show 0 < 2 by omega)
            obtain ⟨b7, o7, v4, hC4, _, hv4, cd1⟩ := (HR8.out.below HV.out).int (show 1 < 2 by omega)
            have hec' := hr.cap
            have hem' := hr.max
            subst hC1
            injection hC2 with hC2
            injection hC2 with ea eb
            subst ea
            subst eb
            injection hC3 with hC3
            injection hC3 with ea eb
            subst ea
            subst eb
            injection hC4 with hC4
            injection hC4 with ea eb
            subst ea
            subst eb
            simp at hv1 hv2 hv3 hv4
            subst hv1
            subst hv2
            subst hv3
            subst hv4
            injection hPe with hPe
            injection hPe with pa1 pa2
            subst pa1
            subst pa2
            injection hPq with hPq
            injection hPq with pa1 pa2
            subst pa1
            subst pa2
            rw [Nat.zero_add] at cP0 cP1 cQ0 cQ1
            rw [Nat.add_zero] at cc0 cd0
            injection hA with hA
            injection hA with ea eb
            subst ea
            subst eb
            have HTW := Lib.hid htwo
            clear hx' hp' hr htwo
            by_cases k1 : a < a' + x'
            · by_cases k2 : a' < a + x
              · by_cases k3 : b < b' + y'
                · have k4 : ¬ b' < b + y := fun h => HTW.out k1 k2 k3 h
                  have f1 : decide (a < a' + x') = true := decide_eq_true k1
                  have f2 : decide (a' < a + x) = true := decide_eq_true k2
                  have f3 : decide (b < b' + y') = true := decide_eq_true k3
                  have f4 : decide (b' < b + y) = false := decide_eq_false k4
                  as_aux_lemma =>
                    clear HTW HWV
                    go_wp2
                    go_quiet (fail)
                    have HV9 := Lib.hid (below_drewN HV.out nq)
                    generalize wj.drewN nq = w9 at *
                    clear cP0 cP1 cQ0 cQ1 cc0 cc1 cd0 cd1 hc0 HV
                    go_wp2
                    go_roundg (i - (j + 1))
                    case measure => omega
                    case rel => exact ⟨j + 1, by omega, by omega, by go_num, HV9⟩
                · have f1 : decide (a < a' + x') = true := decide_eq_true k1
                  have f2 : decide (a' < a + x) = true := decide_eq_true k2
                  have f3 : decide (b < b' + y') = false := decide_eq_false k3
                  as_aux_lemma =>
                    clear HTW HWV
                    go_wp2
                    go_quiet (fail)
                    have HV9 := Lib.hid (below_drewN HV.out nq)
                    generalize wj.drewN nq = w9 at *
                    clear cP0 cP1 cQ0 cQ1 cc0 cc1 cd0 cd1 hc0 HV
                    go_wp2
                    go_roundg (i - (j + 1))
                    case measure => omega
                    case rel => exact ⟨j + 1, by omega, by omega, by go_num, HV9⟩
              · have f1 : decide (a < a' + x') = true := decide_eq_true k1
                have f2 : decide (a' < a + x) = false := decide_eq_false k2
                as_aux_lemma =>
                  clear HTW HWV
                  go_wp2
                  go_quiet (fail)
                  have HV9 := Lib.hid (below_drewN HV.out nq)
                  generalize wj.drewN nq = w9 at *
                  clear cP0 cP1 cQ0 cQ1 cc0 cc1 cd0 cd1 hc0 HV
                  go_wp2
                  go_roundg (i - (j + 1))
                  case measure => omega
                  case rel => exact ⟨j + 1, by omega, by omega, by go_num, HV9⟩
            · have f1 : decide (a < a' + x') = false := decide_eq_false k1
              as_aux_lemma =>
                clear HTW HWV
                go_wp2
                go_quiet (fail)
                have HV9 := Lib.hid (below_drewN HV.out nq)
                generalize wj.drewN nq = w9 at *
                clear cP0 cP1 cQ0 cQ1 cc0 cc1 cd0 cd1 hc0 HV
                go_wp2
                go_roundg (i - (j + 1))
                case measure => omega
                case rel => exact ⟨j + 1, by omega, by omega, by go_num, HV9⟩
          · clear HV HR8
            go_wp2
            go_roundg (n2 - (i + 1))
            case measure => omega
            case rel => exact ⟨i + 1, by omega, by omega, by go_num, HWV⟩
      · go_wp2
        go_ret
        exact ⟨rfl, BG.out.trans (HW.out.mono sg)⟩
  · have h2' : (pz != 0) = true := by simpa using h2
    go_wp2
    go_ret
    exact ⟨rfl, BG.out⟩
end Go.Proofs.YthdbaflihgkomaaDoor
