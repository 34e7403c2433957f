/- The law of PlanFault. Printed by mkpf.py. -/
import Derived.Test.YtiibhejjeijdaaaDoorPh
import Derived.Test.YtiibhejjeijdaaaDoorFrameQ
namespace Go.Proofs.YtiibhejjeijdaaaDoor
open Go.RowKit

set_option maxRecDepth 100000 in
set_option maxHeartbeats 8000000 in
theorem law_PlanFault (A : Option Addr) (n c : Nat) (rs : List ByteArray) (B : Option Addr) (p d : Nat) (cs : List CutV) (C : Option Addr) (q f : Nat) (pl : List Int) (w : World) (hA : Rd w 1 A n c (txs rs)) (hsA : ∀ s ∈ rs, s.size ≤ 9223372036854775807) (hB : Rd w 4 B p d (qd cs)) (hC : Rd w 1 C q f (ints pl)) :
    Calls Tryd.prog 7 #[.slice A n c, .slice B p d, .slice C q f] w fun e w' => e = .returned (.bool true) ∧ Below w.heap.size w w' := by
  have eA1 := hA.cap
  have eA2 := hA.max
  have lA := hA.tlen
  have eB1 := hB.cap
  have eB2 := hB.max
  have lB := hB.qlen
  have eC1 := hC.cap
  have eC2 := hC.max
  have lC := hC.ilen
  have hsp := fun A n c B p d C q f W h1 h2 h3 => specPlanFault_any A B C n c p d q f rs cs pl W h1 h2 h3 hsA
  have him := fun A n c B p d C q f W h1 h2 h3 => implPlanFault_any A B C n c p d q f rs cs pl W h1 h2 h3 hsA
  generalize (pfZ rs cs pl).1 = R at *
  generalize (pfZ rs cs pl).2 = z at *
  have HA := Lib.hid hA
  have HSA := Lib.hid hsA
  have HB := Lib.hid hB
  have HC := Lib.hid hC
  have HSP := Lib.hid hsp
  have HIM := Lib.hid him
  clear hA hsA hB hC hsp him lA lB lC
  by_cases gC : (1048576 : Int) < (q : Int)
  · go_enter Tryd.func7, Tryd.ntmps7
    go_wp2
    go_ret
    exact ⟨rfl, Below.refl _ _⟩
  have hszB := fun L W h0 h1 => szCutS_any B p d L W (by omega) h0 h1
  have HZB := Lib.hid hszB
  clear hszB
  have b0 : Below w.heap.size w w := Below.refl _ _
  have s0 := b0.size
  obtain ⟨w0, hw0⟩ : ∃ w0, w0 = w := ⟨_, rfl⟩
  go_enter Tryd.func7, Tryd.ntmps7
  go_wp2_with fail
  refine (szStringS_any A n c rs _ _ HA.out HSA.out (by omega) (by omega)).mono ?_
  rintro e wz ⟨⟨q0, rfl, hq0⟩, rfl⟩
  rcases hq0 with rfl | ⟨hq00, hq01, hnA, hszA⟩
  · go_wp2
    go_ret
    exact ⟨rfl, Below.refl _ _⟩
  have hqn0 : ¬ q0 < 0 := by omega
  have HWA := Lib.hid hszA
  clear hszA
  by_cases hq1 : q0 < (p : Int)
  · go_wp2_with fail
    refine (HZB.out _ _ (by omega) (by omega)).mono ?_
    rw [if_pos hq1]
    rintro e wz ⟨rfl, rfl⟩
    go_wp2
    go_ret
    exact ⟨rfl, Below.refl _ _⟩
  go_wp2_with fail
  refine (HZB.out _ _ (by omega) (by omega)).mono ?_
  rw [if_neg (show ¬ q0 < (p : Int) by omega)]
  rintro e wz ⟨rfl, rfl⟩
  have hqn1 : ¬ q0 - p < 0 := by omega
  go_wp2_with fail
  refine (toStringS_any A n c rs _ (HA.out.below b0) (by omega)).mono ?_
  rintro e w1 ⟨gt0, rfl, ho, hb1⟩
  have b1 : Below w.heap.size w w1 := b0.trans (hb1.mono b0.size)
  have s1 := hb1.size
  have Ot01 := Lib.hid (OwnIn.new ho)
  clear hb1 ho
  go_wp2_with fail
  refine (toCutS_any B p d cs _ (HB.out.below b1) (by omega)).mono ?_
  rintro e w2 ⟨gt1, rfl, ho, hb2⟩
  have b2 : Below w.heap.size w w2 := b1.trans (hb2.mono b1.size)
  have s2 := hb2.size
  have Ot02 := Lib.hid (Ot01.out.below hb2)
  have Ot12 := Lib.hid (OwnIn.new ho)
  clear hb2 Ot01 ho
  go_wp2_with fail
  refine (toInt64S_any C q f pl _ (HC.out.below b2) (by omega)).mono ?_
  rintro e w3 ⟨gt2, rfl, ho, hb3⟩
  have b3 : Below w.heap.size w w3 := b2.trans (hb3.mono b2.size)
  have s3 := hb3.size
  have Ot03 := Lib.hid (Ot02.out.below hb3)
  have Ot13 := Lib.hid (Ot12.out.below hb3)
  have Ot23 := Lib.hid (OwnIn.new ho)
  clear hb3 Ot02 Ot12 ho
  go_wp2_with fail
  refine (HSP.out _ _ _ _ _ _ _ _ _ _ Ot03.out.rd Ot13.out.rd Ot23.out.rd).mono ?_
  rintro e w4 ⟨rfl, hb4⟩
  have b4 : Below w.heap.size w w4 := b3.trans (hb4.mono b3.size)
  have s4 := hb4.size
  have Ot04 := Lib.hid (Ot03.out.below hb4)
  have Ot14 := Lib.hid (Ot13.out.below hb4)
  have Ot24 := Lib.hid (Ot23.out.below hb4)
  clear hb4 Ot03 Ot13 Ot23
  go_wp2_with fail
  refine (toStringS_any A n c rs _ (HA.out.below b4) (by omega)).mono ?_
  rintro e w5 ⟨gx0, rfl, ho, hb5⟩
  have b5 : Below w.heap.size w w5 := b4.trans (hb5.mono b4.size)
  have s5 := hb5.size
  have Ot05 := Lib.hid (Ot04.out.below hb5)
  have Ot15 := Lib.hid (Ot14.out.below hb5)
  have Ot25 := Lib.hid (Ot24.out.below hb5)
  have Ox05 := Lib.hid (OwnIn.new ho)
  clear hb5 Ot04 Ot14 Ot24 ho
  go_wp2_with fail
  refine (toCutS_any B p d cs _ (HB.out.below b5) (by omega)).mono ?_
  rintro e w6 ⟨gx1, rfl, ho, hb6⟩
  have b6 : Below w.heap.size w w6 := b5.trans (hb6.mono b5.size)
  have s6 := hb6.size
  have Ot06 := Lib.hid (Ot05.out.below hb6)
  have Ot16 := Lib.hid (Ot15.out.below hb6)
  have Ot26 := Lib.hid (Ot25.out.below hb6)
  have Ox06 := Lib.hid (Ox05.out.below hb6)
  have Ox16 := Lib.hid (OwnIn.new ho)
  clear hb6 Ot05 Ot15 Ot25 Ox05 ho
  go_wp2_with fail
  refine (toInt64S_any C q f pl _ (HC.out.below b6) (by omega)).mono ?_
  rintro e w7 ⟨gx2, rfl, ho, hb7⟩
  have b7 : Below w.heap.size w w7 := b6.trans (hb7.mono b6.size)
  have s7 := hb7.size
  have Ot07 := Lib.hid (Ot06.out.below hb7)
  have Ot17 := Lib.hid (Ot16.out.below hb7)
  have Ot27 := Lib.hid (Ot26.out.below hb7)
  have Ox07 := Lib.hid (Ox06.out.below hb7)
  have Ox17 := Lib.hid (Ox16.out.below hb7)
  have Ox27 := Lib.hid (OwnIn.new ho)
  clear hb7 Ot06 Ot16 Ot26 Ox06 Ox16 ho
  go_wp2_with fail
  refine (HIM.out _ _ _ _ _ _ _ _ _ _ Ox07.out.rd Ox17.out.rd Ox27.out.rd).mono ?_
  rintro e w8 ⟨rfl, hb8⟩
  have b8 : Below w.heap.size w w8 := b7.trans (hb8.mono b7.size)
  have s8 := hb8.size
  have Ot08 := Lib.hid (Ot07.out.below hb8)
  have Ot18 := Lib.hid (Ot17.out.below hb8)
  have Ot28 := Lib.hid (Ot27.out.below hb8)
  have Ox08 := Lib.hid (Ox07.out.below hb8)
  have Ox18 := Lib.hid (Ox17.out.below hb8)
  have Ox28 := Lib.hid (Ox27.out.below hb8)
  clear hb8 Ot07 Ot17 Ot27 Ox07 Ox17 Ox27
  go_wp2_with fail
  refine (toStringS_any A n c rs _ (HA.out.below b8) (by omega)).mono ?_
  rintro e w9 ⟨gy0, rfl, ho, hb9⟩
  have b9 : Below w.heap.size w w9 := b8.trans (hb9.mono b8.size)
  have s9 := hb9.size
  have Ot09 := Lib.hid (Ot08.out.below hb9)
  have Ot19 := Lib.hid (Ot18.out.below hb9)
  have Ot29 := Lib.hid (Ot28.out.below hb9)
  have Ox09 := Lib.hid (Ox08.out.below hb9)
  have Ox19 := Lib.hid (Ox18.out.below hb9)
  have Ox29 := Lib.hid (Ox28.out.below hb9)
  have Oy09 := Lib.hid (OwnIn.new ho)
  clear hb9 Ot08 Ot18 Ot28 Ox08 Ox18 Ox28 ho
  go_wp2_with fail
  refine (eqStringS_any _ _ _ _ _ _ rs _ Ox09.out.rd Oy09.out.rd).mono ?_
  rintro e w10 ⟨rfl, hb10⟩
  have b10 : Below w.heap.size w w10 := b9.trans (hb10.mono b9.size)
  have s10 := hb10.size
  have Ot010 := Lib.hid (Ot09.out.below hb10)
  have Ot110 := Lib.hid (Ot19.out.below hb10)
  have Ot210 := Lib.hid (Ot29.out.below hb10)
  have Ox010 := Lib.hid (Ox09.out.below hb10)
  have Ox110 := Lib.hid (Ox19.out.below hb10)
  have Ox210 := Lib.hid (Ox29.out.below hb10)
  have Oy010 := Lib.hid (Oy09.out.below hb10)
  clear hb10 Ot09 Ot19 Ot29 Ox09 Ox19 Ox29 Oy09
  go_wp2_with fail
  refine (toCutS_any B p d cs _ (HB.out.below b10) (by omega)).mono ?_
  rintro e w11 ⟨gy1, rfl, ho, hb11⟩
  have b11 : Below w.heap.size w w11 := b10.trans (hb11.mono b10.size)
  have s11 := hb11.size
  have Ot011 := Lib.hid (Ot010.out.below hb11)
  have Ot111 := Lib.hid (Ot110.out.below hb11)
  have Ot211 := Lib.hid (Ot210.out.below hb11)
  have Ox011 := Lib.hid (Ox010.out.below hb11)
  have Ox111 := Lib.hid (Ox110.out.below hb11)
  have Ox211 := Lib.hid (Ox210.out.below hb11)
  have Oy011 := Lib.hid (Oy010.out.below hb11)
  have Oy111 := Lib.hid (OwnIn.new ho)
  clear hb11 Ot010 Ot110 Ot210 Ox010 Ox110 Ox210 Oy010 ho
  go_wp2_with fail
  refine (eqCutS_any _ _ _ _ _ _ cs _ Ox111.out.rd Oy111.out.rd).mono ?_
  rintro e w12 ⟨rfl, hb12⟩
  have b12 : Below w.heap.size w w12 := b11.trans (hb12.mono b11.size)
  have s12 := hb12.size
  have Ot012 := Lib.hid (Ot011.out.below hb12)
  have Ot112 := Lib.hid (Ot111.out.below hb12)
  have Ot212 := Lib.hid (Ot211.out.below hb12)
  have Ox012 := Lib.hid (Ox011.out.below hb12)
  have Ox112 := Lib.hid (Ox111.out.below hb12)
  have Ox212 := Lib.hid (Ox211.out.below hb12)
  have Oy012 := Lib.hid (Oy011.out.below hb12)
  have Oy112 := Lib.hid (Oy111.out.below hb12)
  clear hb12 Ot011 Ot111 Ot211 Ox011 Ox111 Ox211 Oy011 Oy111
  go_wp2_with fail
  refine (toInt64S_any C q f pl _ (HC.out.below b12) (by omega)).mono ?_
  rintro e w13 ⟨gy2, rfl, ho, hb13⟩
  have b13 : Below w.heap.size w w13 := b12.trans (hb13.mono b12.size)
  have s13 := hb13.size
  have Ot013 := Lib.hid (Ot012.out.below hb13)
  have Ot113 := Lib.hid (Ot112.out.below hb13)
  have Ot213 := Lib.hid (Ot212.out.below hb13)
  have Ox013 := Lib.hid (Ox012.out.below hb13)
  have Ox113 := Lib.hid (Ox112.out.below hb13)
  have Ox213 := Lib.hid (Ox212.out.below hb13)
  have Oy013 := Lib.hid (Oy012.out.below hb13)
  have Oy113 := Lib.hid (Oy112.out.below hb13)
  have Oy213 := Lib.hid (OwnIn.new ho)
  clear hb13 Ot012 Ot112 Ot212 Ox012 Ox112 Ox212 Oy012 Oy112 ho
  go_wp2_with fail
  refine (eqInt64S_any _ _ _ pl _ _ _ pl _ Ox213.out.rd Oy213.out.rd).mono ?_
  rw [eqL_self]
  rintro e w14 ⟨rfl, hb14⟩
  have b14 : Below w.heap.size w w14 := b13.trans (hb14.mono b13.size)
  have s14 := hb14.size
  have Ot014 := Lib.hid (Ot013.out.below hb14)
  have Ot114 := Lib.hid (Ot113.out.below hb14)
  have Ot214 := Lib.hid (Ot213.out.below hb14)
  have Ox014 := Lib.hid (Ox013.out.below hb14)
  have Ox114 := Lib.hid (Ox113.out.below hb14)
  have Ox214 := Lib.hid (Ox213.out.below hb14)
  have Oy014 := Lib.hid (Oy013.out.below hb14)
  have Oy114 := Lib.hid (Oy113.out.below hb14)
  have Oy214 := Lib.hid (Oy213.out.below hb14)
  clear hb14 Ot013 Ot113 Ot213 Ox013 Ox113 Ox213 Oy013 Oy113 Oy213
  go_wp2_with fail
  go_ret
  exact ⟨rfl, b14⟩

end Go.Proofs.YtiibhejjeijdaaaDoor
