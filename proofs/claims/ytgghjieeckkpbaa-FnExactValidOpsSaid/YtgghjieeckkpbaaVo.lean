/- ValidOps: the law's walk. Printed by mkvo.py. -/
import Derived.Test.YtgghjieeckkpbaaOk
import Derived.Test.YtgghjieeckkpbaaOwn
namespace Go.Proofs.Ytgghjieeckkpbaa
open Go.RowKit

set_option maxHeartbeats 1000000 in
theorem specValidOps_any (A : Option Addr) (n c : Nat) (ops : List OpV) (w : World) (h : RdO w A n c ops) :
    Calls Try.prog 36 #[.slice A n c] w fun e w' => e = .returned (.bool (okO ops)) ∧ Below w.heap.size w w' := by
  have hcall := l13Ok_any A n c ops w h
  generalize okO ops = r at *
  have HC := Lib.hid hcall
  clear hcall h
  go_enter Try.func36, Try.ntmps36
  go_wp2_with fail
  refine (HC.out).mono ?_
  rintro e w' ⟨rfl, hb⟩
  go_wp2
  go_ret
  exact ⟨rfl, hb⟩

set_option maxRecDepth 100000 in
set_option maxHeartbeats 8000000 in
theorem law_ValidOps (A : Option Addr) (n c : Nat) (ops : List OpV) (w : World) (hA : RdO w A n c ops) :
    Calls Try.prog 5 #[.slice A n c] w fun e w' => e = .returned (.bool true) ∧ Below w.heap.size w w' := by
  have eA1 := hA.cap
  have eA2 := hA.max
  have lA := hA.len
  have hsp := fun A n c W h => specValidOps_any A n c ops W h
  have him := fun A n c W h => implValidOps_any A n c ops W h
  generalize okO ops = R at *
  have HA := Lib.hid hA
  have HSP := Lib.hid hsp
  have HIM := Lib.hid him
  clear hA hsp him lA
  have bz : Below w.heap.size w w := Below.refl _ _
  go_enter Try.func5, Try.ntmps5
  go_wp2_with fail
  refine (szOpS_any _ _ _ ops _ _ (HA.out.below bz) (by omega) (by omega)).mono ?_
  rintro e w0 ⟨q0, rfl, hq, hbz⟩
  have b0 : Below w.heap.size w w0 := bz.trans (hbz.mono bz.size)
  clear hbz
  rcases hq with rfl | ⟨hq0, hq1, hsh⟩
  · go_wp2
    go_ret
    exact ⟨rfl, b0⟩
  have SHA := Lib.hid hsh
  have hqn : ¬ q0 < 0 := by omega
  clear hsh
  go_wp2_with fail
  refine (toOpS_any A n c ops _ (HA.out.below b0) SHA.out).mono ?_
  rintro e w1 ⟨gt0, cst0, Gt0, rfl, hP, hM, hb1⟩
  have b1 : Below w.heap.size w w1 := b0.trans (hb1.mono b0.size)
  have s1 := hb1.size
  have Pt01 := Lib.hid hP
  have Mt01 := Lib.hid hM
  clear hb1 hP hM
  go_wp2_with fail
  refine (HSP.out _ _ _ _ Pt01.out).mono ?_
  rintro e w2 ⟨rfl, hb2⟩
  have b2 : Below w.heap.size w w2 := b1.trans (hb2.mono b1.size)
  have s2 := hb2.size
  have Pt02 := Lib.hid (Pt01.out.below hb2)
  have Mt02 := Lib.hid (Mt01.out.below hb2)
  clear hb2 Pt01 Mt01
  go_wp2_with fail
  refine (toOpS_any A n c ops _ (HA.out.below b2) SHA.out).mono ?_
  rintro e w3 ⟨gx0, csx0, Gx0, rfl, hP, hM, hb3⟩
  have b3 : Below w.heap.size w w3 := b2.trans (hb3.mono b2.size)
  have s3 := hb3.size
  have Pt03 := Lib.hid (Pt02.out.below hb3)
  have Mt03 := Lib.hid (Mt02.out.below hb3)
  have Px03 := Lib.hid hP
  have Mx03 := Lib.hid hM
  clear hb3 Pt02 Mt02 hP hM
  go_wp2_with fail
  refine (HIM.out _ _ _ _ Px03.out).mono ?_
  rintro e w4 ⟨rfl, hb4⟩
  have b4 : Below w.heap.size w w4 := b3.trans (hb4.mono b3.size)
  have s4 := hb4.size
  have Pt04 := Lib.hid (Pt03.out.below hb4)
  have Mt04 := Lib.hid (Mt03.out.below hb4)
  have Px04 := Lib.hid (Px03.out.below hb4)
  have Mx04 := Lib.hid (Mx03.out.below hb4)
  clear hb4 Pt03 Mt03 Px03 Mx03
  go_wp2_with fail
  refine (toOpS_any A n c ops _ (HA.out.below b4) SHA.out).mono ?_
  rintro e w5 ⟨gy0, csy0, Gy0, rfl, hP, hM, hb5⟩
  have b5 : Below w.heap.size w w5 := b4.trans (hb5.mono b4.size)
  have s5 := hb5.size
  have Pt05 := Lib.hid (Pt04.out.below hb5)
  have Mt05 := Lib.hid (Mt04.out.below hb5)
  have Px05 := Lib.hid (Px04.out.below hb5)
  have Mx05 := Lib.hid (Mx04.out.below hb5)
  have Py05 := Lib.hid hP
  have My05 := Lib.hid hM
  clear hb5 Pt04 Mt04 Px04 Mx04 hP hM
  go_wp2_with fail
  refine (eqOpS_any _ _ _ _ _ ops _ Px05.out Py05.out).mono ?_
  rintro e w6 ⟨rfl, hb6⟩
  have b6 : Below w.heap.size w w6 := b5.trans (hb6.mono b5.size)
  have s6 := hb6.size
  have Pt06 := Lib.hid (Pt05.out.below hb6)
  have Mt06 := Lib.hid (Mt05.out.below hb6)
  have Px06 := Lib.hid (Px05.out.below hb6)
  have Mx06 := Lib.hid (Mx05.out.below hb6)
  have Py06 := Lib.hid (Py05.out.below hb6)
  have My06 := Lib.hid (My05.out.below hb6)
  clear hb6 Pt05 Mt05 Px05 Mx05 Py05 My05
  go_wp2_with fail
  go_ret
  exact ⟨rfl, b6⟩

end Go.Proofs.Ytgghjieeckkpbaa
