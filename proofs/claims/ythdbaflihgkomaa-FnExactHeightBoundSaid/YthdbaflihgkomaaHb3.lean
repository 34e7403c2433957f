/- The law on HeightBound. Printed by mkvb2.py. -/
import Derived.Test.YthdbaflihgkomaaHb2
namespace Go.Proofs.Ythdbaflihgkomaa
open Go.RowKit

set_option maxHeartbeats 4000000 in
theorem law_HeightBound (A : Option Addr) (n c : Nat) (ps : List (Int × Int)) (roll : Int) (w : World) (h : Rd w 2 A n c (pr ps)) :
    Calls Try.prog 5 #[.slice A n c, .int .i64 roll] w fun e w' => e = .returned (.bool true) ∧ Below w.heap.size w w' := by
  have h1 := h.cap
  have h2 := h.max
  have HA := Lib.hid h
  clear h
  by_cases hn : (1048576 : Int) < (n : Int)
  · go_enter Try.func5, Try.ntmps5
    go_wp2_with fail
    refine (szPrS_any _ _ _ _ _ (by omega) (by omega) (by omega)).mono ?_
    rw [if_pos (by omega)]
    rintro e w' ⟨rfl, rfl⟩
    go_wp2
    go_ret
    exact ⟨rfl, Below.refl _ _⟩
  have b0 : Below w.heap.size w w := Below.refl _ _
  go_enter Try.func5, Try.ntmps5
  go_wp2_with fail
  refine (szPrS_any _ _ _ _ _ (by omega) (by omega) (by omega)).mono ?_
  rw [if_neg (by omega)]
  rintro e w' ⟨rfl, rfl⟩
  have h5 : ¬ 1048576 - (n : Int) < 0 := by omega
  cases hz : blocksB ps roll with
  | false =>
    have HZ := Lib.hid hz
    clear hz
    go_wp2_with fail
    refine (toPrS_any A n c ps _ (HA.out.below b0) (by omega)).mono ?_
    rintro e w1 ⟨gp, rfl, ho, hb⟩
    have b1 : Below w.heap.size w w1 := b0.trans (hb.mono b0.size)
    have Rp1 := Lib.hid (Rd.of_own ho)
    clear hb b0 ho
    go_wp2_with fail
    refine (specHeightBound_any _ _ _ ps roll _ Rp1.out).mono ?_
    rw [HZ.out]
    rintro e w2 ⟨rfl, hb⟩
    have b2 : Below w.heap.size w w2 := b1.trans (hb.mono b1.size)
    have Rp2 := Lib.hid (Rp1.out.below hb)
    clear hb b1 Rp1
    go_wp2_with fail
    refine (toPrS_any A n c ps _ (HA.out.below b2) (by omega)).mono ?_
    rintro e w3 ⟨gx, rfl, ho, hb⟩
    have b3 : Below w.heap.size w w3 := b2.trans (hb.mono b2.size)
    have Rp3 := Lib.hid (Rp2.out.below hb)
    have Rx3 := Lib.hid (Rd.of_own ho)
    clear hb b2 Rp2 ho
    go_wp2_with fail
    refine (implHeightBound_any _ _ _ ps roll _ Rx3.out).mono ?_
    rw [HZ.out]
    rintro e w4 ⟨rfl, hb⟩
    have b4 : Below w.heap.size w w4 := b3.trans (hb.mono b3.size)
    have Rp4 := Lib.hid (Rp3.out.below hb)
    have Rx4 := Lib.hid (Rx3.out.below hb)
    clear hb b3 Rp3 Rx3
    go_wp2_with fail
    refine (toPrS_any A n c ps _ (HA.out.below b4) (by omega)).mono ?_
    rintro e w5 ⟨gz, rfl, ho, hb⟩
    have b5 : Below w.heap.size w w5 := b4.trans (hb.mono b4.size)
    have Rp5 := Lib.hid (Rp4.out.below hb)
    have Rx5 := Lib.hid (Rx4.out.below hb)
    have Rz5 := Lib.hid (Rd.of_own ho)
    clear hb b4 Rp4 Rx4 ho
    go_wp2_with fail
    refine (eqPrS_any _ _ _ ps _ _ _ ps _ Rx5.out Rz5.out).mono ?_
    rw [eqG_self]
    rintro e w6 ⟨rfl, hb⟩
    have b6 : Below w.heap.size w w6 := b5.trans (hb.mono b5.size)
    have Rp6 := Lib.hid (Rp5.out.below hb)
    have Rx6 := Lib.hid (Rx5.out.below hb)
    have Rz6 := Lib.hid (Rz5.out.below hb)
    clear hb b5 Rp5 Rx5 Rz5
    go_wp2_with fail
    go_ret
    exact ⟨rfl, b6⟩
  | true =>
    have HZ := Lib.hid hz
    clear hz
    go_wp2_with fail
    refine (toPrS_any A n c ps _ (HA.out.below b0) (by omega)).mono ?_
    rintro e w1 ⟨gp, rfl, ho, hb⟩
    have b1 : Below w.heap.size w w1 := b0.trans (hb.mono b0.size)
    have Rp1 := Lib.hid (Rd.of_own ho)
    clear hb b0 ho
    go_wp2_with fail
    refine (specHeightBound_any _ _ _ ps roll _ Rp1.out).mono ?_
    rw [HZ.out]
    rintro e w2 ⟨rfl, hb⟩
    have b2 : Below w.heap.size w w2 := b1.trans (hb.mono b1.size)
    have Rp2 := Lib.hid (Rp1.out.below hb)
    clear hb b1 Rp1
    go_wp2_with fail
    refine (toPrS_any A n c ps _ (HA.out.below b2) (by omega)).mono ?_
    rintro e w3 ⟨gx, rfl, ho, hb⟩
    have b3 : Below w.heap.size w w3 := b2.trans (hb.mono b2.size)
    have Rp3 := Lib.hid (Rp2.out.below hb)
    have Rx3 := Lib.hid (Rd.of_own ho)
    clear hb b2 Rp2 ho
    go_wp2_with fail
    refine (implHeightBound_any _ _ _ ps roll _ Rx3.out).mono ?_
    rw [HZ.out]
    rintro e w4 ⟨rfl, hb⟩
    have b4 : Below w.heap.size w w4 := b3.trans (hb.mono b3.size)
    have Rp4 := Lib.hid (Rp3.out.below hb)
    have Rx4 := Lib.hid (Rx3.out.below hb)
    clear hb b3 Rp3 Rx3
    go_wp2_with fail
    refine (toPrS_any A n c ps _ (HA.out.below b4) (by omega)).mono ?_
    rintro e w5 ⟨gz, rfl, ho, hb⟩
    have b5 : Below w.heap.size w w5 := b4.trans (hb.mono b4.size)
    have Rp5 := Lib.hid (Rp4.out.below hb)
    have Rx5 := Lib.hid (Rx4.out.below hb)
    have Rz5 := Lib.hid (Rd.of_own ho)
    clear hb b4 Rp4 Rx4 ho
    go_wp2_with fail
    refine (eqPrS_any _ _ _ ps _ _ _ ps _ Rx5.out Rz5.out).mono ?_
    rw [eqG_self]
    rintro e w6 ⟨rfl, hb⟩
    have b6 : Below w.heap.size w w6 := b5.trans (hb.mono b5.size)
    have Rp6 := Lib.hid (Rp5.out.below hb)
    have Rx6 := Lib.hid (Rx5.out.below hb)
    have Rz6 := Lib.hid (Rz5.out.below hb)
    clear hb b5 Rp5 Rx5 Rz5
    go_wp2_with fail
    go_ret
    exact ⟨rfl, b6⟩

end Go.Proofs.Ythdbaflihgkomaa
