/- The law on RowsFault. Printed by mkrw6.py. -/
import Derived.Test.YthdbaflihgkomaaRw5
import Derived.Test.YthdbaflihgkomaaPr2
namespace Go.Proofs.Ythdbaflihgkomaa
open Go.RowKit

set_option maxHeartbeats 4000000 in
theorem law_RowsFault (A : Option Addr) (n c : Nat) (ps : List (Int × Int)) (roll : Int) (B : Option Addr) (m d : Nat) (rs : List Int) (w : World) (h : Rd w 2 A n c (pr ps)) (hB : Rd w 1 B m d (ints rs)) :
    Calls Try.prog 8 #[.slice A n c, .int .i64 roll, .slice B m d] w fun e w' => e = .returned (.bool true) ∧ Below w.heap.size w w' := by
  have h1 := h.cap
  have h2 := h.max
  have h3 := hB.cap
  have h4 := hB.max
  have HA := Lib.hid h
  have HB := Lib.hid hB
  clear h hB
  by_cases hm : (1048576 : Int) < (m : Int)
  · go_enter Try.func8, Try.ntmps8
    go_wp2
    go_ret
    exact ⟨rfl, Below.refl _ _⟩
  by_cases hn : (1048576 : Int) < (n : Int)
  · go_enter Try.func8, Try.ntmps8
    go_wp2_with fail
    refine (szPrS_any _ _ _ _ _ (by omega) (by omega) (by omega)).mono ?_
    rw [if_pos (by omega)]
    rintro e w' ⟨rfl, rfl⟩
    go_wp2
    go_ret
    exact ⟨rfl, Below.refl _ _⟩
  have b0 : Below w.heap.size w w := Below.refl _ _
  go_enter Try.func8, Try.ntmps8
  go_wp2_with fail
  refine (szPrS_any _ _ _ _ _ (by omega) (by omega) (by omega)).mono ?_
  rw [if_neg (by omega)]
  rintro e w' ⟨rfl, rfl⟩
  have h5 : ¬ 1048576 - (n : Int) < 0 := by omega
  go_wp2_with fail
  refine (toPrS_any A n c ps _ (HA.out.below b0) (by omega)).mono ?_
  rintro e w1 ⟨gp, rfl, ho, hb⟩
  have b1 : Below w.heap.size w w1 := b0.trans (hb.mono b0.size)
  have Rp1 := Lib.hid (Rd.of_own ho)
  clear hb b0 ho
  go_wp2_with fail
  refine (toInt64S_any B m d rs _ (HB.out.below b1) (by omega)).mono ?_
  rintro e w2 ⟨gr, rfl, ho, hb⟩
  have b2 : Below w.heap.size w w2 := b1.trans (hb.mono b1.size)
  have Rp2 := Lib.hid (Rp1.out.below hb)
  have Rr2 := Lib.hid (Rd.of_own ho)
  clear hb b1 Rp1 ho
  go_wp2_with fail
  refine (specRowsFault_any _ _ _ ps roll _ _ _ rs _ Rp2.out Rr2.out).mono ?_
  rintro e w3 ⟨rfl, hb⟩
  have b3 : Below w.heap.size w w3 := b2.trans (hb.mono b2.size)
  have Rp3 := Lib.hid (Rp2.out.below hb)
  have Rr3 := Lib.hid (Rr2.out.below hb)
  clear hb b2 Rp2 Rr2
  go_wp2_with fail
  refine (toPrS_any A n c ps _ (HA.out.below b3) (by omega)).mono ?_
  rintro e w4 ⟨gx, rfl, ho, hb⟩
  have b4 : Below w.heap.size w w4 := b3.trans (hb.mono b3.size)
  have Rp4 := Lib.hid (Rp3.out.below hb)
  have Rr4 := Lib.hid (Rr3.out.below hb)
  have Rx4 := Lib.hid (Rd.of_own ho)
  clear hb b3 Rp3 Rr3 ho
  go_wp2_with fail
  refine (toInt64S_any B m d rs _ (HB.out.below b4) (by omega)).mono ?_
  rintro e w5 ⟨gy, rfl, ho, hb⟩
  have b5 : Below w.heap.size w w5 := b4.trans (hb.mono b4.size)
  have Rp5 := Lib.hid (Rp4.out.below hb)
  have Rr5 := Lib.hid (Rr4.out.below hb)
  have Rx5 := Lib.hid (Rx4.out.below hb)
  have Ry5 := Lib.hid (Rd.of_own ho)
  clear hb b4 Rp4 Rr4 Rx4 ho
  go_wp2_with fail
  refine (implRowsFault_any _ _ _ ps roll _ _ _ rs _ Rx5.out Ry5.out).mono ?_
  rintro e w6 ⟨rfl, hb⟩
  have b6 : Below w.heap.size w w6 := b5.trans (hb.mono b5.size)
  have Rp6 := Lib.hid (Rp5.out.below hb)
  have Rr6 := Lib.hid (Rr5.out.below hb)
  have Rx6 := Lib.hid (Rx5.out.below hb)
  have Ry6 := Lib.hid (Ry5.out.below hb)
  clear hb b5 Rp5 Rr5 Rx5 Ry5
  go_wp2_with fail
  refine (toPrS_any A n c ps _ (HA.out.below b6) (by omega)).mono ?_
  rintro e w7 ⟨gz, rfl, ho, hb⟩
  have b7 : Below w.heap.size w w7 := b6.trans (hb.mono b6.size)
  have Rp7 := Lib.hid (Rp6.out.below hb)
  have Rr7 := Lib.hid (Rr6.out.below hb)
  have Rx7 := Lib.hid (Rx6.out.below hb)
  have Ry7 := Lib.hid (Ry6.out.below hb)
  have Rz7 := Lib.hid (Rd.of_own ho)
  clear hb b6 Rp6 Rr6 Rx6 Ry6 ho
  go_wp2_with fail
  refine (eqPrS_any _ _ _ ps _ _ _ ps _ Rx7.out Rz7.out).mono ?_
  rw [eqG_self]
  rintro e w8 ⟨rfl, hb⟩
  have b8 : Below w.heap.size w w8 := b7.trans (hb.mono b7.size)
  have Rp8 := Lib.hid (Rp7.out.below hb)
  have Rr8 := Lib.hid (Rr7.out.below hb)
  have Rx8 := Lib.hid (Rx7.out.below hb)
  have Ry8 := Lib.hid (Ry7.out.below hb)
  have Rz8 := Lib.hid (Rz7.out.below hb)
  clear hb b7 Rp7 Rr7 Rx7 Ry7 Rz7
  go_wp2_with fail
  refine (toInt64S_any B m d rs _ (HB.out.below b8) (by omega)).mono ?_
  rintro e w9 ⟨gv, rfl, ho, hb⟩
  have b9 : Below w.heap.size w w9 := b8.trans (hb.mono b8.size)
  have Rp9 := Lib.hid (Rp8.out.below hb)
  have Rr9 := Lib.hid (Rr8.out.below hb)
  have Rx9 := Lib.hid (Rx8.out.below hb)
  have Ry9 := Lib.hid (Ry8.out.below hb)
  have Rz9 := Lib.hid (Rz8.out.below hb)
  have Rv9 := Lib.hid (Rd.of_own ho)
  clear hb b8 Rp8 Rr8 Rx8 Ry8 Rz8 ho
  go_wp2_with fail
  refine (eqInt64S_any _ _ _ rs _ _ _ rs _ Ry9.out Rv9.out).mono ?_
  rw [eqL_self]
  rintro e w10 ⟨rfl, hb⟩
  have b10 : Below w.heap.size w w10 := b9.trans (hb.mono b9.size)
  have Rp10 := Lib.hid (Rp9.out.below hb)
  have Rr10 := Lib.hid (Rr9.out.below hb)
  have Rx10 := Lib.hid (Rx9.out.below hb)
  have Ry10 := Lib.hid (Ry9.out.below hb)
  have Rz10 := Lib.hid (Rz9.out.below hb)
  have Rv10 := Lib.hid (Rv9.out.below hb)
  clear hb b9 Rp9 Rr9 Rx9 Ry9 Rz9 Rv9
  go_wp2_with fail
  go_ret
  exact ⟨rfl, b10⟩

end Go.Proofs.Ythdbaflihgkomaa
