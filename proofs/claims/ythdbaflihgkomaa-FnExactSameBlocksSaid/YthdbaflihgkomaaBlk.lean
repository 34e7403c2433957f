/- SameBlocks (program and reference), and its law. Printed by mkblk.py. -/
import Derived.Test.YthdbaflihgkomaaPr2
import Derived.Laws.StructEq
namespace Go.Proofs.Ythdbaflihgkomaa
open Go.RowKit

set_option maxRecDepth 100000 in
set_option maxHeartbeats 2000000 in
theorem specSameBlocks_any (A : Option Addr) (n c : Nat) (ps : List (Int × Int)) (B : Option Addr) (m d : Nat) (qs : List (Int × Int)) (w : World) (hA : Rd w 2 A n c (pr ps)) (hB : Rd w 2 B m d (pr qs)) :
    Calls Try.prog 14 #[.slice A n c, .slice B m d] w fun e w' => e = .returned (.bool (eqG ps qs)) ∧ Below w.heap.size w w' := by
  have hlx := hA.plen
  have hly := hB.plen
  have h1 := hA.cap
  have h2 := hA.max
  have h3 := hB.cap
  have h4 := hB.max
  by_cases hnm : n = m
  · subst hnm
    have HA := Lib.hid hA
    have HB := Lib.hid hB
    have HX := Lib.hid hlx
    have HY := Lib.hid hly
    clear hA hB hlx hly
    go_enter Try.func14, Try.ntmps14
    go_wp2
    go_loopw [5] (fun i wr => ∃ k : Nat, k ≤ n ∧ i = .int .i64 k ∧ ps.take k = qs.take k ∧ Below w.heap.size w wr) (fun i _ => n - (intOf i).toNat)
    case atStart => exact ⟨0, Nat.zero_le _, rfl, rfl, Below.refl _ _⟩
    case round =>
      obtain ⟨k, hk, rfl, hT, hb⟩ := hrel
      have HT := Lib.hid hT
      clear hT
      by_cases hlt : k < n
      · obtain ⟨b, o, x, y, hA, hbl, hx, hc1, hc2⟩ := (HA.out.below hb).pair hlt
        obtain ⟨b', o', x', y', hB, hbl', hx', hd1, hd2⟩ := (HB.out.below hb).pair hlt
        subst hA
        subst hB
        have HX' := Lib.hid hx
        have HY' := Lib.hid hx'
        have Hb := Lib.hid hb
        clear hx hx' hb
        have hk0 : (0 : Int) ≤ (k : Int) := by omega
        have hk1 : (k : Int) < (n : Int) := by omega
        by_cases e1 : x = x'
        · subst e1
          by_cases e2 : y = y'
          · subst e2
            go_wp2
            go_quiet (fail)
            go_wp2
            go_roundw
            case rel => exact ⟨k + 1, by omega, by go_num, takeG_succ HT.out HX'.out HY'.out, below_drewN Hb.out _⟩
            case measure => simp [intOf]; omega
          · have hne : (y == y') = false := by simpa using e2
            go_wp2
            go_quiet (fail)
            go_wp2
            go_ret
            exact ⟨ret_b (neG_at HX'.out HY'.out (by simpa using e2)).symm, below_drewN Hb.out _⟩
        · have hne : (x == x') = false := by simpa using e1
          go_wp2
          go_quiet (fail)
          go_wp2
          go_ret
          exact ⟨ret_b (neG_at HX'.out HY'.out (by simp [e1])).symm, below_drewN Hb.out _⟩
      · go_wp2
        go_ret
        have : k = n := by omega
        subst this
        exact ⟨ret_b (eqG_end HT.out HX.out HY.out).symm, hb⟩
  · go_enter Try.func14, Try.ntmps14
    go_wp2
    go_ret
    exact ⟨ret_b (neG_len (by omega)).symm, Below.refl _ _⟩

set_option maxRecDepth 100000 in
set_option maxHeartbeats 2000000 in
theorem slEqBlk_any (A : Option Addr) (n c : Nat) (ps : List (Int × Int)) (B : Option Addr) (m d : Nat) (qs : List (Int × Int)) (w : World) (hA : Rd w 2 A n c (pr ps)) (hB : Rd w 2 B m d (pr qs)) :
    Calls Try.prog 47 #[.slice A n c, .slice B m d] w fun e w' => e = .returned (.bool (eqG ps qs)) ∧ Below w.heap.size w w' := by
  have hlx := hA.plen
  have hly := hB.plen
  have h1 := hA.cap
  have h2 := hA.max
  have h3 := hB.cap
  have h4 := hB.max
  by_cases hnm : n = m
  · subst hnm
    have HA := Lib.hid hA
    have HB := Lib.hid hB
    have HX := Lib.hid hlx
    have HY := Lib.hid hly
    clear hA hB hlx hly
    go_enter Try.func47, Try.ntmps47
    go_wp2
    go_loopw [13] (fun i wr => ∃ k : Nat, k ≤ n ∧ i = .int .i64 k ∧ ps.take k = qs.take k ∧ Below w.heap.size w wr) (fun i _ => n - (intOf i).toNat)
    case atStart => exact ⟨0, Nat.zero_le _, rfl, rfl, Below.refl _ _⟩
    case round =>
      obtain ⟨k, hk, rfl, hT, hb⟩ := hrel
      have HT := Lib.hid hT
      clear hT
      by_cases hlt : k < n
      · obtain ⟨b, o, x, y, hA, hbl, hx, hc1, hc2⟩ := (HA.out.below hb).pair hlt
        obtain ⟨b', o', x', y', hB, hbl', hx', hd1, hd2⟩ := (HB.out.below hb).pair hlt
        subst hA
        subst hB
        have HX' := Lib.hid hx
        have HY' := Lib.hid hx'
        have Hb := Lib.hid hb
        clear hx hx' hb
        have hk0 : (0 : Int) ≤ (k : Int) := by omega
        have hk1 : (k : Int) < (n : Int) := by omega
        by_cases e1 : x = x'
        · subst e1
          by_cases e2 : y = y'
          · subst e2
            go_wp2
            go_quiet (fail)
            go_wp2
            go_roundw
            case rel => exact ⟨k + 1, by omega, by go_num, takeG_succ HT.out HX'.out HY'.out, below_drewN Hb.out _⟩
            case measure => simp [intOf]; omega
          · have hne : (y == y') = false := by simpa using e2
            go_wp2
            go_quiet (fail)
            go_wp2
            go_ret
            exact ⟨ret_b (neG_at HX'.out HY'.out (by simpa using e2)).symm, below_drewN Hb.out _⟩
        · have hne : (x == x') = false := by simpa using e1
          go_wp2
          go_quiet (fail)
          go_wp2
          go_ret
          exact ⟨ret_b (neG_at HX'.out HY'.out (by simp [e1])).symm, below_drewN Hb.out _⟩
      · go_wp2
        go_ret
        have : k = n := by omega
        subst this
        exact ⟨ret_b (eqG_end HT.out HX.out HY.out).symm, hb⟩
  · go_enter Try.func47, Try.ntmps47
    go_wp2
    go_ret
    exact ⟨ret_b (neG_len (by omega)).symm, Below.refl _ _⟩

set_option maxHeartbeats 400000 in
theorem implSameBlocks_any (A : Option Addr) (n c : Nat) (ps : List (Int × Int)) (B : Option Addr) (m d : Nat) (qs : List (Int × Int)) (w : World) (hA : Rd w 2 A n c (pr ps)) (hB : Rd w 2 B m d (pr qs)) :
    Calls Try.prog 16 #[.slice A n c, .slice B m d] w fun e w' => e = .returned (.bool (eqG ps qs)) ∧ Below w.heap.size w w' := by
  have HA := Lib.hid hA
  have HB := Lib.hid hB
  clear hA hB
  go_enter Try.func16, Try.ntmps16
  go_wp2_with fail
  refine (slEqBlk_any _ _ _ _ _ _ _ _ _ HA.out HB.out).mono ?_
  rintro e w' ⟨rfl, hb⟩
  go_wp2_with fail
  go_ret
  exact ⟨rfl, hb⟩

set_option maxHeartbeats 4000000 in
theorem law_SameBlocks (A : Option Addr) (n c : Nat) (ps : List (Int × Int)) (B : Option Addr) (m d : Nat) (qs : List (Int × Int)) (w : World) (hA : Rd w 2 A n c (pr ps)) (hB : Rd w 2 B m d (pr qs)) :
    Calls Try.prog 3 #[.slice A n c, .slice B m d] w fun e w' => e = .returned (.bool true) ∧ Below w.heap.size w w' := by
  have h1 := hA.cap
  have h2 := hA.max
  have h3 := hB.cap
  have h4 := hB.max
  have HA := Lib.hid hA
  have HB := Lib.hid hB
  clear hA hB
  by_cases hn : (1048576 : Int) < (n : Int)
  · go_enter Try.func3, Try.ntmps3
    go_wp2_with fail
    refine (szPrS_any _ _ _ _ _ (by omega) (by omega) (by omega)).mono ?_
    rw [if_pos (by omega)]
    rintro e w' ⟨rfl, rfl⟩
    go_wp2
    go_ret
    exact ⟨rfl, Below.refl _ _⟩
  by_cases hm : 1048576 - (n : Int) < (m : Int)
  · go_enter Try.func3, Try.ntmps3
    go_wp2_with fail
    refine (szPrS_any _ _ _ _ _ (by omega) (by omega) (by omega)).mono ?_
    rw [if_neg (by omega)]
    rintro e w' ⟨rfl, rfl⟩
    have h5 : ¬ 1048576 - (n : Int) < 0 := by omega
    go_wp2_with fail
    refine (szPrS_any _ _ _ _ _ (by omega) (by omega) (by omega)).mono ?_
    rw [if_pos (by omega)]
    rintro e w' ⟨rfl, rfl⟩
    go_wp2
    go_ret
    exact ⟨rfl, Below.refl _ _⟩
  have b0 : Below w.heap.size w w := Below.refl _ _
  go_enter Try.func3, Try.ntmps3
  go_wp2_with fail
  refine (szPrS_any _ _ _ _ _ (by omega) (by omega) (by omega)).mono ?_
  rw [if_neg (by omega)]
  rintro e w' ⟨rfl, rfl⟩
  have h5 : ¬ 1048576 - (n : Int) < 0 := by omega
  go_wp2_with fail
  refine (szPrS_any _ _ _ _ _ (by omega) (by omega) (by omega)).mono ?_
  rw [if_neg (by omega)]
  rintro e w' ⟨rfl, rfl⟩
  have h6 : ¬ 1048576 - (n : Int) - (m : Int) < 0 := by omega
  go_wp2_with fail
  refine (toPrS_any A n c ps _ (HA.out.below b0) (by omega)).mono ?_
  rintro e w1 ⟨gp, rfl, ho, hb⟩
  have b1 : Below w.heap.size w w1 := b0.trans (hb.mono b0.size)
  have Rp1 := Lib.hid (Rd.of_own ho)
  clear hb b0 ho
  go_wp2_with fail
  refine (toPrS_any B m d qs _ (HB.out.below b1) (by omega)).mono ?_
  rintro e w2 ⟨gq, rfl, ho, hb⟩
  have b2 : Below w.heap.size w w2 := b1.trans (hb.mono b1.size)
  have Rp2 := Lib.hid (Rp1.out.below hb)
  have Rq2 := Lib.hid (Rd.of_own ho)
  clear hb b1 Rp1 ho
  go_wp2_with fail
  refine (specSameBlocks_any _ _ _ ps _ _ _ qs _ Rp2.out Rq2.out).mono ?_
  rintro e w3 ⟨rfl, hb⟩
  have b3 : Below w.heap.size w w3 := b2.trans (hb.mono b2.size)
  have Rp3 := Lib.hid (Rp2.out.below hb)
  have Rq3 := Lib.hid (Rq2.out.below hb)
  clear hb b2 Rp2 Rq2
  go_wp2_with fail
  refine (toPrS_any A n c ps _ (HA.out.below b3) (by omega)).mono ?_
  rintro e w4 ⟨gx, rfl, ho, hb⟩
  have b4 : Below w.heap.size w w4 := b3.trans (hb.mono b3.size)
  have Rp4 := Lib.hid (Rp3.out.below hb)
  have Rq4 := Lib.hid (Rq3.out.below hb)
  have Rx4 := Lib.hid (Rd.of_own ho)
  clear hb b3 Rp3 Rq3 ho
  go_wp2_with fail
  refine (toPrS_any B m d qs _ (HB.out.below b4) (by omega)).mono ?_
  rintro e w5 ⟨gy, rfl, ho, hb⟩
  have b5 : Below w.heap.size w w5 := b4.trans (hb.mono b4.size)
  have Rp5 := Lib.hid (Rp4.out.below hb)
  have Rq5 := Lib.hid (Rq4.out.below hb)
  have Rx5 := Lib.hid (Rx4.out.below hb)
  have Ry5 := Lib.hid (Rd.of_own ho)
  clear hb b4 Rp4 Rq4 Rx4 ho
  go_wp2_with fail
  refine (implSameBlocks_any _ _ _ ps _ _ _ qs _ Rx5.out Ry5.out).mono ?_
  rintro e w6 ⟨rfl, hb⟩
  have b6 : Below w.heap.size w w6 := b5.trans (hb.mono b5.size)
  have Rp6 := Lib.hid (Rp5.out.below hb)
  have Rq6 := Lib.hid (Rq5.out.below hb)
  have Rx6 := Lib.hid (Rx5.out.below hb)
  have Ry6 := Lib.hid (Ry5.out.below hb)
  clear hb b5 Rp5 Rq5 Rx5 Ry5
  go_wp2_with fail
  refine (toPrS_any A n c ps _ (HA.out.below b6) (by omega)).mono ?_
  rintro e w7 ⟨gz, rfl, ho, hb⟩
  have b7 : Below w.heap.size w w7 := b6.trans (hb.mono b6.size)
  have Rp7 := Lib.hid (Rp6.out.below hb)
  have Rq7 := Lib.hid (Rq6.out.below hb)
  have Rx7 := Lib.hid (Rx6.out.below hb)
  have Ry7 := Lib.hid (Ry6.out.below hb)
  have Rz7 := Lib.hid (Rd.of_own ho)
  clear hb b6 Rp6 Rq6 Rx6 Ry6 ho
  go_wp2_with fail
  refine (eqPrS_any _ _ _ ps _ _ _ ps _ Rx7.out Rz7.out).mono ?_
  rw [eqG_self]
  rintro e w8 ⟨rfl, hb⟩
  have b8 : Below w.heap.size w w8 := b7.trans (hb.mono b7.size)
  have Rp8 := Lib.hid (Rp7.out.below hb)
  have Rq8 := Lib.hid (Rq7.out.below hb)
  have Rx8 := Lib.hid (Rx7.out.below hb)
  have Ry8 := Lib.hid (Ry7.out.below hb)
  have Rz8 := Lib.hid (Rz7.out.below hb)
  clear hb b7 Rp7 Rq7 Rx7 Ry7 Rz7
  go_wp2_with fail
  refine (toPrS_any B m d qs _ (HB.out.below b8) (by omega)).mono ?_
  rintro e w9 ⟨gv, rfl, ho, hb⟩
  have b9 : Below w.heap.size w w9 := b8.trans (hb.mono b8.size)
  have Rp9 := Lib.hid (Rp8.out.below hb)
  have Rq9 := Lib.hid (Rq8.out.below hb)
  have Rx9 := Lib.hid (Rx8.out.below hb)
  have Ry9 := Lib.hid (Ry8.out.below hb)
  have Rz9 := Lib.hid (Rz8.out.below hb)
  have Rv9 := Lib.hid (Rd.of_own ho)
  clear hb b8 Rp8 Rq8 Rx8 Ry8 Rz8 ho
  go_wp2_with fail
  refine (eqPrS_any _ _ _ qs _ _ _ qs _ Ry9.out Rv9.out).mono ?_
  rw [eqG_self]
  rintro e w10 ⟨rfl, hb⟩
  have b10 : Below w.heap.size w w10 := b9.trans (hb.mono b9.size)
  have Rp10 := Lib.hid (Rp9.out.below hb)
  have Rq10 := Lib.hid (Rq9.out.below hb)
  have Rx10 := Lib.hid (Rx9.out.below hb)
  have Ry10 := Lib.hid (Ry9.out.below hb)
  have Rz10 := Lib.hid (Rz9.out.below hb)
  have Rv10 := Lib.hid (Rv9.out.below hb)
  clear hb b9 Rp9 Rq9 Rx9 Ry9 Rz9 Rv9
  go_wp2_with fail
  go_ret
  exact ⟨rfl, b10⟩
end Go.Proofs.Ythdbaflihgkomaa
