/- FirstRows of the program, and the law. Printed by mkfr5.py. -/
import Derived.Test.YthdbaflihgkomaaFr4
import Derived.Test.YthdbaflihgkomaaOwn
namespace Go.Proofs.Ythdbaflihgkomaa
open Go.RowKit Go.Shelf

set_option maxHeartbeats 2000000 in
theorem implFirstRows_any (b o : Nat) (n c : Nat) (ps : List (Int × Int)) (roll : Int) (w : World) (h : Rd w 2 (some ⟨b, o, none⟩) n c (pr ps)) :
    Calls Try.prog 27 #[.slice (some ⟨b, o, none⟩) n c, .int .i64 roll] w (IntPost w (firstZ ps roll).1 (firstZ ps roll).2) := by
  have hl := h.plen
  have h1 := h.cap
  have h2 := h.max
  have hcall := fun W h => implValidBlocks_any (some ⟨b, o, none⟩) n c ps roll W h
  unfold firstZ
  cases hz : blocksB ps roll with
  | false =>
    rw [hz] at hcall
    rw [if_neg (by simp)]
    have HC := Lib.hid hcall
    have H := Lib.hid h
    clear hcall h hz
    go_enter Try.func27, Try.ntmps27
    go_wp2_with fail
    refine (HC.out _ H.out).mono ?_
    rintro e w1 ⟨rfl, hb⟩
    go_wp2
    go_ret2
    exact intPost_nil hb
  | true =>
    have ho := bok hz
    have hn9 := ho.len
    have hn9' : n ≤ 9 := by omega
    rw [hz] at hcall
    rw [if_pos rfl]
    have hf := fun W B d h hB => firstRows_any b o n c ps roll B n d (upto n) W h hB ho hn9' (fun j i hj => by have := upto_get hj; omega)
    have hR : (firstK ps roll (upto ps.length) ps.length).1 = (firstK ps roll (upto n) n).1 := by rw [hl]
    rw [hR]
    generalize (firstK ps roll (upto n) n).1 = R at *
    have HC := Lib.hid hcall
    have HF := Lib.hid hf
    have H := Lib.hid h
    clear hcall h hz hl ho hn9 hf hR
    go_enter Try.func27, Try.ntmps27
    go_wp2_with fail
    refine (HC.out _ H.out).mono ?_
    rintro e w1 ⟨rfl, hb1⟩
    have H1 := Lib.hid (H.out.below hb1)
    have HB1 := Lib.hid hb1
    clear hb1 H HC
    go_wp2_with fail
    refine (inOrder_any _ n c _ hn9' h1 h2).mono ?_
    rintro e w2 ⟨B, d, rfl, hown, hb2⟩
    have HR := Lib.hid (Rd.of_own hown)
    have H2 := Lib.hid (H1.out.below hb2)
    have HB2 := Lib.hid (HB1.out.trans (hb2.mono HB1.out.size))
    clear hown hb2 H1 HB1
    go_wp2_with fail
    refine (HF.out _ _ _ H2.out HR.out).mono ?_
    rintro e w3 ⟨g, rfl, hown, hb3⟩
    have b3 := HB2.out.trans (hb3.mono HB2.out.size)
    have HO4 := Lib.hid (own_base hown HB2.out.size)
    clear hown hb3
    go_wp2
    go_ret2
    exact ⟨_, _, _, rfl, HO4.out, b3⟩
theorem firstK_len (ps : List (Int × Int)) (roll : Int) (os : List Int) : ∀ k, (firstK ps roll os k).1.length = ps.length
  | 0 => by simp [firstK]
  | k + 1 => by
    unfold firstK
    split
    · split
      · simp [firstK_len ps roll os k]
      · exact firstK_len ps roll os k
    · exact firstK_len ps roll os k
theorem first_len (ps : List (Int × Int)) (roll : Int) : (firstZ ps roll).1.length ≤ ps.length := by
  unfold firstZ
  split
  · rw [firstK_len]; exact Nat.le_refl _
  · simp

set_option maxRecDepth 100000 in
set_option maxHeartbeats 8000000 in
theorem law_FirstRows (A : Option Addr) (n c : Nat) (ps : List (Int × Int)) (roll : Int) (w : World) (h : Rd w 2 A n c (pr ps)) :
    Calls Try.prog 7 #[.slice A n c, .int .i64 roll] w fun e w' => e = .returned (.bool true) ∧ Below w.heap.size w w' := by
  have h1 := h.cap
  have h2 := h.max
  have HA := Lib.hid h
  have hlp := h.plen
  have hlen := first_len ps roll
  have hsp := fun A n c W h => specFirstRows_any A n c ps roll W h
  have him := fun b o n c W h => implFirstRows_any b o n c ps roll W h
  generalize (firstZ ps roll).1 = R at *
  generalize (firstZ ps roll).2 = z at *
  have HSP := Lib.hid hsp
  have HIM := Lib.hid him
  clear h hsp him
  by_cases hn : (1048576 : Int) < (n : Int)
  · go_enter Try.func7, Try.ntmps7
    go_wp2_with fail
    refine (szPrS_any _ _ _ _ _ (by omega) (by omega) (by omega)).mono ?_
    rw [if_pos (by omega)]
    rintro e w' ⟨rfl, rfl⟩
    go_wp2
    go_ret
    exact ⟨rfl, Below.refl _ _⟩
  have b0 : Below w.heap.size w w := Below.refl _ _
  go_enter Try.func7, Try.ntmps7
  go_wp2_with fail
  refine (szPrS_any _ _ _ _ _ (by omega) (by omega) (by omega)).mono ?_
  rw [if_neg (by omega)]
  rintro e w' ⟨rfl, rfl⟩
  have h5 : ¬ 1048576 - (n : Int) < 0 := by omega
  go_wp2_with fail
  refine (toPrS_any A n c ps _ (HA.out.below b0) (by omega)).mono ?_
  rintro e w1 ⟨gt, rfl, ho, hb1⟩
  have b1 : Below w.heap.size w w1 := b0.trans (hb1.mono b0.size)
  have s1 := hb1.size
  have Ot1 := Lib.hid (OwnIn.new ho)
  clear hb1 ho
  go_wp2_with fail
  refine (HSP.out _ _ _ _ Ot1.out.rd).mono ?_
  rintro e w2 ⟨Aw, nw, cw, rfl, ho, hb2⟩
  have b2 : Below w.heap.size w w2 := b1.trans (hb2.mono b1.size)
  have s2 := hb2.size
  have Ot2 := Lib.hid (Ot1.out.below hb2)
  have Ow2 := Lib.hid (OwnIn.new ho)
  clear hb2 Ot1 ho
  go_wp2_with fail
  refine (toPrS_any A n c ps _ (HA.out.below b2) (by omega)).mono ?_
  rintro e w3 ⟨gx, rfl, ho, hb3⟩
  have b3 : Below w.heap.size w w3 := b2.trans (hb3.mono b2.size)
  have s3 := hb3.size
  have Ot3 := Lib.hid (Ot2.out.below hb3)
  have Ow3 := Lib.hid (Ow2.out.below hb3)
  have Ox3 := Lib.hid (OwnIn.new ho)
  clear hb3 Ot2 Ow2 ho
  go_wp2_with fail
  refine (HIM.out _ _ _ _ _ Ox3.out.rd).mono ?_
  rintro e w4 ⟨Ag, ng, cg, rfl, ho, hb4⟩
  have b4 : Below w.heap.size w w4 := b3.trans (hb4.mono b3.size)
  have s4 := hb4.size
  have Ot4 := Lib.hid (Ot3.out.below hb4)
  have Ow4 := Lib.hid (Ow3.out.below hb4)
  have Ox4 := Lib.hid (Ox3.out.below hb4)
  have Og4 := Lib.hid (OwnIn.new ho)
  clear hb4 Ot3 Ow3 Ox3 ho
  have lg := Og4.out.ilen
  have lw := Ow4.out.ilen
  have hng : ng ≤ n := by omega
  clear lg lw
  go_wp2_with fail
  refine (eqInt64S_any _ _ _ R _ _ _ R _ Og4.out.rd Ow4.out.rd).mono ?_
  rw [eqL_self]
  rintro e w5 ⟨rfl, hb5⟩
  have b5 : Below w.heap.size w w5 := b4.trans (hb5.mono b4.size)
  have s5 := hb5.size
  have Ot5 := Lib.hid (Ot4.out.below hb5)
  have Ow5 := Lib.hid (Ow4.out.below hb5)
  have Ox5 := Lib.hid (Ox4.out.below hb5)
  have Og5 := Lib.hid (Og4.out.below hb5)
  clear hb5 Ot4 Ow4 Ox4 Og4
  go_wp2_with fail
  refine (toPrS_any A n c ps _ (HA.out.below b5) (by omega)).mono ?_
  rintro e w6 ⟨gy, rfl, ho, hb6⟩
  have b6 : Below w.heap.size w w6 := b5.trans (hb6.mono b5.size)
  have s6 := hb6.size
  have Ot6 := Lib.hid (Ot5.out.below hb6)
  have Ow6 := Lib.hid (Ow5.out.below hb6)
  have Ox6 := Lib.hid (Ox5.out.below hb6)
  have Og6 := Lib.hid (Og5.out.below hb6)
  have Oy6 := Lib.hid (OwnIn.new ho)
  clear hb6 Ot5 Ow5 Ox5 Og5 ho
  go_wp2_with fail
  refine (eqPrS_any _ _ _ ps _ _ _ ps _ Ox6.out.rd Oy6.out.rd).mono ?_
  rw [eqG_self]
  rintro e w7 ⟨rfl, hb7⟩
  have b7 : Below w.heap.size w w7 := b6.trans (hb7.mono b6.size)
  have s7 := hb7.size
  have Ot7 := Lib.hid (Ot6.out.below hb7)
  have Ow7 := Lib.hid (Ow6.out.below hb7)
  have Ox7 := Lib.hid (Ox6.out.below hb7)
  have Og7 := Lib.hid (Og6.out.below hb7)
  have Oy7 := Lib.hid (Oy6.out.below hb7)
  clear hb7 Ot6 Ow6 Ox6 Og6 Oy6
  go_wp2_with fail
  refine (markPrS_any _ _ _ _ ps 1 _ Ox7.out.own (by omega) (by omega)).mono ?_
  rintro e w8 ⟨rfl, ho, hg⟩
  have b8 : Below w.heap.size w w8 := Ox7.out.base b7 hg (by omega) (Nat.le_refl _)
  have s8 := hg.size
  have Ot8 := Lib.hid (Ot7.out.other Ox7.out hg (by omega))
  have Ow8 := Lib.hid (Ow7.out.other Ox7.out hg (by omega))
  have Ox8 := Lib.hid (Ox7.out.self ho hg)
  have Og8 := Lib.hid (Og7.out.other Ox7.out hg (by omega))
  have Oy8 := Lib.hid (Oy7.out.other Ox7.out hg (by omega))
  clear ho hg Ot7 Ow7 Ox7 Og7 Oy7
  go_wp2_with fail
  refine (eqInt64S_any _ _ _ R _ _ _ R _ Og8.out.rd Ow8.out.rd).mono ?_
  rw [eqL_self]
  rintro e w9 ⟨rfl, hb9⟩
  have b9 : Below w.heap.size w w9 := b8.trans (hb9.mono b8.size)
  have s9 := hb9.size
  have Ot9 := Lib.hid (Ot8.out.below hb9)
  have Ow9 := Lib.hid (Ow8.out.below hb9)
  have Ox9 := Lib.hid (Ox8.out.below hb9)
  have Og9 := Lib.hid (Og8.out.below hb9)
  have Oy9 := Lib.hid (Oy8.out.below hb9)
  clear hb9 Ot8 Ow8 Ox8 Og8 Oy8
  go_wp2_with fail
  refine (markInt64S_any _ _ _ _ R 1 _ Og9.out.own (by omega) (by omega)).mono ?_
  rintro e w10 ⟨rfl, ho, hg⟩
  have b10 : Below w.heap.size w w10 := Og9.out.base b9 hg (by omega) (Nat.le_refl _)
  have s10 := hg.size
  have Ot10 := Lib.hid (Ot9.out.other Og9.out hg (by omega))
  have Ow10 := Lib.hid (Ow9.out.other Og9.out hg (by omega))
  have Ox10 := Lib.hid (Ox9.out.other Og9.out hg (by omega))
  have Og10 := Lib.hid (Og9.out.self ho hg)
  have Oy10 := Lib.hid (Oy9.out.other Og9.out hg (by omega))
  clear ho hg Ot9 Ow9 Ox9 Og9 Oy9
  go_wp2_with fail
  refine (heldInt64S_any _ _ _ 1 _ Og10.out.rd (by omega) (by omega)).mono ?_
  rintro e wz ⟨rfl, rfl⟩
  go_wp2_with fail
  refine (toPrS_any A n c ps _ (HA.out.below b10) (by omega)).mono ?_
  rintro e w11 ⟨gz, rfl, ho, hb11⟩
  have b11 : Below w.heap.size w w11 := b10.trans (hb11.mono b10.size)
  have s11 := hb11.size
  have Ot11 := Lib.hid (Ot10.out.below hb11)
  have Ow11 := Lib.hid (Ow10.out.below hb11)
  have Ox11 := Lib.hid (Ox10.out.below hb11)
  have Og11 := Lib.hid (Og10.out.below hb11)
  have Oy11 := Lib.hid (Oy10.out.below hb11)
  have Oz11 := Lib.hid (OwnIn.new ho)
  clear hb11 Ot10 Ow10 Ox10 Og10 Oy10 ho
  go_wp2_with fail
  refine (HIM.out _ _ _ _ _ Oz11.out.rd).mono ?_
  rintro e w12 ⟨Ah, nh, ch, rfl, ho, hb12⟩
  have b12 : Below w.heap.size w w12 := b11.trans (hb12.mono b11.size)
  have s12 := hb12.size
  have Ot12 := Lib.hid (Ot11.out.below hb12)
  have Ow12 := Lib.hid (Ow11.out.below hb12)
  have Ox12 := Lib.hid (Ox11.out.below hb12)
  have Og12 := Lib.hid (Og11.out.below hb12)
  have Oy12 := Lib.hid (Oy11.out.below hb12)
  have Oz12 := Lib.hid (Oz11.out.below hb12)
  have Oh12 := Lib.hid (OwnIn.new ho)
  clear hb12 Ot11 Ow11 Ox11 Og11 Oy11 Oz11 ho
  go_wp2_with fail
  refine (eqInt64S_any _ _ _ R _ _ _ R _ Oh12.out.rd Ow12.out.rd).mono ?_
  rw [eqL_self]
  rintro e w13 ⟨rfl, hb13⟩
  have b13 : Below w.heap.size w w13 := b12.trans (hb13.mono b12.size)
  have s13 := hb13.size
  have Ot13 := Lib.hid (Ot12.out.below hb13)
  have Ow13 := Lib.hid (Ow12.out.below hb13)
  have Ox13 := Lib.hid (Ox12.out.below hb13)
  have Og13 := Lib.hid (Og12.out.below hb13)
  have Oy13 := Lib.hid (Oy12.out.below hb13)
  have Oz13 := Lib.hid (Oz12.out.below hb13)
  have Oh13 := Lib.hid (Oh12.out.below hb13)
  clear hb13 Ot12 Ow12 Ox12 Og12 Oy12 Oz12 Oh12
  go_wp2_with fail
  refine (heldInt64S_any _ _ _ 1 _ Og13.out.rd (by omega) (by omega)).mono ?_
  rintro e wz ⟨rfl, rfl⟩
  go_wp2_with fail
  go_ret
  exact ⟨rfl, b13⟩

end Go.Proofs.Ythdbaflihgkomaa
