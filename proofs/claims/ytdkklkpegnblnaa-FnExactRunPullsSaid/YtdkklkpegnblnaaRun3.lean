/- The law on RunPulls. -/
import Derived.Test.YtdkklkpegnblnaaRun2
import Derived.Test.YtdkklkpegnblnaaOwn
namespace Go.Proofs.Ytdkklkpegnblnaa
open Go.RowKit Go.Shelf

theorem runA_len {a c s d : Int} : ∀ (fs : List Int) (len : Int) (acc l : List Int), runA a c s d fs len acc = some l → l.length = acc.length + fs.length
  | [], _, acc, l, h => by simp only [runA, Option.some.injEq] at h; subst h; simp
  | f :: fs, len, acc, l, h => by
    unfold runA at h
    split at h
    · cases h
    · have := runA_len fs _ _ l h
      simp at this ⊢
      omega
theorem runZ_len (a c s m d len : Int) (xs : List Int) : (runZ a c s m d len xs).1.length ≤ xs.length := by
  unfold runZ
  split
  · split
    · simp
    · split
      · simp
      · cases h : runA a c s d xs len [] with
        | none => simp [runEnd]
        | some l => have := runA_len xs len [] l h; simp [runEnd]; simp at this; omega
  · simp

set_option maxRecDepth 100000 in
set_option maxHeartbeats 8000000 in
theorem law_RunPulls (a c s m d len : Int) (A : Option Addr) (n cp : Nat) (xs : List Int) (w : World) (h : Rd w 1 A n cp (ints xs)) :
    Calls Try.prog 16 #[.agg #[.int .i64 a, .int .i64 c, .int .i64 s, .int .i64 m], .int .i64 d, .int .i64 len, .slice A n cp] w fun e w' => e = .returned (.bool true) ∧ Below w.heap.size w w' := by
  have h1 := h.cap
  have h2 := h.max
  have hb0 : Below w.heap.size w (w.alloc (.cells #[.int .i64 a, .int .i64 c, .int .i64 s, .int .i64 m] 23)) := (by go_grown)
  have B0 := Box.new w #[.int .i64 a, .int .i64 c, .int .i64 s, .int .i64 m] 23
  have c0 := B0.cell
  by_cases hn : n ≤ 1048576
  · have hsp := fun A n cp W h => specRunPulls_any a c s m d len A n cp xs W h
    have him := fun A n cp W h => implRunPulls_any a c s m d len A n cp xs W h
    have hlen := runZ_len a c s m d len xs
    rw [h.ilen] at hlen
    generalize (runZ a c s m d len xs).1 = R at *
    generalize (runZ a c s m d len xs).2 = z at *
    have HSP := Lib.hid hsp
    have HIM := Lib.hid him
    have HX0 := Lib.hid (h.below hb0)
    have HBX0 := Lib.hid B0
    have HBW := Lib.hid hb0
    clear hsp him h
    go_enter Try.func16, Try.ntmps16
    go_wp2_with fail
    obtain ⟨wb, hwb⟩ : ∃ wb, w.alloc (.cells #[.int .i64 a, .int .i64 c, .int .i64 s, .int .i64 m] 23) = wb := ⟨_, rfl⟩
    rw [hwb] at HX0 HBX0 HBW c0 ⊢
    have HX := HX0
    have BX := HBX0
    clear hwb hb0 B0 HX0 HBX0
    have b0 : Below wb.heap.size wb wb := Below.refl _ _
    go_wp2_with fail
    refine (toLeather_any _ _ _ _ _).mono ?_
    rintro e w1 ⟨rfl, hb1⟩
    have b1 : Below wb.heap.size wb w1 := b0.trans (hb1.mono b0.size)
    have s1 := hb1.size
    have cBX1 := (BX.out.below b1).cell
    clear hb1
    go_wp2_with fail
    refine (toInt64S_any A n cp xs _ (HX.out.below b1) hn).mono ?_
    rintro e w2 ⟨g2, rfl, ho, hb2⟩
    have b2 : Below wb.heap.size wb w2 := b1.trans (hb2.mono b1.size)
    have s2 := hb2.size
    have Ot2 := Lib.hid (OwnIn.new ho)
    have cBX2 := (BX.out.below b2).cell
    clear hb2 ho cBX1
    go_wp2_with fail
    refine (HSP.out _ _ _ _ Ot2.out.rd).mono ?_
    rintro e w3 ⟨Aw, nw, cw, rfl, ho, hb3⟩
    have b3 : Below wb.heap.size wb w3 := b2.trans (hb3.mono b2.size)
    have s3 := hb3.size
    have Ot3 := Lib.hid (Ot2.out.below hb3)
    have Ow3 := Lib.hid (OwnIn.new ho)
    have cBX3 := (BX.out.below b3).cell
    clear hb3 Ot2 ho cBX2
    go_wp2_with fail
    refine (toInt64S_any A n cp xs _ (HX.out.below b3) hn).mono ?_
    rintro e w4 ⟨gx, rfl, ho, hb4⟩
    have b4 : Below wb.heap.size wb w4 := b3.trans (hb4.mono b3.size)
    have s4 := hb4.size
    have Ot4 := Lib.hid (Ot3.out.below hb4)
    have Ow4 := Lib.hid (Ow3.out.below hb4)
    have Ox4 := Lib.hid (OwnIn.new ho)
    have cBX4 := (BX.out.below b4).cell
    clear hb4 Ot3 Ow3 ho cBX3
    go_wp2_with fail
    refine (toLeather_any _ _ _ _ _).mono ?_
    rintro e w5 ⟨rfl, hb5⟩
    have b5 : Below wb.heap.size wb w5 := b4.trans (hb5.mono b4.size)
    have s5 := hb5.size
    have Ot5 := Lib.hid (Ot4.out.below hb5)
    have Ow5 := Lib.hid (Ow4.out.below hb5)
    have Ox5 := Lib.hid (Ox4.out.below hb5)
    have cBX5 := (BX.out.below b5).cell
    clear hb5 Ot4 Ow4 Ox4 cBX4
    go_wp2_with fail
    refine (HIM.out _ _ _ _ Ox5.out.rd).mono ?_
    rintro e w6 ⟨Ag, ng, cg, rfl, ho, hb6⟩
    have b6 : Below wb.heap.size wb w6 := b5.trans (hb6.mono b5.size)
    have s6 := hb6.size
    have Ot6 := Lib.hid (Ot5.out.below hb6)
    have Ow6 := Lib.hid (Ow5.out.below hb6)
    have Ox6 := Lib.hid (Ox5.out.below hb6)
    have Og6 := Lib.hid (OwnIn.new ho)
    have cBX6 := (BX.out.below b6).cell
    clear hb6 Ot5 Ow5 Ox5 ho cBX5
    have lg := Og6.out.ilen
    have lw := Ow6.out.ilen
    have lx := Ox6.out.ilen
    have HLX := Lib.hid lx
    have HLG := Lib.hid lg
    have HLW := Lib.hid lw
    have hng : ng ≤ n := by omega
    clear lx lg lw
    go_wp2_with fail
    refine (eqInt64S_any _ _ _ R _ _ _ R _ Og6.out.rd Ow6.out.rd).mono ?_
    rw [eqL_self]
    rintro e w7 ⟨rfl, hb7⟩
    have b7 : Below wb.heap.size wb w7 := b6.trans (hb7.mono b6.size)
    have s7 := hb7.size
    have Ot7 := Lib.hid (Ot6.out.below hb7)
    have Ow7 := Lib.hid (Ow6.out.below hb7)
    have Ox7 := Lib.hid (Ox6.out.below hb7)
    have Og7 := Lib.hid (Og6.out.below hb7)
    have cBX7 := (BX.out.below b7).cell
    clear hb7 Ot6 Ow6 Ox6 Og6 cBX6
    go_wp2_with fail
    refine (toInt64S_any A n cp xs _ (HX.out.below b7) hn).mono ?_
    rintro e w8 ⟨gy, rfl, ho, hb8⟩
    have b8 : Below wb.heap.size wb w8 := b7.trans (hb8.mono b7.size)
    have s8 := hb8.size
    have Ot8 := Lib.hid (Ot7.out.below hb8)
    have Ow8 := Lib.hid (Ow7.out.below hb8)
    have Ox8 := Lib.hid (Ox7.out.below hb8)
    have Og8 := Lib.hid (Og7.out.below hb8)
    have Oy8 := Lib.hid (OwnIn.new ho)
    have cBX8 := (BX.out.below b8).cell
    clear hb8 Ot7 Ow7 Ox7 Og7 ho cBX7
    go_wp2_with fail
    refine (eqInt64S_any _ _ _ xs _ _ _ xs _ Ox8.out.rd Oy8.out.rd).mono ?_
    rw [eqL_self]
    rintro e w9 ⟨rfl, hb9⟩
    have b9 : Below wb.heap.size wb w9 := b8.trans (hb9.mono b8.size)
    have s9 := hb9.size
    have Ot9 := Lib.hid (Ot8.out.below hb9)
    have Ow9 := Lib.hid (Ow8.out.below hb9)
    have Ox9 := Lib.hid (Ox8.out.below hb9)
    have Og9 := Lib.hid (Og8.out.below hb9)
    have Oy9 := Lib.hid (Oy8.out.below hb9)
    have cBX9 := (BX.out.below b9).cell
    clear hb9 Ot8 Ow8 Ox8 Og8 Oy8 cBX8
    go_wp2_with fail
    refine (markInt64S_any _ _ _ _ xs 1 _ Ox9.out.own (by omega) (by omega)).mono ?_
    rintro e w10 ⟨rfl, ho, hg⟩
    have b10 : Below wb.heap.size wb w10 := Ox9.out.base b9 hg (by omega) (Nat.le_refl _)
    have s10 := hg.size
    have Ot10 := Lib.hid (Ot9.out.other Ox9.out hg (by omega))
    have Ow10 := Lib.hid (Ow9.out.other Ox9.out hg (by omega))
    have Ox10 := Lib.hid (Ox9.out.self ho hg)
    have Og10 := Lib.hid (Og9.out.other Ox9.out hg (by omega))
    have Oy10 := Lib.hid (Oy9.out.other Ox9.out hg (by omega))
    have cBX10 := (BX.out.below b10).cell
    clear ho hg Ot9 Ow9 Ox9 Og9 Oy9 cBX9
    go_wp2_with fail
    refine (eqInt64S_any _ _ _ R _ _ _ R _ Og10.out.rd Ow10.out.rd).mono ?_
    rw [eqL_self]
    rintro e w11 ⟨rfl, hb11⟩
    have b11 : Below wb.heap.size wb w11 := b10.trans (hb11.mono b10.size)
    have s11 := hb11.size
    have Ot11 := Lib.hid (Ot10.out.below hb11)
    have Ow11 := Lib.hid (Ow10.out.below hb11)
    have Ox11 := Lib.hid (Ox10.out.below hb11)
    have Og11 := Lib.hid (Og10.out.below hb11)
    have Oy11 := Lib.hid (Oy10.out.below hb11)
    have cBX11 := (BX.out.below b11).cell
    clear hb11 Ot10 Ow10 Ox10 Og10 Oy10 cBX10
    go_wp2_with fail
    refine (markInt64S_any _ _ _ _ R 1 _ Og11.out.own (by omega) (by omega)).mono ?_
    rintro e w12 ⟨rfl, ho, hg⟩
    have b12 : Below wb.heap.size wb w12 := Og11.out.base b11 hg (by omega) (Nat.le_refl _)
    have s12 := hg.size
    have Ot12 := Lib.hid (Ot11.out.other Og11.out hg (by omega))
    have Ow12 := Lib.hid (Ow11.out.other Og11.out hg (by omega))
    have Ox12 := Lib.hid (Ox11.out.other Og11.out hg (by omega))
    have Og12 := Lib.hid (Og11.out.self ho hg)
    have Oy12 := Lib.hid (Oy11.out.other Og11.out hg (by omega))
    have cBX12 := (BX.out.below b12).cell
    clear ho hg Ot11 Ow11 Ox11 Og11 Oy11 cBX11
    go_wp2_with fail
    refine (heldInt64S_any _ _ _ 1 _ Og12.out.rd (by omega) (by omega)).mono ?_
    rintro e wz ⟨rfl, rfl⟩
    go_wp2_with fail
    refine (toLeather_any _ _ _ _ _).mono ?_
    rintro e w13 ⟨rfl, hb13⟩
    have b13 : Below wb.heap.size wb w13 := b12.trans (hb13.mono b12.size)
    have s13 := hb13.size
    have Ot13 := Lib.hid (Ot12.out.below hb13)
    have Ow13 := Lib.hid (Ow12.out.below hb13)
    have Ox13 := Lib.hid (Ox12.out.below hb13)
    have Og13 := Lib.hid (Og12.out.below hb13)
    have Oy13 := Lib.hid (Oy12.out.below hb13)
    have cBX13 := (BX.out.below b13).cell
    clear hb13 Ot12 Ow12 Ox12 Og12 Oy12 cBX12
    go_wp2_with fail
    refine (toInt64S_any A n cp xs _ (HX.out.below b13) hn).mono ?_
    rintro e w14 ⟨gz, rfl, ho, hb14⟩
    have b14 : Below wb.heap.size wb w14 := b13.trans (hb14.mono b13.size)
    have s14 := hb14.size
    have Ot14 := Lib.hid (Ot13.out.below hb14)
    have Ow14 := Lib.hid (Ow13.out.below hb14)
    have Ox14 := Lib.hid (Ox13.out.below hb14)
    have Og14 := Lib.hid (Og13.out.below hb14)
    have Oy14 := Lib.hid (Oy13.out.below hb14)
    have Oz14 := Lib.hid (OwnIn.new ho)
    have cBX14 := (BX.out.below b14).cell
    clear hb14 Ot13 Ow13 Ox13 Og13 Oy13 ho cBX13
    go_wp2_with fail
    refine (HIM.out _ _ _ _ Oz14.out.rd).mono ?_
    rintro e w15 ⟨Ah, nh, ch, rfl, ho, hb15⟩
    have b15 : Below wb.heap.size wb w15 := b14.trans (hb15.mono b14.size)
    have s15 := hb15.size
    have Ot15 := Lib.hid (Ot14.out.below hb15)
    have Ow15 := Lib.hid (Ow14.out.below hb15)
    have Ox15 := Lib.hid (Ox14.out.below hb15)
    have Og15 := Lib.hid (Og14.out.below hb15)
    have Oy15 := Lib.hid (Oy14.out.below hb15)
    have Oz15 := Lib.hid (Oz14.out.below hb15)
    have Oh15 := Lib.hid (OwnIn.new ho)
    have cBX15 := (BX.out.below b15).cell
    clear hb15 Ot14 Ow14 Ox14 Og14 Oy14 Oz14 ho cBX14
    go_wp2_with fail
    refine (eqInt64S_any _ _ _ R _ _ _ R _ Oh15.out.rd Ow15.out.rd).mono ?_
    rw [eqL_self]
    rintro e w16 ⟨rfl, hb16⟩
    have b16 : Below wb.heap.size wb w16 := b15.trans (hb16.mono b15.size)
    have s16 := hb16.size
    have Ot16 := Lib.hid (Ot15.out.below hb16)
    have Ow16 := Lib.hid (Ow15.out.below hb16)
    have Ox16 := Lib.hid (Ox15.out.below hb16)
    have Og16 := Lib.hid (Og15.out.below hb16)
    have Oy16 := Lib.hid (Oy15.out.below hb16)
    have Oz16 := Lib.hid (Oz15.out.below hb16)
    have Oh16 := Lib.hid (Oh15.out.below hb16)
    have cBX16 := (BX.out.below b16).cell
    clear hb16 Ot15 Ow15 Ox15 Og15 Oy15 Oz15 Oh15 cBX15
    go_wp2_with fail
    refine (heldInt64S_any _ _ _ 1 _ Og16.out.rd (by omega) (by omega)).mono ?_
    rintro e wz ⟨rfl, rfl⟩
    go_wp2_with fail
    go_ret
    exact ⟨rfl, HBW.out.trans (b16.mono HBW.out.size)⟩
  · go_enter Try.func16, Try.ntmps16
    go_wp2
    go_ret
    exact ⟨rfl, hb0⟩
end Go.Proofs.Ytdkklkpegnblnaa
