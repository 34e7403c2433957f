/- PlacesOf: program, reference, law. Printed by mkpo.py. -/
import Derived.Test.YtiibhejjeijdaaaDoorPc
import Derived.Deep.CutRange
namespace Go.Proofs.YtiibhejjeijdaaaDoor
open Go.RowKit

noncomputable def plZ (rs : List ByteArray) (x : CutV) : List Int × Int := if hidB rs = true then (if cutB x = true then (plL rs rs.length (colN rs) x.ht.toNat x.wd.toNat x.ql, 0) else ([], 1)) else ([], 1)
theorem plZ_len (rs : List ByteArray) (x : CutV) : (plZ rs x).1.length ≤ 1048576 := by
  unfold plZ
  split
  · rename_i hq
    have hg := (hidB_true hq).grid rfl
    split
    · show (plL _ _ _ _ _ _).length ≤ _
      unfold plL
      have h1 := fil_len (fun f => fitB rs rs.length (colN rs) x.ht.toNat x.wd.toNat x.ql f) (rs.length * colN rs)
      have h2 := prod36 hg.bn.2 hg.bm.2
      omega
    · simp
  · simp
theorem cut_cells {w : World} {g : Nat} {a b c d : Int} (h : Box w g #[.int .i64 a, .int .i64 b, .int .i64 c, .int .i64 d]) : w.cell? ⟨g, 0, none⟩ = some (.int .i64 a) ∧ w.cell? ⟨g, 1, none⟩ = some (.int .i64 b) ∧ w.cell? ⟨g, 2, none⟩ = some (.int .i64 c) ∧ w.cell? ⟨g, 3, none⟩ = some (.int .i64 d) := by
  have h0 := h.cell 0
  have h1 := h.cell 1
  have h2 := h.cell 2
  have h3 := h.cell 3
  simp at h0 h1 h2 h3
  exact ⟨h0, h1, h2, h3⟩
theorem keep4 {V W w' : World} {g : Nat} {x0 x1 x2 x3 : Value} (e : W.cell? ⟨g, 0, none⟩ = some x0 ∧ W.cell? ⟨g, 1, none⟩ = some x1 ∧ W.cell? ⟨g, 2, none⟩ = some x2 ∧ W.cell? ⟨g, 3, none⟩ = some x3 ∧ Below V.heap.size V W) (hb : Below W.heap.size W w') :
    w'.cell? ⟨g, 0, none⟩ = some x0 ∧ w'.cell? ⟨g, 1, none⟩ = some x1 ∧ w'.cell? ⟨g, 2, none⟩ = some x2 ∧ w'.cell? ⟨g, 3, none⟩ = some x3 ∧ Below V.heap.size V w' := by
  obtain ⟨e0, e1, e2, e3, eb⟩ := e
  exact ⟨cell_belT e0 hb, cell_belT e1 hb, cell_belT e2 hb, cell_belT e3 hb, eb.trans (hb.mono eb.size)⟩

set_option maxRecDepth 100000 in
set_option maxHeartbeats 4000000 in
theorem implPlacesOf_any (A : Option Addr) (n c : Nat) (rs : List ByteArray) (x : CutV) (w : World) (h : Rd w 1 A n c (txs rs)) (hs : ∀ s ∈ rs, s.size ≤ 9223372036854775807) :
    Calls Tryd.prog 21 #[.slice A n c, .agg #[.int .i64 x.wd, .int .i64 x.ht, .int .i64 x.ql, .int .i64 x.wo]] w (IntPost w (plZ rs x).1 (plZ rs x).2) := by
  have hl := h.tlen
  have hb0 : Below w.heap.size w (w.alloc (.cells #[.int .i64 x.wd, .int .i64 x.ht, .int .i64 x.ql, .int .i64 x.wo] 35)) := (Below.refl _ _).alloc (Nat.le_refl _) _
  have HX := Lib.hid (Box.new w #[.int .i64 x.wd, .int .i64 x.ht, .int .i64 x.ql, .int .i64 x.wo] 35)
  have hcall := implValidHide_any A n c rs _ (h.below hb0) hs
  have HB0 := Lib.hid hb0
  unfold plZ
  cases hq : hidB rs with
  | false =>
    rw [if_neg (by simp)]
    rw [hq] at hcall
    have HC := Lib.hid hcall
    clear hcall h hs hl hq hb0 HX
    go_enter Tryd.func21, Tryd.ntmps21
    go_wp2_with fail
    refine (HC.out).mono ?_
    rintro e w1 ⟨rfl, hb1⟩
    have Hb1 := Lib.hid (HB0.out.trans (hb1.mono HB0.out.size))
    clear hb1
    go_wp2
    go_ret2
    exact intPost_nil Hb1.out
  | true =>
    rw [if_pos rfl]
    rw [hq] at hcall
    have hvc := fun W => validCut_any x W
    cases hz : cutB x with
    | false =>
      rw [if_neg (by simp)]
      rw [hz] at hvc
      have HC := Lib.hid hcall
      have HV := Lib.hid hvc
      clear hcall h hs hl hq hb0 hvc hz
      go_enter Tryd.func21, Tryd.ntmps21
      go_wp2_with fail
      refine (HC.out).mono ?_
      rintro e w1 ⟨rfl, hb1⟩
      have Hb1 := Lib.hid (HB0.out.trans (hb1.mono HB0.out.size))
      obtain ⟨k0, k1, k2, k3⟩ := cut_cells (HX.out.below hb1)
      clear hb1
      go_wp2_with fail
      refine (HV.out _).mono ?_
      rintro e w2 ⟨rfl, hb2⟩
      have Hb2 := Lib.hid (Hb1.out.trans (hb2.mono Hb1.out.size))
      clear hb2
      go_wp2
      go_ret2
      exact intPost_nil Hb2.out
    | true =>
      rw [if_pos rfl]
      rw [hz] at hvc
      have hct := cutB_true hz
      have hg := (hidB_true hq).grid hl
      rw [hl]
      obtain ⟨a, b, d, e0⟩ := x
      simp only at *
      obtain ⟨W, rfl⟩ := Int.eq_ofNat_of_zero_le (show 0 ≤ a by omega)
      obtain ⟨H, rfl⟩ := Int.eq_ofNat_of_zero_le (show 0 ≤ b by omega)
      simp only [Int.toNat_natCast]
      have hpl := fun (W0 : World) (hh : Rd W0 1 A n c (txs rs)) => placesOf_any A n c (colN rs) W H d e0 rs W0 hh hg (by omega) (by omega)
      generalize plL rs n (colN rs) H W d = R at *
      have HC := Lib.hid hcall
      have HV := Lib.hid hvc
      have HP := Lib.hid hpl
      have HH := Lib.hid h
      clear hcall h hs hl hq hb0 hvc hz hg hpl
      go_enter Tryd.func21, Tryd.ntmps21
      go_wp2_with fail
      refine (HC.out).mono ?_
      rintro e w1 ⟨rfl, hb1⟩
      have Hb1 := Lib.hid (HB0.out.trans (hb1.mono HB0.out.size))
      have HX1 := Lib.hid (HX.out.below hb1)
      obtain ⟨k0, k1, k2, k3⟩ := cut_cells HX1.out
      clear hb1
      go_wp2_with fail
      refine (HV.out _).mono ?_
      rintro e w2 ⟨rfl, hb2⟩
      have Hb2 := Lib.hid (Hb1.out.trans (hb2.mono Hb1.out.size))
      obtain ⟨j0, j1, j2, j3⟩ := cut_cells (HX1.out.below hb2)
      clear hb2 k0 k1 k2 k3
      go_wp2_with fail
      refine (HP.out _ (HH.out.below Hb2.out)).mono ?_
      rintro e w3 ⟨g, c3, _, rfl, ho, hb3⟩
      have HO := Lib.hid (own_base ho Hb2.out.size)
      have Hb3 := Lib.hid (Hb2.out.trans (hb3.mono Hb2.out.size))
      clear ho hb3
      go_wp2
      go_ret2
      exact ⟨_, _, _, rfl, HO.out, Hb3.out⟩

set_option maxRecDepth 100000 in
set_option maxHeartbeats 4000000 in
theorem specPlacesOf_any (A : Option Addr) (n c : Nat) (rs : List ByteArray) (x : CutV) (w : World) (h : Rd w 1 A n c (txs rs)) (hs : ∀ s ∈ rs, s.size ≤ 9223372036854775807) :
    Calls Tryd.prog 27 #[.slice A n c, .agg #[.int .i64 x.wd, .int .i64 x.ht, .int .i64 x.ql, .int .i64 x.wo]] w (IntPost w (plZ rs x).1 (plZ rs x).2) := by
  have hl := h.tlen
  have hb0 : Below w.heap.size w (w.alloc (.cells #[.int .i64 x.wd, .int .i64 x.ht, .int .i64 x.ql, .int .i64 x.wo] 35)) := (Below.refl _ _).alloc (Nat.le_refl _) _
  have HX := Lib.hid (Box.new w #[.int .i64 x.wd, .int .i64 x.ht, .int .i64 x.ql, .int .i64 x.wo] 35)
  have hcall := l10Ok_any A n c rs _ (h.below hb0) hs
  have HB0 := Lib.hid hb0
  unfold plZ
  cases hq : hidB rs with
  | false =>
    rw [if_neg (by simp)]
    rw [hq] at hcall
    have HC := Lib.hid hcall
    clear hcall h hs hl hq hb0 HX
    go_enter Tryd.func27, Tryd.ntmps27
    go_wp2_with fail
    refine (HC.out).mono ?_
    rintro e w1 ⟨rfl, hb1⟩
    have Hb1 := Lib.hid (HB0.out.trans (hb1.mono HB0.out.size))
    clear hb1
    go_wp2
    go_ret2
    exact intPost_nil Hb1.out
  | true =>
    rw [if_pos rfl]
    rw [hq] at hcall
    have hvc := fun W => l10One_any x W
    cases hz : cutB x with
    | false =>
      rw [if_neg (by simp)]
      rw [hz] at hvc
      have HC := Lib.hid hcall
      have HV := Lib.hid hvc
      clear hcall h hs hl hq hb0 hvc hz
      go_enter Tryd.func27, Tryd.ntmps27
      go_wp2_with fail
      refine (HC.out).mono ?_
      rintro e w1 ⟨rfl, hb1⟩
      have Hb1 := Lib.hid (HB0.out.trans (hb1.mono HB0.out.size))
      obtain ⟨k0, k1, k2, k3⟩ := cut_cells (HX.out.below hb1)
      clear hb1
      go_wp2_with fail
      refine (HV.out _).mono ?_
      rintro e w2 ⟨rfl, hb2⟩
      have Hb2 := Lib.hid (Hb1.out.trans (hb2.mono Hb1.out.size))
      clear hb2
      go_wp2
      go_ret2
      exact intPost_nil Hb2.out
    | true =>
      rw [if_pos rfl]
      rw [hz] at hvc
      have hct := cutB_true hz
      have hg := (hidB_true hq).grid hl
      rw [hl]
      obtain ⟨a, b, d, e0⟩ := x
      simp only at *
      obtain ⟨W, rfl⟩ := Int.eq_ofNat_of_zero_le (show 0 ≤ a by omega)
      obtain ⟨H, rfl⟩ := Int.eq_ofNat_of_zero_le (show 0 ≤ b by omega)
      simp only [Int.toNat_natCast]
      have hpl := fun (W0 : World) (hh : Rd W0 1 A n c (txs rs)) => l10Places_any A n c (colN rs) W H d e0 rs W0 hh hg (by omega) (by omega)
      generalize plL rs n (colN rs) H W d = R at *
      have HC := Lib.hid hcall
      have HV := Lib.hid hvc
      have HP := Lib.hid hpl
      have HH := Lib.hid h
      clear hcall h hs hl hq hb0 hvc hz hg hpl
      go_enter Tryd.func27, Tryd.ntmps27
      go_wp2_with fail
      refine (HC.out).mono ?_
      rintro e w1 ⟨rfl, hb1⟩
      have Hb1 := Lib.hid (HB0.out.trans (hb1.mono HB0.out.size))
      have HX1 := Lib.hid (HX.out.below hb1)
      obtain ⟨k0, k1, k2, k3⟩ := cut_cells HX1.out
      clear hb1
      go_wp2_with fail
      refine (HV.out _).mono ?_
      rintro e w2 ⟨rfl, hb2⟩
      have Hb2 := Lib.hid (Hb1.out.trans (hb2.mono Hb1.out.size))
      obtain ⟨j0, j1, j2, j3⟩ := cut_cells (HX1.out.below hb2)
      clear hb2 k0 k1 k2 k3
      go_wp2_with fail
      refine (HP.out _ (HH.out.below Hb2.out)).mono ?_
      rintro e w3 ⟨g, c3, _, rfl, ho, hb3⟩
      have HO := Lib.hid (own_base ho Hb2.out.size)
      have Hb3 := Lib.hid (Hb2.out.trans (hb3.mono Hb2.out.size))
      clear ho hb3
      go_wp2
      go_ret2
      exact ⟨_, _, _, rfl, HO.out, Hb3.out⟩

set_option maxRecDepth 100000 in
set_option maxHeartbeats 8000000 in
theorem law_PlacesOf (A : Option Addr) (n c : Nat) (rs : List ByteArray) (a b d e0 : Int) (w : World) (hA : Rd w 1 A n c (txs rs)) (hsA : ∀ s ∈ rs, s.size ≤ 9223372036854775807) :
    Calls Tryd.prog 6 #[.slice A n c, .agg #[.int .i64 a, .int .i64 b, .int .i64 d, .int .i64 e0]] w fun e w' => e = .returned (.bool true) ∧ Below w.heap.size w w' := by
  have eA1 := hA.cap
  have eA2 := hA.max
  have lA := hA.tlen
  have hsp := fun A n c W h => specPlacesOf_any A n c rs ⟨a, b, d, e0⟩ W h hsA
  have him := fun A n c W h => implPlacesOf_any A n c rs ⟨a, b, d, e0⟩ W h hsA
  have hlen := plZ_len rs ⟨a, b, d, e0⟩
  generalize (plZ rs ⟨a, b, d, e0⟩).1 = R at *
  generalize (plZ rs ⟨a, b, d, e0⟩).2 = z at *
  obtain ⟨v, hv⟩ : ∃ v, v = w.alloc (.cells #[.int .i64 a, .int .i64 b, .int .i64 d, .int .i64 e0] 45) := ⟨_, rfl⟩
  have bv : Below w.heap.size w v := by rw [hv]; exact (Below.refl _ _).alloc (Nat.le_refl _) _
  have HX : Hid (Box v w.heap.size #[.int .i64 a, .int .i64 b, .int .i64 d, .int .i64 e0]) := Lib.hid (by rw [hv]; exact Box.new w _ _)
  have hA := hA.below bv
  have HA := Lib.hid hA
  have HSA := Lib.hid hsA
  have HSP := Lib.hid hsp
  have HIM := Lib.hid him
  clear hA hsA hsp him lA
  have b0 : Below v.heap.size v v := Below.refl _ _
  have s0 := b0.size
  go_enter Tryd.func6, Tryd.ntmps6
  go_wp2_with fail
  rw [← hv]
  clear hv
  refine (szStringS_any A n c rs _ _ HA.out HSA.out (by omega) (by omega)).mono ?_
  rintro e wz ⟨⟨q0, rfl, hq0⟩, rfl⟩
  rcases hq0 with rfl | ⟨hq00, hq01, hnA, hszA⟩
  · go_wp2
    go_ret
    exact ⟨rfl, bv⟩
  have hqn0 : ¬ q0 < 0 := by omega
  have HTO := Lib.hid (fun W hb => toStringS_any A n c rs W (HA.out.below hb) (by omega))
  clear hszA
  go_upto_region 5 with fail
  go_cut [6, 7] from 21 to 28 (fun va vb wx => ∃ Aw nw cw, va = .slice Aw nw cw ∧ vb = .int .i64 z ∧ Hid (OwnIn wx v.heap.size wx.heap.size 2 1 Aw nw cw (ints R)) ∧ Hid (Below v.heap.size v wx))
  case first =>
    obtain ⟨k0, k1, k2, k3⟩ := cut_cells (HX.out.below b0)
    go_region_held3 (fun w' => w'.cell? ⟨w.heap.size, 0, none⟩ = some (.int .i64 a) ∧ w'.cell? ⟨w.heap.size, 1, none⟩ = some (.int .i64 b) ∧ w'.cell? ⟨w.heap.size, 2, none⟩ = some (.int .i64 d) ∧ w'.cell? ⟨w.heap.size, 3, none⟩ = some (.int .i64 e0) ∧ Below v.heap.size v w')
      (first | exact ⟨k0, k1, k2, k3, (Below.refl _ _).drew⟩ | exact keep4 (‹_ ∧ _ ∧ _ ∧ _ ∧ Below v.heap.size v _›) hbt | exact keep4 (‹_ ∧ _ ∧ _ ∧ _ ∧ Below v.heap.size v _›) hbc | exact keep4 (‹_ ∧ _ ∧ _ ∧ _ ∧ Below v.heap.size v _›) hbq | go_keep)
      (first
        | (go_at_call 13; refine (HTO.out _ (b0.trans (Below.mono (‹_ ∧ _ ∧ _ ∧ _ ∧ Below v.heap.size v _›).2.2.2.2 b0.size))).mono ?_; rintro e wt ⟨gt, rfl, hot, hbt⟩)
        | (go_at_call 28; refine (toCut_any _ _ _ _ _).mono ?_; rintro e wc ⟨rfl, hbc⟩)
        | (go_at_call 27; have hoo := own_below hot hbc; refine (HSP.out _ _ _ _ (Rd.of_own hoo)).mono ?_; rintro e wq ⟨Aq, nq, cq, rfl, hoq, hbq⟩)
        | (go_at_call 27; refine (HSP.out _ _ _ _ (Rd.of_own hot)).mono ?_; rintro e wq ⟨Aq, nq, cq, rfl, hoq, hbq⟩))
    all_goals
      have hbb := (‹_ ∧ _ ∧ _ ∧ _ ∧ Below v.heap.size v _›).2.2.2.2
      have hz1 := hbt.size
      have hz2 := hbc.size
      simp at hz1 hz2
      go_wp2_with fail
      go_meet
      exact ⟨_, _, _, rfl, rfl, Lib.hid (OwnIn.new (W := v) (own_base hoq (by omega))), Lib.hid hbb⟩
  case rest =>
  obtain ⟨Aw, nw, cw, rfl, rfl, ho, hb⟩ := hcut
  obtain ⟨w1, rfl⟩ : ∃ w', w' = wc := ⟨_, rfl⟩
  have b1 : Below v.heap.size v w1 := b0.trans (hb.out.mono b0.size)
  have s1 := hb.out.size
  have Ow1 := ho
  clear ho hb 
  go_wp2_with fail
  refine (toStringS_any A n c rs _ (HA.out.below b1) (by omega)).mono ?_
  rintro e w2 ⟨gx0, rfl, ho, hb2⟩
  have b2 : Below v.heap.size v w2 := b1.trans (hb2.mono b1.size)
  have s2 := hb2.size
  have Ow2 := Lib.hid (Ow1.out.below hb2)
  have Ox02 := Lib.hid (OwnIn.new ho)
  clear hb2 Ow1 ho
  obtain ⟨k0, k1, k2, k3⟩ := cut_cells (HX.out.below b2)
  go_wp2_with fail
  refine (toCut_any _ _ _ _ _).mono ?_
  rintro e w3 ⟨rfl, hb3⟩
  have b3 : Below v.heap.size v w3 := b2.trans (hb3.mono b2.size)
  have s3 := hb3.size
  have Ow3 := Lib.hid (Ow2.out.below hb3)
  have Ox03 := Lib.hid (Ox02.out.below hb3)
  clear hb3 Ow2 Ox02
  clear k0 k1 k2 k3
  go_wp2_with fail
  refine (HIM.out _ _ _ _ Ox03.out.rd).mono ?_
  rintro e w4 ⟨Ag, ng, cg, rfl, ho, hb4⟩
  have b4 : Below v.heap.size v w4 := b3.trans (hb4.mono b3.size)
  have s4 := hb4.size
  have Ow4 := Lib.hid (Ow3.out.below hb4)
  have Ox04 := Lib.hid (Ox03.out.below hb4)
  have Og4 := Lib.hid (OwnIn.new ho)
  clear hb4 Ow3 Ox03 ho
  have lg := Og4.out.ilen
  go_wp2_with fail
  refine (eqInt64S_any _ _ _ R _ _ _ R _ Og4.out.rd Ow4.out.rd).mono ?_
  rw [eqL_self]
  rintro e w5 ⟨rfl, hb5⟩
  have b5 : Below v.heap.size v w5 := b4.trans (hb5.mono b4.size)
  have s5 := hb5.size
  have Ow5 := Lib.hid (Ow4.out.below hb5)
  have Ox05 := Lib.hid (Ox04.out.below hb5)
  have Og5 := Lib.hid (Og4.out.below hb5)
  clear hb5 Ow4 Ox04 Og4
  go_wp2_with fail
  refine (toStringS_any A n c rs _ (HA.out.below b5) (by omega)).mono ?_
  rintro e w6 ⟨gy0, rfl, ho, hb6⟩
  have b6 : Below v.heap.size v w6 := b5.trans (hb6.mono b5.size)
  have s6 := hb6.size
  have Ow6 := Lib.hid (Ow5.out.below hb6)
  have Ox06 := Lib.hid (Ox05.out.below hb6)
  have Og6 := Lib.hid (Og5.out.below hb6)
  have Oy06 := Lib.hid (OwnIn.new ho)
  clear hb6 Ow5 Ox05 Og5 ho
  go_wp2_with fail
  refine (eqStringS_any _ _ _ _ _ _ rs _ Ox06.out.rd Oy06.out.rd).mono ?_
  rintro e w7 ⟨rfl, hb7⟩
  have b7 : Below v.heap.size v w7 := b6.trans (hb7.mono b6.size)
  have s7 := hb7.size
  have Ow7 := Lib.hid (Ow6.out.below hb7)
  have Ox07 := Lib.hid (Ox06.out.below hb7)
  have Og7 := Lib.hid (Og6.out.below hb7)
  have Oy07 := Lib.hid (Oy06.out.below hb7)
  clear hb7 Ow6 Ox06 Og6 Oy06
  go_wp2_with fail
  refine (markStringS_any _ _ _ _ rs 1 _ Ox07.out.own (by omega) (by omega)).mono ?_
  rintro e w8 ⟨rfl, ho, hg⟩
  have b8 : Below v.heap.size v w8 := Ox07.out.base b7 hg (by omega) (Nat.le_refl _)
  have s8 := hg.size
  have Ow8 := Lib.hid (Ow7.out.other Ox07.out hg (by omega))
  have Ox08 := Lib.hid (Ox07.out.self ho hg)
  have Og8 := Lib.hid (Og7.out.other Ox07.out hg (by omega))
  have Oy08 := Lib.hid (Oy07.out.other Ox07.out hg (by omega))
  clear ho hg Ow7 Ox07 Og7 Oy07
  go_wp2_with fail
  refine (eqInt64S_any _ _ _ R _ _ _ R _ Og8.out.rd Ow8.out.rd).mono ?_
  rw [eqL_self]
  rintro e w9 ⟨rfl, hb9⟩
  have b9 : Below v.heap.size v w9 := b8.trans (hb9.mono b8.size)
  have s9 := hb9.size
  have Ow9 := Lib.hid (Ow8.out.below hb9)
  have Ox09 := Lib.hid (Ox08.out.below hb9)
  have Og9 := Lib.hid (Og8.out.below hb9)
  have Oy09 := Lib.hid (Oy08.out.below hb9)
  clear hb9 Ow8 Ox08 Og8 Oy08
  go_wp2_with fail
  refine (markInt64S_any _ _ _ _ R 1 _ Og9.out.own (by omega) (by omega)).mono ?_
  rintro e w10 ⟨rfl, ho, hg⟩
  have b10 : Below v.heap.size v w10 := Og9.out.base b9 hg (by omega) (Nat.le_refl _)
  have s10 := hg.size
  have Ow10 := Lib.hid (Ow9.out.other Og9.out hg (by omega))
  have Ox010 := Lib.hid (Ox09.out.other Og9.out hg (by omega))
  have Og10 := Lib.hid (Og9.out.self ho hg)
  have Oy010 := Lib.hid (Oy09.out.other Og9.out hg (by omega))
  clear ho hg Ow9 Ox09 Og9 Oy09
  go_wp2_with fail
  refine (heldInt64S_any _ _ _ 1 _ Og10.out.rd (by omega) (by omega)).mono ?_
  rintro e wz ⟨rfl, rfl⟩
  go_upto_region 24 with fail
  go_cut [14, 15] from 79 to 86 (fun va vb wx => ∃ Ah nh ch, va = .slice Ah nh ch ∧ vb = .int .i64 z ∧ Hid (OwnIn wx w10.heap.size wx.heap.size 2 1 Ah nh ch (ints R)) ∧ Hid (Below w10.heap.size w10 wx))
  case first =>
    obtain ⟨k0, k1, k2, k3⟩ := cut_cells (HX.out.below b10)
    go_region_held3 (fun w' => w'.cell? ⟨w.heap.size, 0, none⟩ = some (.int .i64 a) ∧ w'.cell? ⟨w.heap.size, 1, none⟩ = some (.int .i64 b) ∧ w'.cell? ⟨w.heap.size, 2, none⟩ = some (.int .i64 d) ∧ w'.cell? ⟨w.heap.size, 3, none⟩ = some (.int .i64 e0) ∧ Below w10.heap.size w10 w')
      (first | exact ⟨k0, k1, k2, k3, (Below.refl _ _).drew⟩ | exact keep4 (‹_ ∧ _ ∧ _ ∧ _ ∧ Below w10.heap.size w10 _›) hbt | exact keep4 (‹_ ∧ _ ∧ _ ∧ _ ∧ Below w10.heap.size w10 _›) hbc | exact keep4 (‹_ ∧ _ ∧ _ ∧ _ ∧ Below w10.heap.size w10 _›) hbq | go_keep)
      (first
        | (go_at_call 13; refine (HTO.out _ (b10.trans (Below.mono (‹_ ∧ _ ∧ _ ∧ _ ∧ Below w10.heap.size w10 _›).2.2.2.2 b10.size))).mono ?_; rintro e wt ⟨gt, rfl, hot, hbt⟩)
        | (go_at_call 28; refine (toCut_any _ _ _ _ _).mono ?_; rintro e wc ⟨rfl, hbc⟩)
        | (go_at_call 21; have hoo := own_below hot hbc; refine (HIM.out _ _ _ _ (Rd.of_own hoo)).mono ?_; rintro e wq ⟨Aq, nq, cq, rfl, hoq, hbq⟩)
        | (go_at_call 21; refine (HIM.out _ _ _ _ (Rd.of_own hot)).mono ?_; rintro e wq ⟨Aq, nq, cq, rfl, hoq, hbq⟩))
    all_goals
      have hbb := (‹_ ∧ _ ∧ _ ∧ _ ∧ Below w10.heap.size w10 _›).2.2.2.2
      have hz1 := hbt.size
      have hz2 := hbc.size
      simp at hz1 hz2
      go_wp2_with fail
      go_meet
      exact ⟨_, _, _, rfl, rfl, Lib.hid (OwnIn.new (W := w10) (own_base hoq (by omega))), Lib.hid hbb⟩
  case rest =>
  obtain ⟨Ah, nh, ch, rfl, rfl, ho, hb⟩ := hcut
  obtain ⟨w11, rfl⟩ : ∃ w', w' = wc := ⟨_, rfl⟩
  have b11 : Below v.heap.size v w11 := b10.trans (hb.out.mono b10.size)
  have s11 := hb.out.size
  have Ow11 := Lib.hid (Ow10.out.below hb.out)
  have Ox011 := Lib.hid (Ox010.out.below hb.out)
  have Og11 := Lib.hid (Og10.out.below hb.out)
  have Oy011 := Lib.hid (Oy010.out.below hb.out)
  have Oh11 := ho
  clear ho hb Ow10 Ox010 Og10 Oy010
  go_wp2_with fail
  refine (eqInt64S_any _ _ _ R _ _ _ R _ Oh11.out.rd Ow11.out.rd).mono ?_
  rw [eqL_self]
  rintro e w12 ⟨rfl, hb12⟩
  have b12 : Below v.heap.size v w12 := b11.trans (hb12.mono b11.size)
  have s12 := hb12.size
  have Ow12 := Lib.hid (Ow11.out.below hb12)
  have Ox012 := Lib.hid (Ox011.out.below hb12)
  have Og12 := Lib.hid (Og11.out.below hb12)
  have Oy012 := Lib.hid (Oy011.out.below hb12)
  have Oh12 := Lib.hid (Oh11.out.below hb12)
  clear hb12 Ow11 Ox011 Og11 Oy011 Oh11
  go_wp2_with fail
  refine (heldInt64S_any _ _ _ 1 _ Og12.out.rd (by omega) (by omega)).mono ?_
  rintro e wz ⟨rfl, rfl⟩
  go_wp2_with fail
  go_ret
  exact ⟨rfl, bv.trans (b12.mono bv.size)⟩

end Go.Proofs.YtiibhejjeijdaaaDoor
