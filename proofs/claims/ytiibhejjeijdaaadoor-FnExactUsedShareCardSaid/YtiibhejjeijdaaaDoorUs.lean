/- UsedShare: program, reference. Printed by mkus.py. -/
import Derived.Test.YtiibhejjeijdaaaDoorPw
import Derived.Test.YtiibhejjeijdaaaDoorUp
namespace Go.Proofs.YtiibhejjeijdaaaDoor
open Go.RowKit

theorem sumG_bd {rs : List ByteArray} {n m : Nat} (hg : Grid rs n m) : ∀ y, y ≤ n → sumG rs y ≤ 6 * y
  | 0, _ => Nat.zero_le _
  | y + 1, hy => by
    obtain ⟨r, hr⟩ := hg.at (y := y) (by omega)
    have hs := hg.sz y r hr
    have hi := sumG_bd hg y (by omega)
    have hb := hg.bm
    have hl := good_le r r.size
    rw [sumG_step hr]
    omega
noncomputable def usC (rs : List ByteArray) (cs : List CutV) (pl : List Int) : Int := if goodC rs cs pl = 0 then (if sumG rs rs.length = 0 then 3 else 0) else goodC rs cs pl
noncomputable def usN (rs : List ByteArray) (cs : List CutV) (pl : List Int) : Int := if usC rs cs pl = 0 then lowN (usedN cs pl pl.length) (sumG rs rs.length) else 0
noncomputable def usD (rs : List ByteArray) (cs : List CutV) (pl : List Int) : Int := if usC rs cs pl = 0 then lowD (usedN cs pl pl.length) (sumG rs rs.length) else 0
theorem us_n {rs : List ByteArray} {cs : List CutV} {pl : List Int} (h : ¬ goodC rs cs pl = 0) : usC rs cs pl = goodC rs cs pl ∧ usN rs cs pl = 0 ∧ usD rs cs pl = 0 := by
  have hc : usC rs cs pl = goodC rs cs pl := if_neg h
  exact ⟨hc, if_neg (by rw [hc]; exact h), if_neg (by rw [hc]; exact h)⟩
theorem us_3 {rs : List ByteArray} {cs : List CutV} {pl : List Int} (h : goodC rs cs pl = 0) (hg : sumG rs rs.length = 0) : usC rs cs pl = 3 ∧ usN rs cs pl = 0 ∧ usD rs cs pl = 0 := by
  have hc : usC rs cs pl = 3 := by unfold usC; rw [if_pos h, if_pos hg]
  exact ⟨hc, if_neg (by rw [hc]; decide), if_neg (by rw [hc]; decide)⟩
theorem us_0 {rs : List ByteArray} {cs : List CutV} {pl : List Int} (h : goodC rs cs pl = 0) (hg : ¬ sumG rs rs.length = 0) : usC rs cs pl = 0 ∧ usN rs cs pl = lowN (usedN cs pl pl.length) (sumG rs rs.length) ∧ usD rs cs pl = lowD (usedN cs pl pl.length) (sumG rs rs.length) := by
  have hc : usC rs cs pl = 0 := by unfold usC; rw [if_pos h, if_neg hg]
  exact ⟨hc, if_pos hc, if_pos hc⟩
structure RowAt (rs : List ByteArray) (y T : Nat) (r : ByteArray) : Prop where
  bt : T ≤ 100
  bs : r.size ≤ 6
  nx : sumG rs (y + 1) = T + goodN r r.size
  cnt : goodN r r.size + Go.Lib.countByte r.data.toList 120 = r.size
theorem rowAt {rs : List ByteArray} {n m : Nat} (hh : HOk rs) (hg : Grid rs n m) {y T : Nat} {r : ByteArray} (hT : sumG rs y = T) (hr : rs[y]? = some r) : RowAt rs y T r := by
  have hlt := (List.getElem?_eq_some_iff.mp hr).1
  have hl := hg.len
  have hb := sumG_bd hg y (by omega)
  have hs := hg.sz y r hr
  have h1 := hg.bm
  have h2 := hg.bn
  exact ⟨by omega, by omega, by rw [sumG_step hr, hT], row_good (row_at hh hr)⟩
set_option maxRecDepth 100000 in
set_option maxHeartbeats 4000000 in
theorem implUsedShare_any (A B C : Option Addr) (n c p d q f : Nat) (rs : List ByteArray) (cs : List CutV) (pl : List Int) (w : World) (hA : Rd w 1 A n c (txs rs)) (hB : Rd w 4 B p d (qd cs)) (hC : Rd w 1 C q f (ints pl)) (hs : ∀ s ∈ rs, s.size ≤ 9223372036854775807) :
    Calls Tryd.prog 44 #[.slice A n c, .slice B p d, .slice C q f] w fun e w' => e = .returned (.tuple #[.agg #[.int .i64 (usN rs cs pl), .int .i64 (usD rs cs pl)], .int .i64 (usC rs cs pl)]) ∧ Below w.heap.size w w' := by
  obtain ⟨v, hv⟩ : ∃ v, v = w.alloc (.cells #[.int .i64 0, .int .i64 0] 60) := ⟨_, rfl⟩
  have bv : Below w.heap.size w v := by rw [hv]; exact (Below.refl _ _).alloc (Nat.le_refl _) _
  have HX : Hid (Box v w.heap.size #[.int .i64 0, .int .i64 0]) := Lib.hid (by rw [hv]; exact Box.new w _ _)
  have HCO := Lib.hid (soundCode_any A B C n c p d q f rs cs pl v (hA.below bv) (hB.below bv) (hC.below bv) hs)
  rcases Decidable.em (¬ goodC rs cs pl = 0) with h0 | h0
  · obtain ⟨e1, e2, e3⟩ := us_n h0
    rw [e1, e2, e3]
    clear e1 e2 e3
    generalize goodC rs cs pl = k at *
    have hd : (k != 0) = true := by simp; omega
    clear hA hB hC h0
    go_enter Tryd.func44, Tryd.ntmps44
    go_wp2_with fail
    rw [← hv]
    clear hv
    refine (HCO.out).mono ?_
    rintro e w1 ⟨rfl, hb1⟩
    have R1 := HX.out.below hb1
    have b1 := bv.trans (hb1.mono bv.size)
    have z0 := R1.cell 0
    have z1 := R1.cell 1
    have f1 := R1.froz
    simp at z0 z1
    clear hb1
    go_wp2_with fail
    refine bodyPost_ret (v := .tuple #[.agg #[.int .i64 0, .int .i64 0], .int .i64 k]) (by simp [results, Tryd.results44, go_sem, z0, z1]) rfl ⟨rfl, ?_⟩
    exact (b1.setCell (p := ⟨w.heap.size, 0, none⟩) (Nat.le_refl _) _).setCell (p := ⟨w.heap.size, 1, none⟩) (Nat.le_refl _) _
  have h0 : goodC rs cs pl = 0 := Decidable.not_not.mp h0
  have hp := planC_ok (goodC_ok h0)
  have hlc := hC.ilen
  have hl := hA.tlen
  have hg := hp.hide.grid hl
  have h3 := us_3 (rs := rs) (cs := cs) (pl := pl) h0
  have hz := us_0 (rs := rs) (cs := cs) (pl := pl) h0
  rw [h0] at HCO
  have hlb := hB.qlen
  have hqp : q = p := by have := hp.len; omega
  subst hqp
  rw [hl] at h3 hz
  rw [hlc] at hz
  have hbn := hg.bn
  have h4 := hp.cuts.len
  have hq4 : q ≤ 4 := by omega
  have hub := used_bd hp q (by omega)
  have hgb := sumG_bd hg n (Nat.le_refl _)
  have a1 := hA.cap
  have a2 := hA.max
  have a3 := hB.cap
  have a4 := hB.max
  have a5 := hC.cap
  have a6 := hC.max
  have HUS := Lib.hid (fun k S x y hS hx hy => us_at hp (k := k) (S := S) (x := x) (y := y) hS hx hy)
  have HRO := Lib.hid (fun y T r hT hr => rowAt hp.hide hg (y := y) (T := T) (r := r) hT hr)
  obtain ⟨U0, hU0⟩ : ∃ U, usedN cs pl q = U := ⟨_, rfl⟩
  obtain ⟨G0, hG0⟩ : ∃ G, sumG rs n = G := ⟨_, rfl⟩
  rw [hU0] at hz hub
  rw [hG0] at h3 hz hgb
  generalize usC rs cs pl = zc at *
  generalize usN rs cs pl = zn at *
  generalize usD rs cs pl = zd at *
  have HA := Lib.hid (hA.below bv)
  have HB := Lib.hid (hB.below bv)
  have HC := Lib.hid (hC.below bv)
  have H3 := Lib.hid h3
  have HZ := Lib.hid hz
  have HU0 := Lib.hid hU0
  have HG0 := Lib.hid hG0
  clear h0 hl hlb hlc hA hB hC hp hg h3 hz hU0 hG0
  go_enter Tryd.func44, Tryd.ntmps44
  go_wp2_with fail
  rw [← hv]
  clear hv
  refine (HCO.out).mono ?_
  rintro e w1 ⟨rfl, hb1⟩
  have HB1 := Lib.hid hb1
  clear hb1
  go_wp2_with fail
  go_loopw [9, 25] (fun vs vk wr => ∃ (k S : Nat), k ≤ q ∧ vk = .int .i64 k ∧ vs = .int .i64 S ∧ Hid (usedN cs pl k = S) ∧ Hid (Below v.heap.size v wr)) (fun _ vk _ => q - (intOf vk).toNat)
  case atStart => exact ⟨0, 0, Nat.zero_le _, rfl, rfl, Lib.hid rfl, HB1⟩
  case round =>
    clear HB1
    obtain ⟨k, S, hk, rfl, rfl, HE, Hb⟩ := hrel
    by_cases hlt : k < q
    · have hk0 : (0 : Int) ≤ (k : Int) := by omega
      have hk1 : (k : Int) < (q : Int) := by omega
      obtain ⟨b2, o2, x, hBe, _, hx, c0, c1, c2, c3⟩ := (HB.out.below Hb.out).cut hlt
      obtain ⟨b3, o3, y, hCe, _, hyk, y0⟩ := (HC.out.below Hb.out).int hlt
      have hu := HUS.out k S x y HE.out hx hyk
      rw [hu.wd] at c0
      rw [hu.ht] at c1
      have hbs := hu.bs
      have hpr := hu.pr
      have hp36 := hu.p36
      have hon := hu.on
      have hof := hu.off
      clear hu hx hyk c2 c3
      subst hBe
      subst hCe
      generalize wdK cs k = Wk at *
      generalize htK cs k = Hk at *
      generalize Wk * Hk = pk at *
      by_cases hy : 0 ≤ y
      · have HE2 := Lib.hid (hon hy)
        have hd : decide (y ≥ 0) = true := by simp; omega
        clear hon hof
        go_wp2
        go_quiet (fail)
        have hb3 := Lib.hid (below_drewN Hb.out nq)
        generalize wr.drewN nq = w3 at *
        go_wp2
        go_roundw
        case rel => exact ⟨k + 1, S + pk, by omega, by go_num, by go_num, HE2, hb3⟩
        case measure => simp [intOf]; omega
      · have HE2 := Lib.hid (hof hy)
        have hd : decide (y ≥ 0) = false := by simp; omega
        clear hon hof
        go_wp2
        go_roundw
        case rel => exact ⟨k + 1, S, by omega, by go_num, rfl, HE2, Hb⟩
        case measure => simp [intOf]; omega
    have hkq : k = q := by omega
    have hltI : ¬ (k : Int) < (q : Int) := by omega
    have hS : S = U0 := by rw [← HU0.out, ← HE.out, hkq]
    clear hkq HE
    subst hS
    have HB2 := Hb
    clear Hb
    go_wp2
    go_loopw [10, 48] (fun vs vy wr => ∃ (y T : Nat), y ≤ n ∧ vy = .int .i64 y ∧ vs = .int .i64 T ∧ Hid (sumG rs y = T) ∧ Hid (Below v.heap.size v wr)) (fun _ vy _ => n - (intOf vy).toNat)
    case atStart => exact ⟨0, 0, Nat.zero_le _, rfl, rfl, Lib.hid rfl, HB2⟩
    case round =>
      clear HB2
      obtain ⟨y, T, hy, rfl, rfl, HE, Hb⟩ := hrel
      by_cases hly : y < n
      · have hy0 : (0 : Int) ≤ (y : Int) := by omega
        have hy1 : (y : Int) < (n : Int) := by omega
        obtain ⟨b, o, r, hAe, _, hr, c00⟩ := HA.out.txt hly
        subst hAe
        have C0 := Lib.hid c00
        have c0 := cell_belT c00 Hb.out
        have hro := HRO.out y T r HE.out hr
        have hbt := hro.bt
        have hbs := hro.bs
        have hcn := hro.cnt
        obtain ⟨T2, hT2⟩ : ∃ T2, T + goodN r r.size = T2 := ⟨_, rfl⟩
        have HE2 : Hid (sumG rs (y + 1) = T2) := Lib.hid (by rw [hro.nx]; exact hT2)
        clear hro hr c00
        go_wp2_with fail
        refine (count_any r _).mono ?_
        rintro e w3 ⟨rfl, hb3⟩
        have Hb3 := Lib.hid (Hb.out.trans (hb3.mono Hb.out.size))
        clear hb3
        have hsum : (T : Int) + ((r.size : Int) - ((Go.Lib.countByte r.data.toList 120 : Nat) : Int)) = ((T2 : Nat) : Int) := by omega
        have hc0 : Go.Lib.countByte r.data.toList 120 ≤ 6 := by omega
        generalize Go.Lib.countByte r.data.toList 120 = cn at *
        have HSU := Lib.hid hsum
        clear hsum hcn
        go_wp2
        go_roundw
        case rel => exact ⟨y + 1, T2, by omega, by go_num, by rw [← HSU.out], HE2, Hb3⟩
        case measure => simp [intOf]; omega
      have hyn : y = n := by omega
      have hltI : ¬ (y : Int) < (n : Int) := by omega
      have hT : T = G0 := by rw [← HG0.out, ← HE.out, hyn]
      clear hyn HE
      subst hT
      by_cases hG : T = 0
      · obtain ⟨e1, e2, e3⟩ := H3.out hG
        subst e1 e2 e3
        subst hG
        have R1 := HX.out.below Hb.out
        have b1 := bv.trans (Hb.out.mono bv.size)
        have z0 := R1.cell 0
        have z1 := R1.cell 1
        have f1 := R1.froz
        simp at z0 z1
        go_wp2_with fail
        refine bodyPost_ret (v := .tuple #[.agg #[.int .i64 0, .int .i64 0], .int .i64 3]) (by simp [results, Tryd.results44, go_sem, z0, z1]) rfl ⟨rfl, ?_⟩
        exact (b1.setCell (p := ⟨w.heap.size, 0, none⟩) (Nat.le_refl _) _).setCell (p := ⟨w.heap.size, 1, none⟩) (Nat.le_refl _) _
      · obtain ⟨e1, e2, e3⟩ := HZ.out hG
        subst e1 e2 e3
        have hne : ((T : Int) == 0) = false := by simp; omega
        go_wp2_with fail
        refine (lowest_any (S : Int) (T : Int) _ (by omega) (by omega) (by omega) (by omega)).mono ?_
        rintro e w3 ⟨rfl, hb3⟩
        have b2 := Hb.out.trans (hb3.mono Hb.out.size)
        have R1 := HX.out.below b2
        have b1 := bv.trans (b2.mono bv.size)
        have z0 := R1.cell 0
        have z1 := R1.cell 1
        have f1 := R1.froz
        simp at z0 z1
        clear hb3
        go_wp2_with fail
        refine bodyPost_ret (v := .tuple #[.agg #[.int .i64 (lowN (S : Int) (T : Int)), .int .i64 (lowD (S : Int) (T : Int))], .int .i64 0]) (by simp [results, Tryd.results44, go_sem, z0, z1]) rfl ⟨rfl, ?_⟩
        exact (b1.setCell (p := ⟨w.heap.size, 0, none⟩) (Nat.le_refl _) _).setCell (p := ⟨w.heap.size, 1, none⟩) (Nat.le_refl _) _

set_option maxRecDepth 100000 in
set_option maxHeartbeats 4000000 in
theorem specUsedShare_any (A B C : Option Addr) (n c p d q f : Nat) (rs : List ByteArray) (cs : List CutV) (pl : List Int) (w : World) (hA : Rd w 1 A n c (txs rs)) (hB : Rd w 4 B p d (qd cs)) (hC : Rd w 1 C q f (ints pl)) (hs : ∀ s ∈ rs, s.size ≤ 9223372036854775807) :
    Calls Tryd.prog 43 #[.slice A n c, .slice B p d, .slice C q f] w fun e w' => e = .returned (.tuple #[.agg #[.int .i64 (usN rs cs pl), .int .i64 (usD rs cs pl)], .int .i64 (usC rs cs pl)]) ∧ Below w.heap.size w w' := by
  obtain ⟨v, hv⟩ : ∃ v, v = w.alloc (.cells #[.int .i64 0, .int .i64 0] 60) := ⟨_, rfl⟩
  have bv : Below w.heap.size w v := by rw [hv]; exact (Below.refl _ _).alloc (Nat.le_refl _) _
  have HX : Hid (Box v w.heap.size #[.int .i64 0, .int .i64 0]) := Lib.hid (by rw [hv]; exact Box.new w _ _)
  have HCO := Lib.hid (l10Good_any A B C n c p d q f rs cs pl v (hA.below bv) (hB.below bv) (hC.below bv) hs)
  rcases Decidable.em (¬ goodC rs cs pl = 0) with h0 | h0
  · obtain ⟨e1, e2, e3⟩ := us_n h0
    rw [e1, e2, e3]
    clear e1 e2 e3
    generalize goodC rs cs pl = k at *
    have hd : (k != 0) = true := by simp; omega
    clear hA hB hC h0
    go_enter Tryd.func43, Tryd.ntmps43
    go_wp2_with fail
    rw [← hv]
    clear hv
    refine (HCO.out).mono ?_
    rintro e w1 ⟨rfl, hb1⟩
    have R1 := HX.out.below hb1
    have b1 := bv.trans (hb1.mono bv.size)
    have z0 := R1.cell 0
    have z1 := R1.cell 1
    have f1 := R1.froz
    simp at z0 z1
    clear hb1
    go_wp2_with fail
    refine bodyPost_ret (v := .tuple #[.agg #[.int .i64 0, .int .i64 0], .int .i64 k]) (by simp [results, Tryd.results43, go_sem, z0, z1]) rfl ⟨rfl, ?_⟩
    exact (b1.setCell (p := ⟨w.heap.size, 0, none⟩) (Nat.le_refl _) _).setCell (p := ⟨w.heap.size, 1, none⟩) (Nat.le_refl _) _
  have h0 : goodC rs cs pl = 0 := Decidable.not_not.mp h0
  have hp := planC_ok (goodC_ok h0)
  have hlc := hC.ilen
  have hl := hA.tlen
  have hg := hp.hide.grid hl
  have h3 := us_3 (rs := rs) (cs := cs) (pl := pl) h0
  have hz := us_0 (rs := rs) (cs := cs) (pl := pl) h0
  rw [h0] at HCO
  have hlb := hB.qlen
  have hqp : q = p := by have := hp.len; omega
  subst hqp
  rw [hl] at h3 hz
  rw [hlc] at hz
  have hbn := hg.bn
  have h4 := hp.cuts.len
  have hq4 : q ≤ 4 := by omega
  have hub := used_bd hp q (by omega)
  have hgb := sumG_bd hg n (Nat.le_refl _)
  have a1 := hA.cap
  have a2 := hA.max
  have a3 := hB.cap
  have a4 := hB.max
  have a5 := hC.cap
  have a6 := hC.max
  have HUS := Lib.hid (fun k S x y hS hx hy => us_at hp (k := k) (S := S) (x := x) (y := y) hS hx hy)
  have HRO := Lib.hid (fun y T r hT hr => rowAt hp.hide hg (y := y) (T := T) (r := r) hT hr)
  obtain ⟨U0, hU0⟩ : ∃ U, usedN cs pl q = U := ⟨_, rfl⟩
  obtain ⟨G0, hG0⟩ : ∃ G, sumG rs n = G := ⟨_, rfl⟩
  rw [hU0] at hz hub
  rw [hG0] at h3 hz hgb
  generalize usC rs cs pl = zc at *
  generalize usN rs cs pl = zn at *
  generalize usD rs cs pl = zd at *
  have HA := Lib.hid (hA.below bv)
  have HB := Lib.hid (hB.below bv)
  have HC := Lib.hid (hC.below bv)
  have H3 := Lib.hid h3
  have HZ := Lib.hid hz
  have HU0 := Lib.hid hU0
  have HG0 := Lib.hid hG0
  clear h0 hl hlb hlc hA hB hC hp hg h3 hz hU0 hG0
  go_enter Tryd.func43, Tryd.ntmps43
  go_wp2_with fail
  rw [← hv]
  clear hv
  refine (HCO.out).mono ?_
  rintro e w1 ⟨rfl, hb1⟩
  have HB1 := Lib.hid hb1
  clear hb1
  go_wp2_with fail
  go_loopw [9, 10] (fun vs vk wr => ∃ (k S : Nat), k ≤ q ∧ vk = .int .i64 k ∧ vs = .int .i64 S ∧ Hid (usedN cs pl k = S) ∧ Hid (Below v.heap.size v wr)) (fun _ vk _ => q - (intOf vk).toNat)
  case atStart => exact ⟨0, 0, Nat.zero_le _, rfl, rfl, Lib.hid rfl, HB1⟩
  case round =>
    clear HB1
    obtain ⟨k, S, hk, rfl, rfl, HE, Hb⟩ := hrel
    by_cases hlt : k < q
    · have hk0 : (0 : Int) ≤ (k : Int) := by omega
      have hk1 : (k : Int) < (q : Int) := by omega
      obtain ⟨b2, o2, x, hBe, _, hx, c0, c1, c2, c3⟩ := (HB.out.below Hb.out).cut hlt
      obtain ⟨b3, o3, y, hCe, _, hyk, y0⟩ := (HC.out.below Hb.out).int hlt
      have hu := HUS.out k S x y HE.out hx hyk
      rw [hu.wd] at c0
      rw [hu.ht] at c1
      have hbs := hu.bs
      have hpr := hu.pr
      have hp36 := hu.p36
      have hon := hu.on
      have hof := hu.off
      clear hu hx hyk c2 c3
      subst hBe
      subst hCe
      generalize wdK cs k = Wk at *
      generalize htK cs k = Hk at *
      generalize Wk * Hk = pk at *
      by_cases hy : 0 ≤ y
      · have HE2 := Lib.hid (hon hy)
        have hd : decide (y ≥ 0) = true := by simp; omega
        clear hon hof
        go_wp2
        go_quiet (fail)
        have hb3 := Lib.hid (below_drewN Hb.out nq)
        generalize wr.drewN nq = w3 at *
        go_wp2
        go_roundw
        case rel => exact ⟨k + 1, S + pk, by omega, by go_num, by go_num, HE2, hb3⟩
        case measure => simp [intOf]; omega
      · have HE2 := Lib.hid (hof hy)
        have hd : decide (y ≥ 0) = false := by simp; omega
        clear hon hof
        go_wp2
        go_roundw
        case rel => exact ⟨k + 1, S, by omega, by go_num, rfl, HE2, Hb⟩
        case measure => simp [intOf]; omega
    have hkq : k = q := by omega
    have hltI : ¬ (k : Int) < (q : Int) := by omega
    have hS : S = U0 := by rw [← HU0.out, ← HE.out, hkq]
    clear hkq HE
    subst hS
    have HB2 := Hb
    clear Hb
    go_wp2
    go_loopw [11, 12] (fun vs vy wr => ∃ (y T : Nat), y ≤ n ∧ vy = .int .i64 y ∧ vs = .int .i64 T ∧ Hid (sumG rs y = T) ∧ Hid (Below v.heap.size v wr)) (fun _ vy _ => n - (intOf vy).toNat)
    case atStart => exact ⟨0, 0, Nat.zero_le _, rfl, rfl, Lib.hid rfl, HB2⟩
    case round =>
      clear HB2
      obtain ⟨y, T, hy, rfl, rfl, HE, Hb⟩ := hrel
      by_cases hly : y < n
      · have hy0 : (0 : Int) ≤ (y : Int) := by omega
        have hy1 : (y : Int) < (n : Int) := by omega
        obtain ⟨b, o, r, hAe, _, hr, c00⟩ := HA.out.txt hly
        subst hAe
        have C0 := Lib.hid c00
        have c0 := cell_belT c00 Hb.out
        have hro := HRO.out y T r HE.out hr
        have hbt := hro.bt
        have hbs := hro.bs
        have hcn := hro.cnt
        obtain ⟨T2, hT2⟩ : ∃ T2, T + goodN r r.size = T2 := ⟨_, rfl⟩
        have HE2 : Hid (sumG rs (y + 1) = T2) := Lib.hid (by rw [hro.nx]; exact hT2)
        clear hro hr c00
        go_wp2
        go_loopw [11, 13] (fun vs vx wz => ∃ (x U : Nat), x ≤ r.size ∧ vx = .int .i64 x ∧ vs = .int .i64 U ∧ Hid (U = T + goodN r x) ∧ Hid (Below v.heap.size v wz)) (fun _ vx _ => r.size - (intOf vx).toNat)
        case atStart => exact ⟨0, T, Nat.zero_le _, rfl, rfl, Lib.hid (by have := good_le r 0; omega), Hb⟩
        case round =>
          clear Hb
          obtain ⟨x, U, hx, rfl, rfl, HU, Hb⟩ := hrel
          have c0 := cell_belT C0.out Hb.out
          have hU := HU.out
          have hgl := good_le r x
          by_cases hlx : x < r.size
          · have hx0 : (0 : Int) ≤ (x : Int) := by omega
            have hx1 : (x : Int) < (r.size : Int) := by omega
            have hqc := fun W => l10Quality_any ((r[x]'hlx).toNat : Int) W
            have hch := chr_at hlx
            have hcq : qS ((r[x]'hlx).toNat : Int) = qS (chr r x) := by rw [hch]
            rw [hcq] at hqc
            have hst := good_step hlx
            have hbd2 := qS_bd (chr r x)
            generalize qS (chr r x) = qq at *
            have HQ := Lib.hid hqc
            clear hqc hch hcq
            by_cases hq : 0 < qq
            · have hd : decide (qq > 0) = true := by simp; omega
              rw [if_pos hq] at hst
              have HU2 : Hid (U + 1 = T + goodN r (x + 1)) := Lib.hid (by omega)
              have hU1 : U ≤ 200 := by omega
              clear hst hU hgl
              go_wp2_with (go_at_call 72; refine (HQ.out _).mono ?_; rintro e w' ⟨rfl, rfl⟩)
              go_roundw
              case rel => exact ⟨x + 1, U + 1, by omega, by go_num, by go_num, HU2, Hb⟩
              case measure => simp [intOf]; omega
            · have hd : decide (qq > 0) = false := by simp; omega
              rw [if_neg hq] at hst
              have HU2 : Hid (U = T + goodN r (x + 1)) := Lib.hid (by omega)
              clear hst hU hgl
              go_wp2_with (go_at_call 72; refine (HQ.out _).mono ?_; rintro e w' ⟨rfl, rfl⟩)
              go_roundw
              case rel => exact ⟨x + 1, U, by omega, by go_num, rfl, HU2, Hb⟩
              case measure => simp [intOf]; omega
          · have hxe : x = r.size := by omega
            have hltx : ¬ (x : Int) < (r.size : Int) := by omega
            have HE3 : Hid (sumG rs (y + 1) = U) := Lib.hid (by have := HE2.out; rw [hxe] at hU; omega)
            clear hxe hU
            go_wp2
            go_roundw
            case rel => exact ⟨y + 1, U, by omega, by go_num, rfl, HE3, Hb⟩
            case measure => simp [intOf]; omega
      have hyn : y = n := by omega
      have hltI : ¬ (y : Int) < (n : Int) := by omega
      have hT : T = G0 := by rw [← HG0.out, ← HE.out, hyn]
      clear hyn HE
      subst hT
      by_cases hG : T = 0
      · obtain ⟨e1, e2, e3⟩ := H3.out hG
        subst e1 e2 e3
        subst hG
        have R1 := HX.out.below Hb.out
        have b1 := bv.trans (Hb.out.mono bv.size)
        have z0 := R1.cell 0
        have z1 := R1.cell 1
        have f1 := R1.froz
        simp at z0 z1
        go_wp2_with fail
        refine bodyPost_ret (v := .tuple #[.agg #[.int .i64 0, .int .i64 0], .int .i64 3]) (by simp [results, Tryd.results43, go_sem, z0, z1]) rfl ⟨rfl, ?_⟩
        exact (b1.setCell (p := ⟨w.heap.size, 0, none⟩) (Nat.le_refl _) _).setCell (p := ⟨w.heap.size, 1, none⟩) (Nat.le_refl _) _
      · obtain ⟨e1, e2, e3⟩ := HZ.out hG
        subst e1 e2 e3
        have hne : ((T : Int) == 0) = false := by simp; omega
        go_wp2_with fail
        refine (l02Make_any (S : Int) (T : Int) _ (by omega) (by omega) (by omega) (by omega)).mono ?_
        rintro e w3 ⟨rfl, hb3⟩
        have b2 := Hb.out.trans (hb3.mono Hb.out.size)
        have R1 := HX.out.below b2
        have b1 := bv.trans (b2.mono bv.size)
        have z0 := R1.cell 0
        have z1 := R1.cell 1
        have f1 := R1.froz
        simp at z0 z1
        clear hb3
        go_wp2_with fail
        refine bodyPost_ret (v := .tuple #[.agg #[.int .i64 (lowN (S : Int) (T : Int)), .int .i64 (lowD (S : Int) (T : Int))], .int .i64 0]) (by simp [results, Tryd.results43, go_sem, z0, z1]) rfl ⟨rfl, ?_⟩
        exact (b1.setCell (p := ⟨w.heap.size, 0, none⟩) (Nat.le_refl _) _).setCell (p := ⟨w.heap.size, 1, none⟩) (Nat.le_refl _) _

theorem eqFrac_self (x y : Int) (w : World) :
    Calls Tryd.prog 45 #[.agg #[.int .i64 x, .int .i64 y], .agg #[.int .i64 x, .int .i64 y]] w fun e w' => e = .returned (.bool true) ∧ Below w.heap.size w w' := by
  go_enter Tryd.func45, Tryd.ntmps45
  go_wp2
  go_ret
  exact ⟨rfl, (by go_grown)⟩

set_option maxRecDepth 100000 in
set_option maxHeartbeats 8000000 in
theorem law_UsedShare (A : Option Addr) (n c : Nat) (rs : List ByteArray) (B : Option Addr) (p d : Nat) (cs : List CutV) (C : Option Addr) (q f : Nat) (pl : List Int) (w : World) (hA : Rd w 1 A n c (txs rs)) (hsA : ∀ s ∈ rs, s.size ≤ 9223372036854775807) (hB : Rd w 4 B p d (qd cs)) (hC : Rd w 1 C q f (ints pl)) :
    Calls Tryd.prog 10 #[.slice A n c, .slice B p d, .slice C q f] w fun e w' => e = .returned (.bool true) ∧ Below w.heap.size w w' := by
  have eA1 := hA.cap
  have eA2 := hA.max
  have lA := hA.tlen
  have eB1 := hB.cap
  have eB2 := hB.max
  have lB := hB.qlen
  have eC1 := hC.cap
  have eC2 := hC.max
  have lC := hC.ilen
  have hsp := fun A n c B p d C q f W h1 h2 h3 => specUsedShare_any A B C n c p d q f rs cs pl W h1 h2 h3 hsA
  have him := fun A n c B p d C q f W h1 h2 h3 => implUsedShare_any A B C n c p d q f rs cs pl W h1 h2 h3 hsA
  generalize usN rs cs pl = z1 at *
  generalize usD rs cs pl = z2 at *
  generalize usC rs cs pl = z3 at *
  have HA := Lib.hid hA
  have HSA := Lib.hid hsA
  have HB := Lib.hid hB
  have HC := Lib.hid hC
  have HSP := Lib.hid hsp
  have HIM := Lib.hid him
  clear hA hsA hB hC hsp him lA lB lC
  by_cases gC : (1048576 : Int) < (q : Int)
  · go_enter Tryd.func10, Tryd.ntmps10
    go_wp2
    go_ret
    exact ⟨rfl, Below.refl _ _⟩
  have hszB := fun L W h0 h1 => szCutS_any B p d L W (by omega) h0 h1
  have HZB := Lib.hid hszB
  clear hszB
  have b0 : Below w.heap.size w w := Below.refl _ _
  have s0 := b0.size
  obtain ⟨w0, hw0⟩ : ∃ w0, w0 = w := ⟨_, rfl⟩
  go_enter Tryd.func10, Tryd.ntmps10
  go_wp2_with fail
  refine (szStringS_any A n c rs _ _ HA.out HSA.out (by omega) (by omega)).mono ?_
  rintro e wz ⟨⟨q0, rfl, hq0⟩, rfl⟩
  rcases hq0 with rfl | ⟨hq00, hq01, hnA, hszA⟩
  · go_wp2
    go_ret
    exact ⟨rfl, Below.refl _ _⟩
  have hqn0 : ¬ q0 < 0 := by omega
  have HWA := Lib.hid hszA
  clear hszA
  by_cases hq1 : q0 < (p : Int)
  · go_wp2_with fail
    refine (HZB.out _ _ (by omega) (by omega)).mono ?_
    rw [if_pos hq1]
    rintro e wz ⟨rfl, rfl⟩
    go_wp2
    go_ret
    exact ⟨rfl, Below.refl _ _⟩
  go_wp2_with fail
  refine (HZB.out _ _ (by omega) (by omega)).mono ?_
  rw [if_neg (show ¬ q0 < (p : Int) by omega)]
  rintro e wz ⟨rfl, rfl⟩
  have hqn1 : ¬ q0 - p < 0 := by omega
  go_wp2_with fail
  refine (toStringS_any A n c rs _ (HA.out.below b0) (by omega)).mono ?_
  rintro e w1 ⟨gt0, rfl, ho, hb1⟩
  have b1 : Below w.heap.size w w1 := b0.trans (hb1.mono b0.size)
  have s1 := hb1.size
  have Ot01 := Lib.hid (OwnIn.new ho)
  clear hb1 ho
  go_wp2_with fail
  refine (toCutS_any B p d cs _ (HB.out.below b1) (by omega)).mono ?_
  rintro e w2 ⟨gt1, rfl, ho, hb2⟩
  have b2 : Below w.heap.size w w2 := b1.trans (hb2.mono b1.size)
  have s2 := hb2.size
  have Ot02 := Lib.hid (Ot01.out.below hb2)
  have Ot12 := Lib.hid (OwnIn.new ho)
  clear hb2 Ot01 ho
  go_wp2_with fail
  refine (toInt64S_any C q f pl _ (HC.out.below b2) (by omega)).mono ?_
  rintro e w3 ⟨gt2, rfl, ho, hb3⟩
  have b3 : Below w.heap.size w w3 := b2.trans (hb3.mono b2.size)
  have s3 := hb3.size
  have Ot03 := Lib.hid (Ot02.out.below hb3)
  have Ot13 := Lib.hid (Ot12.out.below hb3)
  have Ot23 := Lib.hid (OwnIn.new ho)
  clear hb3 Ot02 Ot12 ho
  go_wp2_with fail
  refine (HSP.out _ _ _ _ _ _ _ _ _ _ Ot03.out.rd Ot13.out.rd Ot23.out.rd).mono ?_
  rintro e w4 ⟨rfl, hb4⟩
  have b4 : Below w.heap.size w w4 := b3.trans (hb4.mono b3.size)
  have s4 := hb4.size
  have Ot04 := Lib.hid (Ot03.out.below hb4)
  have Ot14 := Lib.hid (Ot13.out.below hb4)
  have Ot24 := Lib.hid (Ot23.out.below hb4)
  clear hb4 Ot03 Ot13 Ot23
  obtain ⟨w5, hv5⟩ : ∃ w', w' = w4.alloc (.cells #[.int .i64 z1, .int .i64 z2] 60) := ⟨_, rfl⟩
  have hb5 : Below w4.heap.size w4 w5 := by rw [hv5]; exact (Below.refl _ _).alloc (Nat.le_refl _) _
  have t5 : w5.heap.size = w4.heap.size + 1 := by rw [hv5]; simp
  have OFw5 := Lib.hid (show Box w5 w4.heap.size #[.int .i64 z1, .int .i64 z2] by rw [hv5]; exact Box.new w4 _ _)
  have b5 : Below w.heap.size w w5 := b4.trans (hb5.mono b4.size)
  have s5 := hb5.size
  have Ot05 := Lib.hid (Ot04.out.below hb5)
  have Ot15 := Lib.hid (Ot14.out.below hb5)
  have Ot25 := Lib.hid (Ot24.out.below hb5)
  clear hb5 Ot04 Ot14 Ot24
  go_wp2_with fail
  (try rw [← hv5])
  clear hv5
  refine (toStringS_any A n c rs _ (HA.out.below b5) (by omega)).mono ?_
  rintro e w6 ⟨gx0, rfl, ho, hb6⟩
  have b6 : Below w.heap.size w w6 := b5.trans (hb6.mono b5.size)
  have s6 := hb6.size
  have Ot06 := Lib.hid (Ot05.out.below hb6)
  have Ot16 := Lib.hid (Ot15.out.below hb6)
  have Ot26 := Lib.hid (Ot25.out.below hb6)
  have OFw6 := Lib.hid (OFw5.out.below hb6)
  have Ox06 := Lib.hid (OwnIn.new ho)
  clear hb6 Ot05 Ot15 Ot25 OFw5 ho
  go_wp2_with fail
  refine (toCutS_any B p d cs _ (HB.out.below b6) (by omega)).mono ?_
  rintro e w7 ⟨gx1, rfl, ho, hb7⟩
  have b7 : Below w.heap.size w w7 := b6.trans (hb7.mono b6.size)
  have s7 := hb7.size
  have Ot07 := Lib.hid (Ot06.out.below hb7)
  have Ot17 := Lib.hid (Ot16.out.below hb7)
  have Ot27 := Lib.hid (Ot26.out.below hb7)
  have OFw7 := Lib.hid (OFw6.out.below hb7)
  have Ox07 := Lib.hid (Ox06.out.below hb7)
  have Ox17 := Lib.hid (OwnIn.new ho)
  clear hb7 Ot06 Ot16 Ot26 OFw6 Ox06 ho
  go_wp2_with fail
  refine (toInt64S_any C q f pl _ (HC.out.below b7) (by omega)).mono ?_
  rintro e w8 ⟨gx2, rfl, ho, hb8⟩
  have b8 : Below w.heap.size w w8 := b7.trans (hb8.mono b7.size)
  have s8 := hb8.size
  have Ot08 := Lib.hid (Ot07.out.below hb8)
  have Ot18 := Lib.hid (Ot17.out.below hb8)
  have Ot28 := Lib.hid (Ot27.out.below hb8)
  have OFw8 := Lib.hid (OFw7.out.below hb8)
  have Ox08 := Lib.hid (Ox07.out.below hb8)
  have Ox18 := Lib.hid (Ox17.out.below hb8)
  have Ox28 := Lib.hid (OwnIn.new ho)
  clear hb8 Ot07 Ot17 Ot27 OFw7 Ox07 Ox17 ho
  go_wp2_with fail
  refine (HIM.out _ _ _ _ _ _ _ _ _ _ Ox08.out.rd Ox18.out.rd Ox28.out.rd).mono ?_
  rintro e w9 ⟨rfl, hb9⟩
  have b9 : Below w.heap.size w w9 := b8.trans (hb9.mono b8.size)
  have s9 := hb9.size
  have Ot09 := Lib.hid (Ot08.out.below hb9)
  have Ot19 := Lib.hid (Ot18.out.below hb9)
  have Ot29 := Lib.hid (Ot28.out.below hb9)
  have OFw9 := Lib.hid (OFw8.out.below hb9)
  have Ox09 := Lib.hid (Ox08.out.below hb9)
  have Ox19 := Lib.hid (Ox18.out.below hb9)
  have Ox29 := Lib.hid (Ox28.out.below hb9)
  clear hb9 Ot08 Ot18 Ot28 OFw8 Ox08 Ox18 Ox28
  have kw0 := OFw9.out.cell 0
  have kw1 := OFw9.out.cell 1
  simp at kw0 kw1
  obtain ⟨w10, hv10⟩ : ∃ w', w' = w9.alloc (.cells #[.int .i64 z1, .int .i64 z2] 60) := ⟨_, rfl⟩
  have hb10 : Below w9.heap.size w9 w10 := by rw [hv10]; exact (Below.refl _ _).alloc (Nat.le_refl _) _
  have t10 : w10.heap.size = w9.heap.size + 1 := by rw [hv10]; simp
  have OFg10 := Lib.hid (show Box w10 w9.heap.size #[.int .i64 z1, .int .i64 z2] by rw [hv10]; exact Box.new w9 _ _)
  have b10 : Below w.heap.size w w10 := b9.trans (hb10.mono b9.size)
  have s10 := hb10.size
  have Ot010 := Lib.hid (Ot09.out.below hb10)
  have Ot110 := Lib.hid (Ot19.out.below hb10)
  have Ot210 := Lib.hid (Ot29.out.below hb10)
  have OFw10 := Lib.hid (OFw9.out.below hb10)
  have Ox010 := Lib.hid (Ox09.out.below hb10)
  have Ox110 := Lib.hid (Ox19.out.below hb10)
  have Ox210 := Lib.hid (Ox29.out.below hb10)
  clear hb10 Ot09 Ot19 Ot29 OFw9 Ox09 Ox19 Ox29
  have kx0 := OFw10.out.cell 0
  have kx1 := OFw10.out.cell 1
  simp at kx0 kx1
  rw [hv10] at kx0 kx1
  go_wp2_with fail
  (try rw [← hv10])
  clear hv10
  refine (eqFrac_self _ _ _).mono ?_
  rintro e w11 ⟨rfl, hb11⟩
  have b11 : Below w.heap.size w w11 := b10.trans (hb11.mono b10.size)
  have s11 := hb11.size
  have Ot011 := Lib.hid (Ot010.out.below hb11)
  have Ot111 := Lib.hid (Ot110.out.below hb11)
  have Ot211 := Lib.hid (Ot210.out.below hb11)
  have OFw11 := Lib.hid (OFw10.out.below hb11)
  have Ox011 := Lib.hid (Ox010.out.below hb11)
  have Ox111 := Lib.hid (Ox110.out.below hb11)
  have Ox211 := Lib.hid (Ox210.out.below hb11)
  have OFg11 := Lib.hid (OFg10.out.below hb11)
  clear hb11 Ot010 Ot110 Ot210 OFw10 Ox010 Ox110 Ox210 OFg10
  clear kw0 kw1 kx0 kx1
  go_wp2_with fail
  refine (toStringS_any A n c rs _ (HA.out.below b11) (by omega)).mono ?_
  rintro e w12 ⟨gy0, rfl, ho, hb12⟩
  have b12 : Below w.heap.size w w12 := b11.trans (hb12.mono b11.size)
  have s12 := hb12.size
  have Ot012 := Lib.hid (Ot011.out.below hb12)
  have Ot112 := Lib.hid (Ot111.out.below hb12)
  have Ot212 := Lib.hid (Ot211.out.below hb12)
  have OFw12 := Lib.hid (OFw11.out.below hb12)
  have Ox012 := Lib.hid (Ox011.out.below hb12)
  have Ox112 := Lib.hid (Ox111.out.below hb12)
  have Ox212 := Lib.hid (Ox211.out.below hb12)
  have OFg12 := Lib.hid (OFg11.out.below hb12)
  have Oy012 := Lib.hid (OwnIn.new ho)
  clear hb12 Ot011 Ot111 Ot211 OFw11 Ox011 Ox111 Ox211 OFg11 ho
  go_wp2_with fail
  refine (eqStringS_any _ _ _ _ _ _ rs _ Ox012.out.rd Oy012.out.rd).mono ?_
  rintro e w13 ⟨rfl, hb13⟩
  have b13 : Below w.heap.size w w13 := b12.trans (hb13.mono b12.size)
  have s13 := hb13.size
  have Ot013 := Lib.hid (Ot012.out.below hb13)
  have Ot113 := Lib.hid (Ot112.out.below hb13)
  have Ot213 := Lib.hid (Ot212.out.below hb13)
  have OFw13 := Lib.hid (OFw12.out.below hb13)
  have Ox013 := Lib.hid (Ox012.out.below hb13)
  have Ox113 := Lib.hid (Ox112.out.below hb13)
  have Ox213 := Lib.hid (Ox212.out.below hb13)
  have OFg13 := Lib.hid (OFg12.out.below hb13)
  have Oy013 := Lib.hid (Oy012.out.below hb13)
  clear hb13 Ot012 Ot112 Ot212 OFw12 Ox012 Ox112 Ox212 OFg12 Oy012
  go_wp2_with fail
  refine (toCutS_any B p d cs _ (HB.out.below b13) (by omega)).mono ?_
  rintro e w14 ⟨gy1, rfl, ho, hb14⟩
  have b14 : Below w.heap.size w w14 := b13.trans (hb14.mono b13.size)
  have s14 := hb14.size
  have Ot014 := Lib.hid (Ot013.out.below hb14)
  have Ot114 := Lib.hid (Ot113.out.below hb14)
  have Ot214 := Lib.hid (Ot213.out.below hb14)
  have OFw14 := Lib.hid (OFw13.out.below hb14)
  have Ox014 := Lib.hid (Ox013.out.below hb14)
  have Ox114 := Lib.hid (Ox113.out.below hb14)
  have Ox214 := Lib.hid (Ox213.out.below hb14)
  have OFg14 := Lib.hid (OFg13.out.below hb14)
  have Oy014 := Lib.hid (Oy013.out.below hb14)
  have Oy114 := Lib.hid (OwnIn.new ho)
  clear hb14 Ot013 Ot113 Ot213 OFw13 Ox013 Ox113 Ox213 OFg13 Oy013 ho
  go_wp2_with fail
  refine (eqCutS_any _ _ _ _ _ _ cs _ Ox114.out.rd Oy114.out.rd).mono ?_
  rintro e w15 ⟨rfl, hb15⟩
  have b15 : Below w.heap.size w w15 := b14.trans (hb15.mono b14.size)
  have s15 := hb15.size
  have Ot015 := Lib.hid (Ot014.out.below hb15)
  have Ot115 := Lib.hid (Ot114.out.below hb15)
  have Ot215 := Lib.hid (Ot214.out.below hb15)
  have OFw15 := Lib.hid (OFw14.out.below hb15)
  have Ox015 := Lib.hid (Ox014.out.below hb15)
  have Ox115 := Lib.hid (Ox114.out.below hb15)
  have Ox215 := Lib.hid (Ox214.out.below hb15)
  have OFg15 := Lib.hid (OFg14.out.below hb15)
  have Oy015 := Lib.hid (Oy014.out.below hb15)
  have Oy115 := Lib.hid (Oy114.out.below hb15)
  clear hb15 Ot014 Ot114 Ot214 OFw14 Ox014 Ox114 Ox214 OFg14 Oy014 Oy114
  go_wp2_with fail
  refine (toInt64S_any C q f pl _ (HC.out.below b15) (by omega)).mono ?_
  rintro e w16 ⟨gy2, rfl, ho, hb16⟩
  have b16 : Below w.heap.size w w16 := b15.trans (hb16.mono b15.size)
  have s16 := hb16.size
  have Ot016 := Lib.hid (Ot015.out.below hb16)
  have Ot116 := Lib.hid (Ot115.out.below hb16)
  have Ot216 := Lib.hid (Ot215.out.below hb16)
  have OFw16 := Lib.hid (OFw15.out.below hb16)
  have Ox016 := Lib.hid (Ox015.out.below hb16)
  have Ox116 := Lib.hid (Ox115.out.below hb16)
  have Ox216 := Lib.hid (Ox215.out.below hb16)
  have OFg16 := Lib.hid (OFg15.out.below hb16)
  have Oy016 := Lib.hid (Oy015.out.below hb16)
  have Oy116 := Lib.hid (Oy115.out.below hb16)
  have Oy216 := Lib.hid (OwnIn.new ho)
  clear hb16 Ot015 Ot115 Ot215 OFw15 Ox015 Ox115 Ox215 OFg15 Oy015 Oy115 ho
  go_wp2_with fail
  refine (eqInt64S_any _ _ _ pl _ _ _ pl _ Ox216.out.rd Oy216.out.rd).mono ?_
  rw [eqL_self]
  rintro e w17 ⟨rfl, hb17⟩
  have b17 : Below w.heap.size w w17 := b16.trans (hb17.mono b16.size)
  have s17 := hb17.size
  have Ot017 := Lib.hid (Ot016.out.below hb17)
  have Ot117 := Lib.hid (Ot116.out.below hb17)
  have Ot217 := Lib.hid (Ot216.out.below hb17)
  have OFw17 := Lib.hid (OFw16.out.below hb17)
  have Ox017 := Lib.hid (Ox016.out.below hb17)
  have Ox117 := Lib.hid (Ox116.out.below hb17)
  have Ox217 := Lib.hid (Ox216.out.below hb17)
  have OFg17 := Lib.hid (OFg16.out.below hb17)
  have Oy017 := Lib.hid (Oy016.out.below hb17)
  have Oy117 := Lib.hid (Oy116.out.below hb17)
  have Oy217 := Lib.hid (Oy216.out.below hb17)
  clear hb17 Ot016 Ot116 Ot216 OFw16 Ox016 Ox116 Ox216 OFg16 Oy016 Oy116 Oy216
  go_wp2_with fail
  go_ret
  exact ⟨rfl, b17⟩

end Go.Proofs.YtiibhejjeijdaaaDoor
