/- The walk of the law FnBenchTimes. Printed by mkbr.py. -/
import Derived.Test.YtfjmohnlllbgmaaBq
import Derived.Test.YtfjmohnlllbgmaaFb
import Derived.Deep.CutRange
namespace Go.Proofs.Ytfjmohnlllbgmaa
open Go.RowKit Go.Shelf

theorem wk_le {ps : List (Int × Int)} {os : List Int} {n : Nat} (hl : ps.length = n) (hp : os.Perm (upto n)) : ∀ i, i ≤ n → wkK ps os i ≤ (timK ps os i).b
  | 0, _ => by simp [wkK, sumG, timK]
  | i + 1, hi => by
    obtain ⟨hlo, hin⟩ := perm_in hp
    have ih := wk_le hl hp i (by omega)
    have hx := List.getElem?_eq_getElem (l := os) (i := i) (by omega)
    have hq := hin _ _ hx
    obtain ⟨q, hqe⟩ := Int.eq_ofNat_of_zero_le hq.1
    rw [hqe] at hx
    have st := step_all hl hp hx
    have hm := Int.le_max_right (timK ps os (i + 1)).a (timK ps os i).b
    rw [wkK_step hx, st.b1]
    omega
theorem wk_nn {ps : List (Int × Int)} {os : List Int} {n : Nat} (hj : JOk ps) (hl : ps.length = n) (hp : os.Perm (upto n)) : ∀ i, i ≤ n → 0 ≤ wkK ps os i
  | 0, _ => by simp [wkK, sumG]
  | i + 1, hi => by
    obtain ⟨hlo, hin⟩ := perm_in hp
    have ih := wk_nn hj hl hp i (by omega)
    have hx := List.getElem?_eq_getElem (l := os) (i := i) (by omega)
    have hq := hin _ _ hx
    obtain ⟨q, hqe⟩ := Int.eq_ofNat_of_zero_le hq.1
    rw [hqe] at hx hq
    have hpp := List.getElem?_eq_getElem (l := ps) (i := q) (by omega)
    have hjq := hj.job q _ hpp
    have hgq : ps.getD q (0, 0) = ps[q]'(by omega) := by simp [List.getD, hpp]
    rw [wkK_step hx, hgq]
    omega
theorem waitL_at {t : Tim} {k : Nat} (h : k < t.S.length) : (waitL t).getD k 0 = t.B.getD k 0 - t.F.getD k 0 := by
  unfold waitL
  simp [List.getD, h]
theorem waitL_len (t : Tim) : (waitL t).length = t.S.length := by simp [waitL]
/-- What is known in the step of the order's i-th job k. -/
structure StK (ps : List (Int × Int)) (os : List Int) (T : Tim) (i k : Nat) (x y a b a' b' W : Int) : Prop where
  a1 : a' = a + x
  w0 : 0 ≤ W
  s : b' = a + x + W + y
  fr : b ≤ a + x + W
  idle : 0 < W → a + x + W = b
  wt : (waitL T).getD k 0 = W
  en : T.S.getD k 0 = b'
theorem stK {ps : List (Int × Int)} {os : List Int} {n i k : Nat} {x y : Int} {T : Tim} (hl : ps.length = n) (hp : os.Perm (upto n)) (hT : timK ps os n = T) (hk : os[i]? = some (k : Int)) (hx : ps[k]? = some (x, y)) :
    ∃ W, StK ps os T i k x y (timK ps os i).a (timK ps os i).b (timK ps os (i + 1)).a (timK ps os (i + 1)).b W := by
  have st := step_all hl hp hk
  have hkn := (List.getElem?_eq_some_iff.1 hx).1
  have hlen := (tim_lens ps os n).2.2
  have hw : (waitL (timK ps os n)).getD k 0 = (timK ps os n).B.getD k 0 - (timK ps os n).F.getD k 0 := waitL_at (by omega)
  have h1 := st.a1
  have h2 := st.b1
  rw [pair_at hx] at h1 h2
  have hf := st.f
  have hb := st.b
  have hs := st.s
  subst hT
  have hm1 := Int.le_max_left (timK ps os (i + 1)).a (timK ps os i).b
  have hm2 := Int.le_max_right (timK ps os (i + 1)).a (timK ps os i).b
  have hm3 : max (timK ps os (i + 1)).a (timK ps os i).b = (timK ps os (i + 1)).a ∨ max (timK ps os (i + 1)).a (timK ps os i).b = (timK ps os i).b := by omega
  refine ⟨max (timK ps os (i + 1)).a (timK ps os i).b - (timK ps os (i + 1)).a, ⟨h1, by omega, ?_, by omega, fun h => by omega, by rw [hw, hf, hb], hs⟩⟩
  simp only at h1 h2
  omega

set_option maxRecDepth 100000 in
set_option maxHeartbeats 8000000 in
theorem law_BenchTimes (A : Option Addr) (n cp : Nat) (A' : Option Addr) (n' cp' : Nat) (w : World) (h1 : Bytes w A n cp) (h2 : Bytes w A' n' cp') :
    Calls Try.prog 12 #[.slice A n cp, .slice A' n' cp'] w fun e w' => e = .returned (.bool true) ∧ Below w.heap.size w w' := by
  obtain ⟨i6, gi, gz0, gz1, gz2⟩ := info_parts info_i64r
  have nn := h1.1
  have nn' := h2.1
  have nc := h1.2.1
  have nc' := h2.2.1
  have H1 := Lib.hid h1
  have H2 := Lib.hid h2
  clear h1 h2
  go_enter Try.func12, Try.ntmps12
  go_wp2_with fail
  refine (a2Long_any _ _ _ _ _ _ _ (by omega) (by omega)).mono ?_
  rintro e w' ⟨rfl, rfl⟩
  cases hz : (decide (3000 < n) || decide (3000 < n')) with
  | true =>
    go_wp2
    go_returns
    exact ⟨rfl, Below.refl _ _⟩
  | false =>
  clear hz
  go_wp2_with fail
  refine (a2Jobs_any _ _ _ _ H1.out).mono ?_
  rintro e w1 ⟨g, m, c, ps, rfl, ho, hD, hm1, hm6, b1⟩
  have K1 := Lib.hid (H2.out.below b1)
  have hpl := own_plen ho
  have HP1 := Lib.hid (Rd.of_own ho)
  have HB1 := Lib.hid b1
  have s1 := b1.size
  have hjb := hD.jobs (by omega)
  clear ho b1 H1 H2 hD
  go_wp2_with fail
  refine (a2Order_any _ _ _ _ _ K1.out (by omega)).mono ?_
  rintro e w2 ⟨go, co, os, rfl, ho, hperm, b2⟩
  have HP := Lib.hid (HP1.out.below b2)
  have HO := Lib.hid (Rd.of_own ho)
  have HB2 := Lib.hid (HB1.out.trans (b2.mono s1))
  have K2 := Lib.hid (K1.out.below b2)
  have s2 := HB2.out.size
  clear ho b2 K1 HP1 HB1 s1
  have hj := jok hjb
  have hol : os.length = m := by rw [hperm.length_eq, upto_len]
  have hcode := codeJ_perm hjb hpl hperm
  have e1 : endsZ ps os = ((timK ps os m).S, 0) := by unfold endsZ; rw [if_pos hcode, hol]
  have e2 : waitsZ ps os = (waitL (timK ps os m), 0) := by unfold waitsZ; rw [if_pos hcode, hol]
  have e3 : spanZ ps os = ((timK ps os m).b, 0) := by unfold spanZ; rw [if_pos hcode, hol]
  have e4 : idleZ ps os = ((timK ps os m).b - sumG Prod.snd ps, 0) := by unfold idleZ; rw [if_pos hcode, hol]
  have e5 : ∀ ds : List Int, ds.length = m → (∀ x ∈ ds, 0 ≤ x ∧ x < 60) → lateZ ps os ds = (lateL (timK ps os m).S ds m, 0) := fun ds h1 h2 => by
    rw [late_ok hcode, hol, hpl]
    rw [h1, hpl]
    simp only [ne_eq, not_true_eq_false, decide_false, Bool.false_or]
    exact out_none fun j x hx => by have := h2 x (List.mem_of_getElem? hx); exact inB_mk (by omega) (by omega)
  have e6 : (120 < (timK ps os m).b → chZ ps os = ([], 5)) ∧ (¬ 120 < (timK ps os m).b → chZ ps os = (chL ps (timK ps os m) m, 0)) := ⟨fun h => by rw [chZ_5 hcode (by rw [hol]; exact h)], fun h => by rw [chZ_0 hcode (by rw [hol]; exact h), hol, hpl]⟩
  have hwk := wkK_all hpl hperm
  have hwl := wk_le hpl hperm m (Nat.le_refl _)
  have hwn := fun i hi => And.intro (wk_nn hj hpl hperm i hi) (wk_le hpl hperm i hi)
  have htb := fun i (hi : i ≤ m) => timB_all hj (fun j x hx => by have := (perm_in hperm).2 j x hx; omega : ∀ (j : Nat) (i : Int), os[j]? = some i → 0 ≤ i ∧ i < ps.length) i (by omega)
  have hsl : (timK ps os m).S.length = m := by rw [(tim_lens ps os m).2.2, hpl]
  have hwL := waitL_len (timK ps os m)
  rw [hwk] at hwl
  have hst := fun i k x y (hk : os[i]? = some ((k : Nat) : Int)) (hx : ps[k]? = some (x, y)) => stK (T := timK ps os m) hpl hperm rfl hk hx
  have hin := (perm_in hperm).2
  have hws := fun i (k : Nat) (hk : os[i]? = some (k : Int)) => wkK_step (ps := ps) hk
  have hfit := fun i (hi : i < m) => tim_fits hj hpl hperm hi
  have hap := fun i j (hi : i < m) (hjm : j < m) (hij : i ≠ j) t => apart_jobs hj hpl hperm hi hjm hij t
  have htm := htb m (Nat.le_refl _)
  generalize hT : timK ps os m = T at *
  have hTb0 := htm.b0
  have hTb1 := htm.b1
  have hc1 := fun W h hB => implEndsOf_any (some ⟨g, 0, none⟩) m c ps (some ⟨go, 0, none⟩) m co os W h hB (by omega)
  have hc2 := fun W h hB => implWaitsOf_any (some ⟨g, 0, none⟩) m c ps (some ⟨go, 0, none⟩) m co os W h hB (by omega)
  have hc3 := fun W h hB => implSpanOf_any (some ⟨g, 0, none⟩) m c ps (some ⟨go, 0, none⟩) m co os W h hB (by omega)
  have hc4 := fun W h hB => implIdleOf_any (some ⟨g, 0, none⟩) m c ps (some ⟨go, 0, none⟩) m co os W h hB (by omega)
  have hc5 := fun D l q ds W h hB hD => implLateJobs_any (some ⟨g, 0, none⟩) m c ps (some ⟨go, 0, none⟩) m co os D l q ds W h hB hD (by omega)
  have hc6 := fun W h hB => implChart_any (some ⟨g, 0, none⟩) m c ps (some ⟨go, 0, none⟩) m co os W h hB (by omega)
  rw [e1] at hc1
  rw [e2] at hc2
  rw [e3] at hc3
  rw [e4] at hc4
  simp only at hc1 hc2 hc3 hc4
  generalize sumG Prod.snd ps = SG at *
  have HC1 := Lib.hid hc1
  have HC2 := Lib.hid hc2
  have HC3 := Lib.hid hc3
  have HC4 := Lib.hid hc4
  have HC5 := Lib.hid hc5
  have HC6 := Lib.hid hc6
  have HE5 := Lib.hid e5
  have HE6 := Lib.hid e6
  have HWK := Lib.hid hwk
  have HWN := Lib.hid hwn
  have HTB := Lib.hid htb
  have HSL := Lib.hid hsl
  have HST := Lib.hid hst
  have HIN := Lib.hid hin
  have HWS := Lib.hid hws
  have HFIT := Lib.hid hfit
  have HAP := Lib.hid hap
  have HT := Lib.hid hT
  have HJ := Lib.hid hj.job
  have HPL := Lib.hid hpl
  have hpc := HP.out.cap
  have hpm := HP.out.max
  have hoc := HO.out.cap
  have hom := HO.out.max
  clear hj hol hcode e1 e2 e3 e4 e5 e6 hwk hwn htb hst hin hws hfit hap htm hT hc1 hc2 hc3 hc4 hc5 hc6 hjb hperm hpl
  go_wp2_with fail
  refine (HC1.out _ HP.out HO.out).mono ?_
  rintro e w3 ⟨AE, nE, cE, rfl, hoE, hb3⟩
  obtain rfl : nE = m := by have := (Rd.of_own hoE).ilen; rw [HSL.out] at this; exact this.symm
  have HE := Lib.hid (Rd.of_own hoE)
  have P3 := Lib.hid (HP.out.below hb3)
  have O3 := Lib.hid (HO.out.below hb3)
  have K3 := Lib.hid (K2.out.below hb3)
  have B3 := Lib.hid (HB2.out.trans (hb3.mono s2))
  have s3 := B3.out.size
  clear hoE hb3 HP HO K2 HB2 s2
  go_wp2_with fail
  refine (HC2.out _ P3.out O3.out).mono ?_
  rintro e w4 ⟨AW, nW, cW, rfl, hoW, hb4⟩
  obtain rfl : nW = nE := by have := (Rd.of_own hoW).ilen; rw [hwL, HSL.out] at this; exact this.symm
  have HW := Lib.hid (Rd.of_own hoW)
  have E4 := Lib.hid (HE.out.below hb4)
  have P4 := Lib.hid (P3.out.below hb4)
  have O4 := Lib.hid (O3.out.below hb4)
  have K4 := Lib.hid (K3.out.below hb4)
  have B4 := Lib.hid (B3.out.trans (hb4.mono s3))
  have s4 := B4.out.size
  clear hoW hb4 HE P3 O3 K3 B3 s3
  go_wp2_with fail
  refine (HC3.out _ P4.out O4.out).mono ?_
  rintro e w5 ⟨rfl, hb5⟩
  have W5 := Lib.hid (HW.out.below hb5)
  have E5 := Lib.hid (E4.out.below hb5)
  have P5 := Lib.hid (P4.out.below hb5)
  have O5 := Lib.hid (O4.out.below hb5)
  have K5 := Lib.hid (K4.out.below hb5)
  have B5 := Lib.hid (B4.out.trans (hb5.mono s4))
  have s5 := B5.out.size
  clear hb5 HW E4 P4 O4 K4 B4 s4
  go_wp2_with fail
  refine (HC4.out _ P5.out O5.out).mono ?_
  rintro e w6 ⟨rfl, hb6⟩
  have W6 := Lib.hid (W5.out.below hb6)
  have E6 := Lib.hid (E5.out.below hb6)
  have P6 := Lib.hid (P5.out.below hb6)
  have O6 := Lib.hid (O5.out.below hb6)
  have K6 := Lib.hid (K5.out.below hb6)
  have B6 := Lib.hid (B5.out.trans (hb6.mono s5))
  have s6 := B6.out.size
  clear hb6 W5 E5 P5 O5 K5 B5 s5
  have hdI : decide (T.b - SG < 0) = false := by simp; omega
  have ha : Below w6.heap.size w6 (w6.alloc (.cells #[] 2)) := (Below.refl _ _).alloc (Nat.le_refl _) _
  have HD0 := Lib.hid (show (w6.alloc (.cells #[] 2)).ownsRow w6.heap.size 2 1 (.slice (some ⟨w6.heap.size, 0, none⟩) 0 0) 0 (ints []) from World.ownsRow_made w6 #[] 0 (Nat.le_refl _) (by unfold maxLen; omega) rfl)
  have HBA := Lib.hid ha
  have ht0 : (timK ps os 0).a = 0 ∧ (timK ps os 0).b = 0 ∧ wkK ps os 0 = 0 := by simp [timK, wkK, sumG]
  obtain ⟨t0a, t0b, t0w⟩ := ht0
  have hEc := E6.out.cap
  have hEm := E6.out.max
  have hWc := W6.out.cap
  have hWm := W6.out.max
  clear ha
  go_wp2
  go_loopw [15, 16, 17, 18, 19] (fun va vb vw vd vi wr => ∃ (i : Nat) (AD : Option Addr) (cd : Nat) (ds : List Int), i ≤ nW ∧ vi = .int .i64 i ∧ va = .int .i64 (timK ps os i).a ∧ vb = .int .i64 (timK ps os i).b ∧ vw = .int .i64 (wkK ps os i) ∧ vd = .slice AD i cd ∧ Hid (wr.ownsRow w6.heap.size 2 1 (.slice AD i cd) i (ints ds)) ∧ Hid (∀ x ∈ ds, 0 ≤ x ∧ x < 60) ∧ Hid (Below w6.heap.size w6 wr)) (fun _ _ _ _ vi _ => nW - (intOf vi).toNat)
  case atStart => exact ⟨0, _, _, [], Nat.zero_le _, rfl, by rw [t0a], by rw [t0b], by rw [t0w], rfl, HD0, Lib.hid (fun x hx => by cases hx), HBA⟩
  case round =>
    clear HD0 HBA t0a t0b t0w
    obtain ⟨i, AD, cd, ds, hi, rfl, rfl, rfl, rfl, rfl, HDO, HDB, HBX⟩ := hrel
    obtain ⟨w7, rfl⟩ : ∃ w', w' = wr := ⟨_, rfl⟩
    have s7 := HBX.out.size
    by_cases hil : i < nW
    · have hi0 : (0 : Int) ≤ (i : Int) := by omega
      have hi1 : (i : Int) < (nW : Int) := by omega
      obtain ⟨bo, oo, r, hOe, _, hr, cO⟩ := (O6.out.below HBX.out).int hil
      have hrn := HIN.out i r hr
      obtain ⟨k, rfl⟩ := Int.eq_ofNat_of_zero_le hrn.1
      have hkn : k < nW := by omega
      have hk0 : (0 : Int) ≤ (k : Int) := by omega
      have hk1 : (k : Int) < (nW : Int) := by omega
      obtain ⟨bp, op, x, y, hPe, _, hx, cP0, cP1⟩ := (P6.out.below HBX.out).pair hkn
      obtain ⟨bw, ow, W, hWe, _, hw, cW0⟩ := (W6.out.below HBX.out).int hkn
      obtain ⟨be, oe, b2, hEe, _, he, cE0⟩ := (E6.out.below HBX.out).int hkn
      obtain ⟨W', st⟩ := HST.out i k x y hr hx
      have hws := HWS.out i k hr
      rw [pair_at hx] at hws
      have q1 := st.wt
      have q2 := st.en
      rw [show (waitL T).getD k 0 = W by simp [List.getD, hw]] at q1
      rw [show T.S.getD k 0 = b2 by simp [List.getD, he]] at q2
      subst q1
      have sa1 := st.a1
      have sw0 := st.w0
      have ss := st.s
      have sfr := st.fr
      have sid := st.idle
      have hjx := HJ.out k _ hx
      have tb1 := HTB.out i (by omega)
      have ta0 := tb1.a0
      have ta1 := tb1.a1
      have tbb0 := tb1.b0
      have tbb1 := tb1.b1
      have hwn := HWN.out i (by omega)
      have hwn2 := HWN.out (i + 1) (by omega)
      have tb2 := HTB.out (i + 1) (by omega)
      have tc0 := tb2.b0
      have tc1 := tb2.b1
      rw [← q2] at ss tc0 tc1
      simp only at hjx hws
      injection hOe with hOe
      injection hOe with oa1 oa2
      subst oa1
      subst oa2
      injection hPe with hPe
      injection hPe with pa1 pa2
      subst pa1
      subst pa2
      subst hWe
      subst hEe
      rw [Nat.zero_add] at cO cP0 cP1
      have na : (timK ps os (i + 1)).a = (timK ps os i).a + x := sa1
      have nb : (timK ps os (i + 1)).b = b2 := q2.symm
      have NA := Lib.hid na
      have NB := Lib.hid nb
      have NW := Lib.hid hws
      generalize (timK ps os i).a = ta at *
      generalize (timK ps os i).b = tb at *
      generalize wkK ps os i = wk at *
      have hwb : 0 ≤ wk + y ∧ wk + y ≤ 100000 := by omega
      have d1 : decide (W < 0) = false := by simpa using sw0
      have d2 : (b2 != ta + x + W + y) = false := by simpa using ss
      have d3 : decide (ta + x + W < tb) = false := by simpa using sfr
      have cb : ∀ q, Below w7.heap.size w7 (w7.drewN q) := fun q => below_drewN (Below.refl _ _) q
      have hcd := (Rd.of_own HDO.out).cap
      have hmd := (Rd.of_own HDO.out).max
      have hxb : ∀ g, (Value.slice AD i cd).ownBlock = some g → w6.heap.size ≤ g ∧ g < w7.heap.size := fun g hg => own_block HDO.out g hg
      have HXB := Lib.hid hxb
      have CB := Lib.hid cb
      have hdl : ds.length = i := (Rd.of_own HDO.out).ilen
      have HDL := Lib.hid hdl
      clear hwn2 st hr hx hw he q2 sa1 hrn tb1 tb2 hws hxb cb na nb hdl
      have hnx : 0 ≤ ta + x ∧ ta + x ≤ 8000 := by omega
      by_cases hW : 0 < W
      · have d4 : decide (W > 0) = true := by simpa using hW
        have d5 : (ta + x + W != tb) = false := by simpa using sid hW
        clear sid
        go_wp2
        go_quiet (fail)
        have HB8 := Lib.hid (below_drewN HBX.out nq)
        have e0 := cell_bel cE0 (CB.out nq)
        have p1 := cell_bel cP1 (CB.out nq)
        have HDO8 := Lib.hid (own_below HDO.out (CB.out nq))
        have K8 := Lib.hid ((K6.out.below HBX.out).below (CB.out nq))
        generalize w7.drewN nq = w8 at *
        clear cO cP0 cP1 cW0 cE0 CB HDO HBX
        go_wp2_with fail
        refine (a2At_any _ _ _ _ _ _ K8.out (by omega) (by omega)).mono ?_
        rintro e w9 ⟨v, v0, v1, rfl, rfl⟩
        have s8 := HB8.out.size
        have hns : ints ds ++ [.int .i64 v] = ints (ds ++ [v]) := by simp [ints]
        go_wp2_with (at_builtin; refine wpList_append_own_at _ rfl (.tmp 175) (.tmp 180) 34 rfl w6.heap.size 2 i6 (.int .i64 0) 1 8 Try.underlying34 gi gz0 gz1 gz2 rfl (by decide) (Value.slice AD i cd) _ _ rfl (HDO8.out.alloc _) ⟨_, 0, none⟩ 1 1 [.int .i64 v] rfl rfl (cell_one_new _ _ _) (by intro u hu; simp at hu; subst hu; rfl) (by unfold maxLen; omega) (by omega) (by simp; omega) ?_; intro v' wa hown' hga hdel hblk; clear hdel hblk)
        have hal : Below w8.heap.size w8 (w8.alloc (.cells #[.int .i64 v] 2)) := (Below.refl _ _).alloc (Nat.le_refl _) _
        obtain ⟨g9, c9', hv9, _, _⟩ := own_form hown' (by omega)
        subst hv9
        have hb9 : Below w6.heap.size w6 wa := (HB8.out.trans (hal.mono s8)).grown hga (by simp; omega) (fun j hj => by have := HXB.out j hj; omega)
        rw [hns] at hown'
        have HDO9 := Lib.hid hown'
        have HB9 := Lib.hid hb9
        have HDB9 : Hid (∀ z ∈ ds ++ [v], 0 ≤ z ∧ z < 60) := Lib.hid (fun z hz => by
          rcases List.mem_append.1 hz with h | h
          · exact HDB.out z h
          · simp at h; subst h; exact ⟨v0, v1⟩)
        clear hown' hga hal hb9 hns HB8 HDO8 K8 e0 p1
        go_wp2
        go_roundw
        case rel => exact ⟨i + 1, some ⟨g9, 0, none⟩, c9', ds ++ [v], by omega, by go_num, by rw [NA.out], by rw [NB.out, ss], by rw [NW.out], rfl, HDO9, HDB9, HB9⟩
        case measure => simp [intOf]; omega
      · have d4 : decide (W > 0) = false := by simpa using hW
        clear sid
        go_wp2
        go_quiet (fail)
        have HB8 := Lib.hid (below_drewN HBX.out nq)
        have e0 := cell_bel cE0 (CB.out nq)
        have p1 := cell_bel cP1 (CB.out nq)
        have HDO8 := Lib.hid (own_below HDO.out (CB.out nq))
        have K8 := Lib.hid ((K6.out.below HBX.out).below (CB.out nq))
        generalize w7.drewN nq = w8 at *
        clear cO cP0 cP1 cW0 cE0 CB HDO HBX
        go_wp2_with fail
        refine (a2At_any _ _ _ _ _ _ K8.out (by omega) (by omega)).mono ?_
        rintro e w9 ⟨v, v0, v1, rfl, rfl⟩
        have s8 := HB8.out.size
        have hns : ints ds ++ [.int .i64 v] = ints (ds ++ [v]) := by simp [ints]
        go_wp2_with (at_builtin; refine wpList_append_own_at _ rfl (.tmp 175) (.tmp 180) 34 rfl w6.heap.size 2 i6 (.int .i64 0) 1 8 Try.underlying34 gi gz0 gz1 gz2 rfl (by decide) (Value.slice AD i cd) _ _ rfl (HDO8.out.alloc _) ⟨_, 0, none⟩ 1 1 [.int .i64 v] rfl rfl (cell_one_new _ _ _) (by intro u hu; simp at hu; subst hu; rfl) (by unfold maxLen; omega) (by omega) (by simp; omega) ?_; intro v' wa hown' hga hdel hblk; clear hdel hblk)
        have hal : Below w8.heap.size w8 (w8.alloc (.cells #[.int .i64 v] 2)) := (Below.refl _ _).alloc (Nat.le_refl _) _
        obtain ⟨g9, c9', hv9, _, _⟩ := own_form hown' (by omega)
        subst hv9
        have hb9 : Below w6.heap.size w6 wa := (HB8.out.trans (hal.mono s8)).grown hga (by simp; omega) (fun j hj => by have := HXB.out j hj; omega)
        rw [hns] at hown'
        have HDO9 := Lib.hid hown'
        have HB9 := Lib.hid hb9
        have HDB9 : Hid (∀ z ∈ ds ++ [v], 0 ≤ z ∧ z < 60) := Lib.hid (fun z hz => by
          rcases List.mem_append.1 hz with h | h
          · exact HDB.out z h
          · simp at h; subst h; exact ⟨v0, v1⟩)
        clear hown' hga hal hb9 hns HB8 HDO8 K8 e0 p1
        go_wp2
        go_roundw
        case rel => exact ⟨i + 1, some ⟨g9, 0, none⟩, c9', ds ++ [v], by omega, by go_num, by rw [NA.out], by rw [NB.out, ss], by rw [NW.out], rfl, HDO9, HDB9, HB9⟩
        case measure => simp [intOf]; omega
    · have hin2 : nW = i := by omega
      subst hin2
      have hq1 : (T.b != T.b) = false := by simp
      have hq2 : (T.b - SG != T.b - SG) = false := by simp
      have hSG0 : 0 ≤ SG := by have := (HWN.out nW (Nat.le_refl _)).1; rw [HWK.out] at this; exact this
      have hdl : ds.length = nW := (Rd.of_own HDO.out).ilen
      have E7 := Lib.hid (E6.out.below HBX.out)
      have P7 := Lib.hid (P6.out.below HBX.out)
      have D7 := Lib.hid (Rd.of_own HDO.out)
      have hlate := HC5.out AD nW cd ds w7 P7.out (O6.out.below HBX.out) D7.out
      rw [HE5.out ds hdl HDB.out] at hlate
      have HLT := Lib.hid hlate
      have O7 := Lib.hid (O6.out.below HBX.out)
      have B7 := Lib.hid (B6.out.trans (HBX.out.mono s6))
      have s7w := B7.out.size
      have hdc := D7.out.cap
      have hdm := D7.out.max
      rw [HT.out, HWK.out]
      clear hlate HDO HDB HBX E6 W6 P6 O6 K6 B6
      go_wp2_with fail
      refine (HLT.out).mono ?_
      rintro e w8 ⟨AL, nL, cL, rfl, hoL, hb8⟩
      have L8 := Lib.hid (Rd.of_own hoL)
      have E8 := Lib.hid (E7.out.below hb8)
      have P8 := Lib.hid (P7.out.below hb8)
      have D8 := Lib.hid (D7.out.below hb8)
      have O8 := Lib.hid (O7.out.below hb8)
      have B8 := Lib.hid (B7.out.trans (hb8.mono s7w))
      have s8 := B8.out.size
      clear hoL hb8 E7 P7 D7 O7 B7 HLT
      go_wp2_with fail
      refine (a2Rises_any AL nL cL (lateL T.S ds nW) (nW : Int) w8 L8.out late_bd (late_rise nW)).mono ?_
      rintro e w9 ⟨rfl, hb9⟩
      have L9 := Lib.hid (L8.out.below hb9)
      have E9 := Lib.hid (E8.out.below hb9)
      have P9 := Lib.hid (P8.out.below hb9)
      have D9 := Lib.hid (D8.out.below hb9)
      have O9 := Lib.hid (O8.out.below hb9)
      have B9 := Lib.hid (B8.out.trans (hb9.mono s8))
      have s9 := B9.out.size
      clear hb9 L8 E8 P8 D8 O8 B8
      go_wp2
      go_loopw [23] (fun vi wr => ∃ i : Nat, i ≤ nW ∧ vi = .int .i64 i ∧ Hid (Below w9.heap.size w9 wr)) (fun vi _ => nW - (intOf vi).toNat)
      case atStart => exact ⟨0, Nat.zero_le _, rfl, Lib.hid (Below.refl _ _)⟩
      case round =>
        obtain ⟨i, hi2, rfl, HBX⟩ := hrel
        obtain ⟨wa, rfl⟩ : ∃ w', w' = wr := ⟨_, rfl⟩
        by_cases hil : i < nW
        · have hi0 : (0 : Int) ≤ (i : Int) := by omega
          have hi1 : (i : Int) < (nW : Int) := by omega
          obtain ⟨be, oe, se, hEe, _, he, cE0⟩ := (E9.out.below HBX.out).int hil
          obtain ⟨bd, od, de, hDe, _, hd, cD0⟩ := (D9.out.below HBX.out).int hil
          have hlh := late_has (S := T.S) (ds := ds) hil
          rw [show ds.getD i 0 = de by simp [List.getD, hd], show T.S.getD i 0 = se by simp [List.getD, he]] at hlh
          have hcall := fun W (hb : Below wa.heap.size wa W) => a2Has_any AL nL cL (lateL T.S ds nW) (i : Int) W ((L9.out.below HBX.out).below hb)
          rw [hlh] at hcall
          subst hEe
          subst hDe
          clear hlh he hd
          by_cases hlt : de < se
          · rw [decide_eq_true hlt] at hcall
            have d1 : decide (se > de) = true := by simpa using hlt
            have HCA := Lib.hid hcall
            clear hcall
            go_wp2
            go_quiet ((go_at_call 47; refine Calls.quiet_of_same ((HCA.out _ (by first | exact Below.refl _ _ | exact below_drewN (Below.refl _ _) _ | exact (Below.refl _ _).drew)).mono fun _ _ h => ⟨h.1, h.2.symm⟩)))
            have HB2 := Lib.hid (below_drewN HBX.out nq)
            go_wp2
            go_roundw
            case rel => exact ⟨i + 1, by omega, by go_num, HB2⟩
            case measure => simp [intOf]; omega
          · rw [decide_eq_false hlt] at hcall
            have d1 : decide (se > de) = false := by simpa using hlt
            have HCA := Lib.hid hcall
            clear hcall
            go_wp2
            go_quiet ((go_at_call 47; refine Calls.quiet_of_same ((HCA.out _ (by first | exact Below.refl _ _ | exact below_drewN (Below.refl _ _) _ | exact (Below.refl _ _).drew)).mono fun _ _ h => ⟨h.1, h.2.symm⟩)))
            have HB2 := Lib.hid (below_drewN HBX.out nq)
            go_wp2
            go_roundw
            case rel => exact ⟨i + 1, by omega, by go_num, HB2⟩
            case measure => simp [intOf]; omega
        · have hin3 : nW = i := by omega
          subst hin3
          have Pa := Lib.hid (P9.out.below HBX.out)
          have Oa := Lib.hid (O9.out.below HBX.out)
          have Ba := Lib.hid (B9.out.trans (HBX.out.mono s9))
          have sa := Ba.out.size
          have hch := HC6.out wa Pa.out Oa.out
          clear HBX L9 E9 P9 D9 O9 B9
          by_cases h120 : 120 < T.b
          · rw [HE6.out.1 h120] at hch
            have HCH := Lib.hid hch
            have d1 : decide (T.b > 120) = true := by simpa using h120
            clear hch
            go_wp2_with fail
            refine (HCH.out).mono ?_
            rintro e wb ⟨AC, nC, cC, rfl, hoC, hbb⟩
            go_wp2
            go_ret
            exact ⟨rfl, Ba.out.trans (hbb.mono sa)⟩
          rw [HE6.out.2 (by omega)] at hch
          obtain ⟨N, hN⟩ := Int.eq_ofNat_of_zero_le hTb0
          have hN120 : N ≤ 120 := by omega
          have hfa := fun t i (hi : i < nW) => chK_iff (lo := fLo ps T.F) (hi := fHi T.F) (M := nW) (fun i j hij hj t h1 h2 h3 h4 => (HAP.out i j (by omega) hj (by omega) t).1 h1 h2 h3 h4) t nW i hi (Nat.le_refl _)
          have hfb := fun t i (hi : i < nW) => chK_iff (lo := sLo T.B) (hi := sHi ps T.B) (M := nW) (fun i j hij hj t h1 h2 h3 h4 => (HAP.out i j (by omega) hj (by omega) t).2 h1 h2 h3 h4) t nW i hi (Nat.le_refl _)
          have hrow : chL ps T nW = [strOfNums (rowF 0 N (chK (fLo ps T.F) (fHi T.F) nW)), strOfNums (rowF 0 N (chK (sLo T.B) (sHi ps T.B) nW))] := by unfold chL; rw [hN]; rfl
          have hbyte : ∀ (lo hi : Nat → Int) (n t : Nat), n ≤ 7 → 0 ≤ chK lo hi n t ∧ chK lo hi n t ≤ 255 := fun lo hi n t => by
            induction n with
            | zero => intro _; show (0 : Int) ≤ 46 ∧ (46 : Int) ≤ 255; omega
            | succ n ih =>
              intro hn
              by_cases hc : lo n ≤ (t : Int) ∧ (t : Int) < hi n
              · rw [chK_yes hc]; omega
              · rw [chK_no hc]; exact ih (by omega)
          have hat : ∀ (F : Nat → Int) (t : Nat), (∀ t, 0 ≤ F t ∧ F t ≤ 255) → (h : t < (strOfNums (rowF 0 N F)).size) → (((strOfNums (rowF 0 N F))[t]'h).toNat : Int) = F t := fun F t hF h => by
            rw [strOf_at (fun x hx => by
              obtain ⟨q, _, rfl⟩ := List.mem_map.1 hx
              exact hF _) h, rowF_at (by rw [strOfNums_size, rowF_len] at h; exact h), Nat.zero_add]
          have hat1 := fun t h => hat (chK (fLo ps T.F) (fHi T.F) nW) t (fun t => hbyte _ _ nW t (by omega)) h
          have hat2 := fun t h => hat (chK (sLo T.B) (sHi ps T.B) nW) t (fun t => hbyte _ _ nW t (by omega)) h
          have hz1 : (strOfNums (rowF 0 N (chK (fLo ps T.F) (fHi T.F) nW))).size = N := by rw [strOfNums_size, rowF_len]
          have hz2 : (strOfNums (rowF 0 N (chK (sLo T.B) (sHi ps T.B) nW))).size = N := by rw [strOfNums_size, rowF_len]
          rw [hrow] at hch
          have hfi := fun i (hi : i < nW) => HFIT.out i hi
          have hTbN : T.b = (N : Int) := hN
          generalize hS1 : strOfNums (rowF 0 N (chK (fLo ps T.F) (fHi T.F) nW)) = S1 at *
          generalize hS2 : strOfNums (rowF 0 N (chK (sLo T.B) (sHi ps T.B) nW)) = S2 at *
          generalize hG1 : chK (fLo ps T.F) (fHi T.F) nW = G1 at *
          generalize hG2 : chK (sLo T.B) (sHi ps T.B) nW = G2 at *
          have HCH := Lib.hid hch
          have HFA := Lib.hid hfa
          have HFB := Lib.hid hfb
          have HAT1 := Lib.hid hat1
          have HAT2 := Lib.hid hat2
          have HFI := Lib.hid hfi
          have HTN := Lib.hid hTbN
          have hs1 : ((S1.size : Int) != (N : Int)) = false := by rw [hz1]; simp
          have hs2 : ((S2.size : Int) != (N : Int)) = false := by rw [hz2]; simp
          rw [hN]
          clear hch hfa hfb hrow hbyte hat hat1 hat2 hfi hS1 hS2 hG1 hG2 hTbN
          go_wp2_with fail
          refine (HCH.out).mono ?_
          rintro e wb ⟨AC, nC, cC, rfl, hoC, hbb⟩
          obtain rfl : nC = 2 := (Rd.of_own hoC).tlen.symm
          have HC0 := Lib.hid (Rd.of_own hoC)
          have hCc := HC0.out.cap
          have hCm := HC0.out.max
          have Pb := Lib.hid (Pa.out.below hbb)
          have Bb := Lib.hid (Ba.out.trans (hbb.mono sa))
          have sb := Bb.out.size
          obtain ⟨gc, oc, t1, hCe, _, hx1, cC1⟩ := HC0.out.txt (show 0 < 2 by omega)
          obtain ⟨gc', oc', t2, hCe', _, hx2, cC2⟩ := HC0.out.txt (show 1 < 2 by omega)
          rw [hCe] at hCe'
          injection hCe' with hCe'
          injection hCe' with ea eb
          subst ea
          subst eb
          simp at hx1 hx2
          subst hx1
          subst hx2
          subst hCe
          rw [Nat.add_zero] at cC1
          have HC1 := Lib.hid cC1
          have HC2' := Lib.hid cC2
          clear hoC hbb HCH Pa Oa Ba HC0
          go_wp2
          go_loopw [26] (fun vi wr => ∃ i : Nat, i ≤ nW ∧ vi = .int .i64 i ∧ Hid (Below wb.heap.size wb wr)) (fun vi _ => nW - (intOf vi).toNat)
          case atStart => exact ⟨0, Nat.zero_le _, rfl, Lib.hid (Below.refl _ _)⟩
          case round =>
            obtain ⟨i, hi3, rfl, HBX⟩ := hrel
            obtain ⟨wc, rfl⟩ : ∃ w', w' = wr := ⟨_, rfl⟩
            by_cases hil : i < nW
            · have hi0 : (0 : Int) ≤ (i : Int) := by omega
              have hi1 : (i : Int) < (nW : Int) := by omega
              obtain ⟨bp, op, x, y, hPe, _, hx, cP0, cP1⟩ := (Pb.out.below HBX.out).pair hil
              have hjx := HJ.out i _ hx
              simp only at hjx
              have ft := HFI.out i hil
              have f0 := ft.f0
              have fb := ft.fb
              have fs := ft.s
              have fsb := ft.sb
              rw [pair_at hx] at fs
              rw [HTN.out] at fsb
              unfold fLo at f0
              rw [pair_at hx] at f0
              have k1 := cC1
              have k2 := cC2
              have d1 := cell_bel k1 HBX.out
              have d2 := cell_bel k2 HBX.out
              have hA := fun t => HFA.out t i hil
              have hB := fun t => HFB.out t i hil
              have hl1 : fLo ps T.F i = T.F.getD i 0 - x := by unfold fLo; rw [pair_at hx]
              have hl2 : sHi ps T.B i = T.B.getD i 0 + y := by unfold sHi; rw [pair_at hx]
              have hl3 : fHi T.F i = T.F.getD i 0 := rfl
              have hl4 : sLo T.B i = T.B.getD i 0 := rfl
              rw [hl1, hl3] at hA
              rw [hl2, hl4] at hB
              simp only at f0 fs
              generalize T.F.getD i 0 = f at *
              generalize T.B.getD i 0 = bg at *
              have hn1 : cntK (f - x) f N = x := by rw [cntK_all f0 (by omega) (by omega)]; omega
              have hn2 : cntK bg (bg + y) N = y := by rw [cntK_all (by omega) (by omega) (by omega)]; omega
              have hcb : ∀ (lo hi : Int) (t : Nat), 0 ≤ cntK lo hi t ∧ cntK lo hi t ≤ t := fun lo hi t => by
                induction t with
                | zero => show (0 : Int) ≤ 0 ∧ (0 : Int) ≤ _; omega
                | succ t ih =>
                  unfold cntK
                  split <;> omega
              injection hPe with hPe
              injection hPe with pa1 pa2
              subst pa1
              subst pa2
              rw [Nat.zero_add] at cP0 cP1
              have HA := Lib.hid hA
              have HBB := Lib.hid hB
              have HCB := Lib.hid hcb
              have HN1 := Lib.hid hn1
              have HN2 := Lib.hid hn2
              have z1 : cntK (f - x) f 0 = 0 := rfl
              have z2 : cntK bg (bg + y) 0 = 0 := rfl
              clear hx ft f0 fb fs fsb hA hB hl1 hl2 hl3 hl4 hcb hn1 hn2 k1 k2
              go_wp2
              go_loopw [27, 28, 29] (fun vn vm vt wr => ∃ t : Nat, t ≤ N ∧ vt = .int .i64 t ∧ vn = .int .i64 (cntK (f - x) f t) ∧ vm = .int .i64 (cntK bg (bg + y) t) ∧ wc = wr) (fun _ _ vt _ => N - (intOf vt).toNat)
              case atStart => exact ⟨0, Nat.zero_le _, rfl, by rw [z1], by rw [z2], rfl⟩
              case round =>
                clear z1 z2
                obtain ⟨t, ht, rfl, rfl, rfl, hwe⟩ := hrel
                subst hwe
                by_cases htN : t < N
                · have ht0 : (0 : Int) ≤ (t : Int) := by omega
                  have ht1 : (t : Int) < (N : Int) := by omega
                  have ht2 : (t : Int) < (S1.size : Int) := by omega
                  have ht3 : (t : Int) < (S2.size : Int) := by omega
                  have g1 := HAT1.out t (by omega)
                  have g2 := HAT2.out t (by omega)
                  have hA := HA.out t
                  have hB := HBB.out t
                  have b1 := HCB.out (f - x) f t
                  have b2 := HCB.out bg (bg + y) t
                  have st1 : cntK (f - x) f (t + 1) = if f - x ≤ (t : Int) ∧ (t : Int) < f then cntK (f - x) f t + 1 else cntK (f - x) f t := rfl
                  have st2 : cntK bg (bg + y) (t + 1) = if bg ≤ (t : Int) ∧ (t : Int) < bg + y then cntK bg (bg + y) t + 1 else cntK bg (bg + y) t := rfl
                  generalize cntK (f - x) f t = n1 at *
                  generalize cntK bg (bg + y) t = n2 at *
                  by_cases hI1 : f - x ≤ (t : Int) ∧ (t : Int) < f
                  · have r1 : ((((S1[t]'(by omega)).toNat : Int)) == 97 + (i : Int)) = true := by rw [g1, hA.2 hI1]; simp
                    rw [if_pos hI1] at st1
                    by_cases hI2 : bg ≤ (t : Int) ∧ (t : Int) < bg + y
                    · have r2 : ((((S2[t]'(by omega)).toNat : Int)) == 97 + (i : Int)) = true := by rw [g2, hB.2 hI2]; simp
                      rw [if_pos hI2] at st2
                      have ST1 := Lib.hid st1
                      have ST2 := Lib.hid st2
                      clear hI1 hI2 hA hB g1 g2 st1 st2
                      go_wp2
                      go_roundw
                      case rel => exact ⟨t + 1, by omega, by go_num, by rw [ST1.out], by rw [ST2.out], by trivial⟩
                      case measure => simp [intOf]; omega
                    · have r2 : ((((S2[t]'(by omega)).toNat : Int)) == 97 + (i : Int)) = false := by rw [g2]; simpa using fun h => hI2 (hB.1 h)
                      rw [if_neg hI2] at st2
                      have ST1 := Lib.hid st1
                      have ST2 := Lib.hid st2
                      clear hI1 hI2 hA hB g1 g2 st1 st2
                      go_wp2
                      go_roundw
                      case rel => exact ⟨t + 1, by omega, by go_num, by rw [ST1.out], by rw [ST2.out], by trivial⟩
                      case measure => simp [intOf]; omega
                  · have r1 : ((((S1[t]'(by omega)).toNat : Int)) == 97 + (i : Int)) = false := by rw [g1]; simpa using fun h => hI1 (hA.1 h)
                    rw [if_neg hI1] at st1
                    by_cases hI2 : bg ≤ (t : Int) ∧ (t : Int) < bg + y
                    · have r2 : ((((S2[t]'(by omega)).toNat : Int)) == 97 + (i : Int)) = true := by rw [g2, hB.2 hI2]; simp
                      rw [if_pos hI2] at st2
                      have ST1 := Lib.hid st1
                      have ST2 := Lib.hid st2
                      clear hI1 hI2 hA hB g1 g2 st1 st2
                      go_wp2
                      go_roundw
                      case rel => exact ⟨t + 1, by omega, by go_num, by rw [ST1.out], by rw [ST2.out], by trivial⟩
                      case measure => simp [intOf]; omega
                    · have r2 : ((((S2[t]'(by omega)).toNat : Int)) == 97 + (i : Int)) = false := by rw [g2]; simpa using fun h => hI2 (hB.1 h)
                      rw [if_neg hI2] at st2
                      have ST1 := Lib.hid st1
                      have ST2 := Lib.hid st2
                      clear hI1 hI2 hA hB g1 g2 st1 st2
                      go_wp2
                      go_roundw
                      case rel => exact ⟨t + 1, by omega, by go_num, by rw [ST1.out], by rw [ST2.out], by trivial⟩
                      case measure => simp [intOf]; omega
                · have htN2 : t = N := by omega
                  subst htN2
                  rw [HN1.out, HN2.out]
                  have x1 : (x != x) = false := by simp
                  have x2 : (y != y) = false := by simp
                  go_wp2
                  go_roundw
                  case rel => exact ⟨i + 1, by omega, by go_num, HBX⟩
                  case measure => simp [intOf]; omega
            · go_wp2
              go_ret
              exact ⟨rfl, Bb.out.trans (HBX.out.mono sb)⟩
end Go.Proofs.Ytfjmohnlllbgmaa
