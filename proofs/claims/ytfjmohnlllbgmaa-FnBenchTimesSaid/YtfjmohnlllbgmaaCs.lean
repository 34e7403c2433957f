/- ChartLines: the reference. Printed by mkch.py. -/
import Derived.Test.YtfjmohnlllbgmaaCh
namespace Go.Proofs.Ytfjmohnlllbgmaa
open Go.RowKit Go.Shelf

theorem info_strS : (Try.prog.info? 9).map (fun i => (i.zero, i.size, i.bytes)) = some (some (.string ByteArray.empty), 1, 16) := by kernel_rfl
theorem pair_at {ps : List (Int × Int)} {k : Nat} {x y : Int} (h : ps[k]? = some (x, y)) : ps.getD k (0, 0) = (x, y) := by simp [List.getD, h]
set_option maxRecDepth 100000 in
set_option maxHeartbeats 4000000 in
theorem specChart_any (A : Option Addr) (n c : Nat) (ps : List (Int × Int)) (B : Option Addr) (m d : Nat) (os : List Int) (w : World) (h : Rd w 2 A n c (pr ps)) (hB : Rd w 1 B m d (ints os)) :
    Calls Try.prog 51 #[.slice A n c, .slice B m d] w (StrPost w (chZ ps os).1 (chZ ps os).2) := by
  have hcode := l14Code_any A n c ps B m d os w h hB
  by_cases hz : ¬ codeJ ps os = 0
  · rw [chZ_n hz]
    simp only
    have hne : (codeJ ps os != 0) = true := by simpa using hz
    have HC := Lib.hid hcode
    generalize codeJ ps os = F at *
    clear hcode h hB hz
    go_enter Try.func51, Try.ntmps51
    go_wp2_with fail
    refine (HC.out).mono ?_
    rintro e w1 ⟨rfl, hb⟩
    go_wp2_with fail
    go_ret2
    exact strPost_nil hb
  have hz : codeJ ps os = 0 := Decidable.not_not.mp hz
  obtain ⟨i8, gi, gz0, gz1, gz2⟩ := info_parts info_u8
  have hl := h.plen
  have hl' := hB.ilen
  obtain ⟨hj, hp⟩ := codeJ_ok hz
  obtain ⟨hon, hin⟩ := perm_in hp
  have hn7 := hj.len
  have hmn : m = n := by omega
  subst hmn
  have hm7 : m ≤ 7 := by omega
  have a1 := h.cap
  have a2 := h.max
  have a3 := hB.cap
  have a4 := hB.max
  have hin2 : ∀ (j : Nat) (i : Int), os[j]? = some i → 0 ≤ i ∧ i < (m : Nat) := fun j i hx => by have := hin j i hx; omega
  have htm := fun W (hb : Below w.heap.size w W) => l14Times_any A m c ps B m d os W (h.below hb) (hB.below hb) hj hm7 hin2
  have htb := timB_all hj (fun j i hx => hin j i hx) m (by omega)
  have hp' : os.Perm (upto m) := hl ▸ hp
  have hfit := fun i (hi : i < m) => tim_fits hj hl hp' hi
  clear hp'
  rw [hz] at hcode
  have hjob := hj.job
  have HC := Lib.hid hcode
  have h120 : ∀ T : Tim, timK ps os m = T → (120 < T.b → chZ ps os = ([], 5)) ∧ (¬ 120 < T.b → chZ ps os = (chL ps T m, 0)) := fun T hT => by
    subst hT
    refine ⟨fun h => ?_, fun h => ?_⟩
    · rw [chZ_5 hz (by rw [hl']; exact h)]
    · rw [chZ_0 hz (by rw [hl']; exact h), hl', hl]
  generalize hT : timK ps os m = T at *
  obtain ⟨hq5, hq0⟩ := h120 T rfl
  have hTb0 := htb.b0
  rw [hl] at htb
  have hTF := htb.fl
  have hTB := htb.bl
  have HTM := Lib.hid htm
  by_cases hb120 : 120 < T.b
  · rw [hq5 hb120]
    simp only
    have hd : decide (T.b > 120) = true := by simpa using hb120
    clear hcode h hB hz hl hl' hj hp hon hin hn7 htm htb hfit hjob h120 hT hq5 hq0 hTF hTB hin2
    go_enter Try.func51, Try.ntmps51
    go_wp2_with fail
    refine (HC.out).mono ?_
    rintro e w1 ⟨rfl, hb1⟩
    go_wp2_with fail
    refine (HTM.out _ hb1).mono ?_
    rintro e w2 ⟨g1, g2, rfl, _, _, _, hb2⟩
    go_wp2_with fail
    go_ret2
    exact strPost_nil (hb1.trans (hb2.mono hb1.size))
  rw [hq0 hb120]
  simp only
  have hd : decide (T.b > 120) = false := by simpa using hb120
  obtain ⟨N, hN⟩ := Int.eq_ofNat_of_zero_le hTb0
  have hN120 : N ≤ 120 := by omega
  have hrow : chL ps T m = [strOfNums (rowF 0 N (chK (fLo ps T.F) (fHi T.F) m)), strOfNums (rowF 0 N (chK (sLo T.B) (sHi ps T.B) m))] := by unfold chL; rw [hN]; rfl
  rw [hrow]
  have hfb : ∀ i : Nat, i < m → 0 ≤ T.F.getD i 0 ∧ T.F.getD i 0 ≤ 7000 := fun i hi => by
    have := htb.fb i _ (getD_of (by rw [hTF]; exact hi)); omega
  have hbb : ∀ i : Nat, i < m → 0 ≤ T.B.getD i 0 ∧ T.B.getD i 0 ≤ 14000 := fun i hi => by
    have := htb.bb i _ (getD_of (by rw [hTB]; exact hi)); omega
  have HFB := Lib.hid hfb
  have HBB := Lib.hid hbb
  have HTF := Lib.hid hTF
  have HTB := Lib.hid hTB
  have HA := Lib.hid h
  have HJ := Lib.hid hjob
  have hTF2 := fun (i : Nat) (x y : Int) (hx : ps[i]? = some (x, y)) (t : Nat) => (show (fLo ps T.F i = T.F.getD i 0 - x ∧ fHi T.F i = T.F.getD i 0 ∧ sLo T.B i = T.B.getD i 0 ∧ sHi ps T.B i = T.B.getD i 0 + y) from by unfold fLo fHi sLo sHi; rw [pair_at hx]; exact ⟨rfl, rfl, rfl, rfl⟩)
  have HLH := Lib.hid hTF2
  generalize hFA : chK (fLo ps T.F) (fHi T.F) = FA at *
  generalize hFB : chK (sLo T.B) (sHi ps T.B) = FB at *
  have hA0 : ∀ t, FA 0 t = 46 := fun t => by rw [← hFA]; rfl
  have hB0 : ∀ t, FB 0 t = 46 := fun t => by rw [← hFB]; rfl
  have hAS : ∀ (i t : Nat), (fLo ps T.F i ≤ (t : Int) ∧ (t : Int) < fHi T.F i → FA (i + 1) t = 97 + (i : Int)) ∧ (¬ (fLo ps T.F i ≤ (t : Int) ∧ (t : Int) < fHi T.F i) → FA (i + 1) t = FA i t) := fun i t => by rw [← hFA]; exact ⟨fun h => chK_yes h, fun h => chK_no h⟩
  have hBS : ∀ (i t : Nat), (sLo T.B i ≤ (t : Int) ∧ (t : Int) < sHi ps T.B i → FB (i + 1) t = 97 + (i : Int)) ∧ (¬ (sLo T.B i ≤ (t : Int) ∧ (t : Int) < sHi ps T.B i) → FB (i + 1) t = FB i t) := fun i t => by rw [← hFB]; exact ⟨fun h => chK_yes h, fun h => chK_no h⟩
  have HAS := Lib.hid hAS
  have HBS := Lib.hid hBS
  have HA0 := Lib.hid hA0
  have HB0 := Lib.hid hB0
  rw [hN] at hd HTM
  have hNI : ¬ (N : Int) > 120 := by omega
  clear hcode h hB hz hl hl' hj hp hon hin hn7 htm htb hfit hjob h120 hT hq5 hq0 hTF hTB hin2 hrow hfb hbb hTF2 hFA hFB hA0 hB0 hAS hBS hN hTb0 hb120
  go_enter Try.func51, Try.ntmps51
  go_wp2_with fail
  refine (HC.out).mono ?_
  rintro e w1 ⟨rfl, hb1⟩
  go_wp2_with fail
  refine (HTM.out _ hb1).mono ?_
  rintro e w3 ⟨g1, g2, rfl, hne, o1, o2, hb2⟩
  have hb3 := hb1.trans (hb2.mono hb1.size)
  have hs3 := hb3.size
  have hz1 : (w3.alloc (.cells #[] 5)).heap.size = w3.heap.size + 1 := by simp
  have ha : Below w3.heap.size w3 ((w3.alloc (.cells #[] 5)).alloc (.cells #[] 5)) := ((Below.refl _ _).alloc (Nat.le_refl _) _).alloc (by simp) _
  have hoA := own_below (show (w3.alloc (.cells #[] 5)).ownsRow w3.heap.size 5 1 (.slice (some ⟨w3.heap.size, 0, none⟩) 0 0) 0 (bys (rowF 0 0 (FA m))) from World.ownsRow_made w3 #[] 0 (Nat.le_refl _) (by unfold maxLen; omega) rfl) ((Below.refl _ _).alloc (Nat.le_refl _) (.cells #[] 5))
  have hoB : ((w3.alloc (.cells #[] 5)).alloc (.cells #[] 5)).ownsRow w3.heap.size 5 1 (.slice (some ⟨w3.heap.size + 1, 0, none⟩) 0 0) 0 (bys (rowF 0 0 (FB m))) := by
    have := World.ownsRow_made (base := w3.heap.size) (e := 5) (size := 1) (w3.alloc (.cells #[] 5)) #[] 0 (by simp) (by unfold maxLen; omega) rfl
    rw [hz1] at this
    exact this
  have O1 := Lib.hid o1
  have O2 := Lib.hid o2
  have HB3 := Lib.hid hb3
  have HOA := Lib.hid hoA
  have HOB := Lib.hid hoB
  have HBL := Lib.hid ha
  clear hb1 hb2 hb3 o1 o2 hz1 ha hoA hoB hne
  go_wp2
  go_loopw [10, 11, 12] (fun va vb vt wr => ∃ (t p1 q1 p2 q2 : Nat), t ≤ N ∧ vt = .int .i64 t ∧ va = .slice (some ⟨p1, 0, none⟩) t q1 ∧ vb = .slice (some ⟨p2, 0, none⟩) t q2 ∧ p1 ≠ p2 ∧ Hid (wr.ownsRow w3.heap.size 5 1 (.slice (some ⟨p1, 0, none⟩) t q1) t (bys (rowF 0 t (FA m)))) ∧ Hid (wr.ownsRow w3.heap.size 5 1 (.slice (some ⟨p2, 0, none⟩) t q2) t (bys (rowF 0 t (FB m)))) ∧ Hid (Below w3.heap.size w3 wr)) (fun _ _ vt _ => N - (intOf vt).toNat)
  case atStart => exact ⟨0, _, _, _, _, Nat.zero_le _, rfl, rfl, rfl, by omega, HOA, HOB, HBL⟩
  case round =>
    clear HOA HOB HBL
    obtain ⟨t, p1, q1, p2, q2, ht, rfl, rfl, rfl, hpp, HOA, HOB, HBL⟩ := hrel
    obtain ⟨w5, rfl⟩ : ∃ w', w' = wr := ⟨_, rfl⟩
    have hc1 := (Rd.of_own HOA.out).cap
    have hm1 := (Rd.of_own HOA.out).max
    have hc2 := (Rd.of_own HOB.out).cap
    have hm2 := (Rd.of_own HOB.out).max
    have hp1 := own_block HOA.out p1 rfl
    have hp2 := own_block HOB.out p2 rfl
    have s5 := HBL.out.size
    by_cases hlt : t < N
    · have ht0 : (0 : Int) ≤ (t : Int) := by omega
      have ht1 : (t : Int) < (N : Int) := by omega
      have hA00 := HA0.out t
      have hB00 := HB0.out t
      go_wp2
      go_loopw [13, 14, 15] (fun va vb vi wr => ∃ i : Nat, i ≤ m ∧ vi = .int .i64 i ∧ va = .int .u8 (FA i t) ∧ vb = .int .u8 (FB i t) ∧ Hid (Below w5.heap.size w5 wr)) (fun _ _ vi _ => m - (intOf vi).toNat)
      case atStart => exact ⟨0, Nat.zero_le _, rfl, by rw [hA00], by rw [hB00], Lib.hid (Below.refl _ _)⟩
      case round =>
        clear hA00 hB00
        obtain ⟨i, him, rfl, rfl, rfl, HBI⟩ := hrel
        obtain ⟨w6, rfl⟩ : ∃ w', w' = wr := ⟨_, rfl⟩
        have s6 := HBI.out.size
        by_cases hil : i < m
        · have hi0 : (0 : Int) ≤ (i : Int) := by omega
          have hi1 : (i : Int) < (m : Int) := by omega
          have hcb := HB3.out.trans ((HBL.out.trans (HBI.out.mono s5)).mono hs3)
          obtain ⟨b, o, x, y, hAe, hbl, hx, c0, c1⟩ := (HA.out.below hcb).pair hil
          have hpj := HJ.out i _ hx
          obtain ⟨e1, e2, e3, e4⟩ := HLH.out i x y hx t
          have hasy := HAS.out i t
          have hbsy := HBS.out i t
          rw [e1, e2] at hasy
          rw [e3, e4] at hbsy
          have f1 := own_int (own_below (own_below O1.out HBL.out) HBI.out) (i := i) (by omega) HTF.out
          have f2 := own_int (own_below (own_below O2.out HBL.out) HBI.out) (i := i) (by omega) HTB.out
          have hfb := HFB.out i hil
          have hbb := HBB.out i hil
          generalize T.F.getD i 0 = f at *
          generalize T.B.getD i 0 = bg at *
          subst hAe
          simp only at hpj
          have hw1 := fun W => l00In_any (t : Int) (f - x) (f - 1) W
          have hw2 := fun W => l00In_any (t : Int) bg (bg + y - 1) W
          have k1 : inB (t : Int) (f - x) (f - 1) = decide (f - x ≤ (t : Int) ∧ (t : Int) < f) := by
            cases hz : inB (t : Int) (f - x) (f - 1) with
            | true => have := inB_true hz; exact (decide_eq_true (by omega)).symm
            | false =>
              refine (decide_eq_false fun hh => ?_).symm
              rw [inB_mk (by omega) (by omega)] at hz
              cases hz
          have k2 : inB (t : Int) bg (bg + y - 1) = decide (bg ≤ (t : Int) ∧ (t : Int) < bg + y) := by
            cases hz : inB (t : Int) bg (bg + y - 1) with
            | true => have := inB_true hz; exact (decide_eq_true (by omega)).symm
            | false =>
              refine (decide_eq_false fun hh => ?_).symm
              rw [inB_mk (by omega) (by omega)] at hz
              cases hz
          rw [k1] at hw1
          rw [k2] at hw2
          have HCB := Lib.hid hcb
          clear k1 k2 hx e1 e2 e3 e4 hcb
          by_cases hI1 : f - x ≤ (t : Int) ∧ (t : Int) < f
          · rw [decide_eq_true hI1] at hw1
            have hAn := hasy.1 hI1
            by_cases hI2 : bg ≤ (t : Int) ∧ (t : Int) < bg + y
            · rw [decide_eq_true hI2] at hw2
              have hBn := hbsy.1 hI2
              have HW1 := Lib.hid hw1
              have HW2 := Lib.hid hw2
              have HAN := Lib.hid hAn
              have HBN := Lib.hid hBn
              clear hw1 hw2 hAn hBn hasy hbsy hI1 hI2
              go_wp2
              go_quiet ((go_at_call 79; refine Calls.quiet_of_same ((HW1.out _).mono fun _ _ h => ⟨h.1, h.2.symm⟩)))
              have d0 := cell_bel c0 (below_drewN (Below.refl w6.heap.size w6) nq)
              have d1 := cell_bel c1 (below_drewN (Below.refl w6.heap.size w6) nq)
              have d2 := cell_bel f2 (below_drewN (Below.refl w6.heap.size w6) nq)
              have HBQ := Lib.hid (below_drewN HBI.out nq)
              generalize w6.drewN nq = w6b at *
              clear c0 c1 f1 f2
              go_wp2
              go_quiet ((go_at_call 79; refine Calls.quiet_of_same ((HW2.out _).mono fun _ _ h => ⟨h.1, h.2.symm⟩)))
              have HBR := Lib.hid (below_drewN HBQ.out nq)
              go_wp2
              go_roundw
              case rel => exact ⟨i + 1, by omega, by go_num, by rw [HAN.out], by rw [HBN.out], HBR⟩
              case measure => simp [intOf]; omega
            · rw [decide_eq_false hI2] at hw2
              have hBn := hbsy.2 hI2
              have HW1 := Lib.hid hw1
              have HW2 := Lib.hid hw2
              have HAN := Lib.hid hAn
              have HBN := Lib.hid hBn
              clear hw1 hw2 hAn hBn hasy hbsy hI1 hI2
              go_wp2
              go_quiet ((go_at_call 79; refine Calls.quiet_of_same ((HW1.out _).mono fun _ _ h => ⟨h.1, h.2.symm⟩)))
              have d0 := cell_bel c0 (below_drewN (Below.refl w6.heap.size w6) nq)
              have d1 := cell_bel c1 (below_drewN (Below.refl w6.heap.size w6) nq)
              have d2 := cell_bel f2 (below_drewN (Below.refl w6.heap.size w6) nq)
              have HBQ := Lib.hid (below_drewN HBI.out nq)
              generalize w6.drewN nq = w6b at *
              clear c0 c1 f1 f2
              go_wp2
              go_quiet ((go_at_call 79; refine Calls.quiet_of_same ((HW2.out _).mono fun _ _ h => ⟨h.1, h.2.symm⟩)))
              have HBR := Lib.hid (below_drewN HBQ.out nq)
              go_wp2
              go_roundw
              case rel => exact ⟨i + 1, by omega, by go_num, by rw [HAN.out], by rw [HBN.out], HBR⟩
              case measure => simp [intOf]; omega
          · rw [decide_eq_false hI1] at hw1
            have hAn := hasy.2 hI1
            by_cases hI2 : bg ≤ (t : Int) ∧ (t : Int) < bg + y
            · rw [decide_eq_true hI2] at hw2
              have hBn := hbsy.1 hI2
              have HW1 := Lib.hid hw1
              have HW2 := Lib.hid hw2
              have HAN := Lib.hid hAn
              have HBN := Lib.hid hBn
              clear hw1 hw2 hAn hBn hasy hbsy hI1 hI2
              go_wp2
              go_quiet ((go_at_call 79; refine Calls.quiet_of_same ((HW1.out _).mono fun _ _ h => ⟨h.1, h.2.symm⟩)))
              have d0 := cell_bel c0 (below_drewN (Below.refl w6.heap.size w6) nq)
              have d1 := cell_bel c1 (below_drewN (Below.refl w6.heap.size w6) nq)
              have d2 := cell_bel f2 (below_drewN (Below.refl w6.heap.size w6) nq)
              have HBQ := Lib.hid (below_drewN HBI.out nq)
              generalize w6.drewN nq = w6b at *
              clear c0 c1 f1 f2
              go_wp2
              go_quiet ((go_at_call 79; refine Calls.quiet_of_same ((HW2.out _).mono fun _ _ h => ⟨h.1, h.2.symm⟩)))
              have HBR := Lib.hid (below_drewN HBQ.out nq)
              go_wp2
              go_roundw
              case rel => exact ⟨i + 1, by omega, by go_num, by rw [HAN.out], by rw [HBN.out], HBR⟩
              case measure => simp [intOf]; omega
            · rw [decide_eq_false hI2] at hw2
              have hBn := hbsy.2 hI2
              have HW1 := Lib.hid hw1
              have HW2 := Lib.hid hw2
              have HAN := Lib.hid hAn
              have HBN := Lib.hid hBn
              clear hw1 hw2 hAn hBn hasy hbsy hI1 hI2
              go_wp2
              go_quiet ((go_at_call 79; refine Calls.quiet_of_same ((HW1.out _).mono fun _ _ h => ⟨h.1, h.2.symm⟩)))
              have d0 := cell_bel c0 (below_drewN (Below.refl w6.heap.size w6) nq)
              have d1 := cell_bel c1 (below_drewN (Below.refl w6.heap.size w6) nq)
              have d2 := cell_bel f2 (below_drewN (Below.refl w6.heap.size w6) nq)
              have HBQ := Lib.hid (below_drewN HBI.out nq)
              generalize w6.drewN nq = w6b at *
              clear c0 c1 f1 f2
              go_wp2
              go_quiet ((go_at_call 79; refine Calls.quiet_of_same ((HW2.out _).mono fun _ _ h => ⟨h.1, h.2.symm⟩)))
              have HBR := Lib.hid (below_drewN HBQ.out nq)
              go_wp2
              go_roundw
              case rel => exact ⟨i + 1, by omega, by go_num, by rw [HAN.out], by rw [HBN.out], HBR⟩
              case measure => simp [intOf]; omega
        · have hi : i = m := by omega
          subst hi
          have hgA := own_below HOA.out HBI.out
          have hgB := own_below HOB.out HBI.out
          have HGA := Lib.hid hgA
          have HGB := Lib.hid hgB
          have HB6 := Lib.hid (HBL.out.trans (HBI.out.mono s5))
          have s36 := HB6.out.size
          have nA : bys (rowF 0 t (FA i)) ++ [.int .u8 (FA i t)] = bys (rowF 0 (t + 1) (FA i)) := by rw [bys_snoc, rowF_snoc]
          have nB : bys (rowF 0 t (FB i)) ++ [.int .u8 (FB i t)] = bys (rowF 0 (t + 1) (FB i)) := by rw [bys_snoc, rowF_snoc]
          have NA := Lib.hid nA
          have NB := Lib.hid nB
          generalize hxa : FA i t = xa at *
          generalize hxb : FB i t = xb at *
          clear hgA hgB nA nB hxa hxb HOA HOB HBL HBI
          go_upto_region 22 with (at_builtin; refine wpList_append_own_at _ rfl (.tmp 84) (.tmp 86) 31 rfl w3.heap.size 5 i8 (.int .u8 0) 1 1 Try.underlying31 gi gz0 gz1 gz2 rfl (by decide) (Value.slice (some ⟨p1, 0, none⟩) t q1) _ _ rfl (HGA.out.alloc _) ⟨_, 0, none⟩ 1 1 [.int .u8 xa] rfl rfl (cell_one_new _ _ _) (by intro u hu; simp at hu; subst hu; rfl) (by unfold maxLen; omega) (by omega) (by simp; omega) ?_; intro v' w7 hown' hga hdel hblk; clear hdel)
          obtain ⟨r1, u1, hv, hr1, _⟩ := own_form hown' (by omega)
          subst hv
          have al1 : Below w6.heap.size w6 (w6.alloc (.cells #[.int .u8 xa] 5)) := (Below.refl _ _).alloc (Nat.le_refl _) _
          have oB7 := own_other (g' := p1) (own_below HGB.out al1) hga (fun e => hpp e.symm)
          have b7 : Below w3.heap.size w3 w7 := (HB6.out.trans (al1.mono s36)).grown hga (by simp; omega) (fun j hj => by simp [Value.ownBlock] at hj; omega)
          have hr1p : r1 ≠ p2 := by
            have := hp2.2
            rcases hblk with e | e
            · simp [Value.ownBlock] at e; omega
            · simp [Value.ownBlock] at e; omega
          rw [NA.out] at hown'
          have HGA7 := Lib.hid hown'
          have HGB7 := Lib.hid oB7
          have HB7 := Lib.hid b7
          have s7 := b7.size
          clear hown' hga hblk al1 oB7 b7 HGA HGB HB6
          go_wp2_with (at_builtin; refine wpList_append_own_at _ rfl (.tmp 88) (.tmp 90) 31 rfl w3.heap.size 5 i8 (.int .u8 0) 1 1 Try.underlying31 gi gz0 gz1 gz2 rfl (by decide) (Value.slice (some ⟨p2, 0, none⟩) t q2) _ _ rfl (HGB7.out.alloc _) ⟨_, 0, none⟩ 1 1 [.int .u8 xb] rfl rfl (cell_one_new _ _ _) (by intro u hu; simp at hu; subst hu; rfl) (by unfold maxLen; omega) (by omega) (by simp; omega) ?_; intro v' w8 hown' hga hdel hblk; clear hdel)
          obtain ⟨r2, u2, hv, hr2, _⟩ := own_form hown' (by omega)
          subst hv
          have al1 : Below w7.heap.size w7 (w7.alloc (.cells #[.int .u8 xb] 5)) := (Below.refl _ _).alloc (Nat.le_refl _) _
          have hr1l := (own_block HGA7.out r1 rfl).2
          have oA8 := own_other (g' := p2) (own_below HGA7.out al1) hga hr1p
          have b8 : Below w3.heap.size w3 w8 := (HB7.out.trans (al1.mono s7)).grown hga (by simp; omega) (fun j hj => by simp [Value.ownBlock] at hj; omega)
          have hr12 : r1 ≠ r2 := by
            rcases hblk with e | e
            · simp [Value.ownBlock] at e; omega
            · simp [Value.ownBlock] at e; omega
          rw [NB.out] at hown'
          have HGA8 := Lib.hid oA8
          have HGB8 := Lib.hid hown'
          have HB8 := Lib.hid b8
          clear hown' hga hblk al1 oA8 b8 HGA7 HGB7 HB7
          go_wp2
          go_roundw
          case rel => exact ⟨t + 1, r1, u1, r2, u2, by omega, by go_num, rfl, rfl, hr12, HGA8, HGB8, HB8⟩
          case measure => simp [intOf]; omega
    · have htn : t = N := by omega
      subst htn
      have hv1 := run_convert_bytes_arg (P := Try.prog) w5 31 5 Try.underlying31 Try.underlying5 p1 0 t q1 (rowF 0 t (FA m)) (rowF_len _ _ _) (own_bys HOA.out) 9 Try.underlying9
      have hv2 := run_convert_bytes_arg (P := Try.prog) w5 31 5 Try.underlying31 Try.underlying5 p2 0 t q2 (rowF 0 t (FB m)) (rowF_len _ _ _) (own_bys HOB.out) 9 Try.underlying9
      generalize strOfNums (rowF 0 t (FA m)) = S1 at *
      generalize strOfNums (rowF 0 t (FB m)) = S2 at *
      have hB5 := Lib.hid (HB3.out.trans (HBL.out.mono hs3))
      clear HOA HOB HBL
      go_wp2
      go_ret2
      refine ⟨_, _, _, rfl, ?_, hB5.out.alloc hB5.out.size _⟩
      exact World.ownsRow_lit (e := 9) (size := 1) w5 #[.string S1, .string S2] 2 hB5.out.size (by unfold maxLen; omega) rfl
end Go.Proofs.Ytfjmohnlllbgmaa
