/- GreatestPull, BestDirection (program and reference). -/
import Derived.Test.YtdkklkpegnblnaaLea5
namespace Go.Proofs.Ytdkklkpegnblnaa
open Go.RowKit

theorem great_end {g m k : Int} (hg : 0 ≤ g) (hk0 : 0 ≤ k) (hk1 : k ≤ 1000) (h : k = 1000 ∨ 40 * m < g * (k + 1)) (ht : ¬ 40 * m < g * k) :
    (if g = 0 then 1000 else minZ 1000 (40 * m / g)) = k := by
  by_cases h0 : g = 0
  · subst h0
    rw [if_pos rfl]
    rcases h with h | h
    · exact h.symm
    · simp at h ht; omega
  · rw [if_neg h0]
    have hp : 0 < g := by omega
    have h1 : k ≤ 40 * m / g := (Int.le_ediv_iff_mul_le hp).2 (by rw [Int.mul_comm k g]; omega)
    unfold minZ
    rcases h with h | h
    · subst h
      split <;> omega
    · have h2 : 40 * m / g < k + 1 := (Int.ediv_lt_iff_lt_mul hp).2 (by rw [Int.mul_comm (k + 1) g]; exact h)
      rw [if_neg (by omega)]
      omega

/-- The first direction with the least stretch in a range: n directions from d on; b the best so far, l its stretch, -1 if there is none. -/
def bestF (a c f low high : Int) : Nat → Int → Int → Int → Int × Int
  | 0, _, b, l => if l < 0 then (0, 3) else (b, 0)
  | n + 1, d, b, l =>
    if inB (stretchZ a c d f) (40 * low) (40 * high) = true ∧ (l < 0 ∨ stretchZ a c d f < l) then bestF a c f low high n (d + 1) d (stretchZ a c d f) else bestF a c f low high n (d + 1) b l
def bestZ (a c s m f low high : Int) : Int × Int :=
  if leatherB a c s m = false then (0, 1) else if (inB f 0 1000 && inB high 0 500 && inB low 0 high) = false then (0, 2) else bestF a c f low high 5 0 0 (-1)

set_option maxHeartbeats 2000000 in
theorem implGreatestPull_any (a c s m d : Int) (w : World) :
    Calls Try.prog 27 #[.agg #[.int .i64 a, .int .i64 c, .int .i64 s, .int .i64 m], .int .i64 d] w fun e w' => e = .returned (.tuple #[.int .i64 (greatZ a c s m d).1, .int .i64 (greatZ a c s m d).2]) ∧ Below w.heap.size w w' := by
  have B0 := Box.new w #[.int .i64 a, .int .i64 c, .int .i64 s, .int .i64 m] 25
  have b0 : Below w.heap.size w (w.alloc (.cells #[.int .i64 a, .int .i64 c, .int .i64 s, .int .i64 m] 25)) := (by go_grown)
  cases hl : leatherB a c s m with
  | false =>
    have hz : greatZ a c s m d = (0, 1) := by unfold greatZ; rw [if_pos hl]
    rw [hz]
    clear hz
    go_enter Try.func27, Try.ntmps27
    go_wp2_with fail
    refine (implValidLeather_any _ _ _ _ _).mono ?_
    rintro e w1 ⟨rfl, hb1⟩
    have b1 := b0.trans (hb1.mono b0.size)
    go_wp2_with fail
    go_ret2
    exact ⟨rfl, b1⟩
  | true =>
    have hk := lok hl
    cases hr : inB d 0 4 with
    | false =>
      have hz : greatZ a c s m d = (0, 2) := by unfold greatZ; rw [hl, if_neg (by simp), if_pos hr]
      rw [hz]
      clear hz
      go_enter Try.func27, Try.ntmps27
      go_wp2_with fail
      refine (implValidLeather_any _ _ _ _ _).mono ?_
      rintro e w1 ⟨rfl, hb1⟩
      have b1 := b0.trans (hb1.mono b0.size)
      go_wp2_with (go_at_call 64; refine (isDirection_any _ _).mono ?_; rintro e w' ⟨rfl, rfl⟩)
      go_ret2
      exact ⟨rfl, b1⟩
    | true =>
      have hd := inB_true hr
      have hg := (give_bd hk.a0 hk.a1 hk.c0 hk.c1 hd.1 hd.2).2.2
      have m0 := hk.m0
      have m1 := hk.m1
      have hz : greatZ a c s m d = (if giveZ a c d = 0 then 1000 else minZ 1000 (40 * m / giveZ a c d), 0) := by unfold greatZ; rw [hl, if_neg (by simp), hr, if_neg (by simp)]
      rw [hz]
      clear hz
      have hct := fun (f : Int) (h0 : 0 ≤ f) (h1 : f ≤ 1000) W => tears_any a c s m d f W hk hd.1 hd.2 h0 h1
      unfold tearsB stretchZ at hct
      generalize giveZ a c d = g at *
      have HT := Lib.hid hct
      clear hct hk
      obtain ⟨V, hV⟩ : ∃ V, (if g = 0 then 1000 else minZ 1000 (40 * m / g)) = V := ⟨_, rfl⟩
      rw [hV]
      have HV := Lib.hid hV
      clear hV
      go_enter Try.func27, Try.ntmps27
      go_wp2_with fail
      refine (implValidLeather_any _ _ _ _ _).mono ?_
      rintro e w1 ⟨rfl, hb1⟩
      have B1 := B0.below hb1
      have b1 := b0.trans (hb1.mono b0.size)
      clear hb1 B0 b0
      go_wp2_with (go_at_call 64; refine (isDirection_any _ _).mono ?_; rintro e w' ⟨rfl, rfl⟩)
      go_loopw [6] (fun ff wr => ∃ k : Int, 0 ≤ k ∧ k ≤ 1000 ∧ ff = .int .i64 k ∧ Hid (k = 1000 ∨ 40 * m < g * (k + 1)) ∧ Box wr w.heap.size #[.int .i64 a, .int .i64 c, .int .i64 s, .int .i64 m] ∧ Below w.heap.size w wr) (fun ff _ => (intOf ff).toNat)
      case atStart => exact ⟨1000, by omega, by omega, rfl, Or.inl rfl, B1, b1⟩
      case round =>
        obtain ⟨k, hk0, hk1, rfl, HP, hB, hb⟩ := hrel
        have cB := hB.cell
        by_cases hq : 40 * m < g * k
        · have hkp : 0 < k := by
            rcases Int.lt_or_le 0 k with h | h
            · exact h
            · have : k = 0 := by omega
              subst this
              simp at hq
              omega
          have htt : decide (40 * m < g * k) = true := by simpa using hq
          go_wp2_with fail
          refine (HT.out _ (by omega) (by omega) _).mono ?_
          rintro e w2 ⟨rfl, hb2⟩
          have B2 := hB.below hb2
          have b2 := hb.trans (hb2.mono hb.size)
          clear hb2 hB hb cB
          go_wp2_with fail
          go_roundw
          case rel => exact ⟨k - 1, by omega, by omega, rfl, (show _ ∨ _ from Or.inr (by rw [show k - 1 + 1 = k from by omega]; exact hq)), B2, b2⟩
          case measure => simp [intOf]; omega
        · have htt : decide (40 * m < g * k) = false := by simpa using hq
          have hfin := great_end hg.1 hk0 hk1 HP.out hq
          have HF := Lib.hid hfin
          clear hfin
          go_wp2_with fail
          refine (HT.out _ (by omega) (by omega) _).mono ?_
          rintro e w2 ⟨rfl, hb2⟩
          have b2 := hb.trans (hb2.mono hb.size)
          clear hb2 hB hb cB
          go_wp2_with fail
          go_ret2
          exact ⟨ret_ii (HF.out.symm.trans HV.out) rfl, b2⟩

set_option maxHeartbeats 2000000 in
theorem specGreatestPull_any (a c s m d : Int) (w : World) :
    Calls Try.prog 26 #[.agg #[.int .i64 a, .int .i64 c, .int .i64 s, .int .i64 m], .int .i64 d] w fun e w' => e = .returned (.tuple #[.int .i64 (greatZ a c s m d).1, .int .i64 (greatZ a c s m d).2]) ∧ Below w.heap.size w w' := by
  have B0 := Box.new w #[.int .i64 a, .int .i64 c, .int .i64 s, .int .i64 m] 25
  have b0 : Below w.heap.size w (w.alloc (.cells #[.int .i64 a, .int .i64 c, .int .i64 s, .int .i64 m] 25)) := (by go_grown)
  cases hl : leatherB a c s m with
  | false =>
    have hz : greatZ a c s m d = (0, 1) := by unfold greatZ; rw [if_pos hl]
    rw [hz]
    clear hz
    go_enter Try.func26, Try.ntmps26
    go_wp2_with fail
    refine (l12Ok_any _ _ _ _ _).mono ?_
    rintro e w1 ⟨rfl, hb1⟩
    have b1 := b0.trans (hb1.mono b0.size)
    go_wp2_with fail
    go_ret2
    exact ⟨rfl, b1⟩
  | true =>
    have hk := lok hl
    cases hr : inB d 0 4 with
    | false =>
      have hz : greatZ a c s m d = (0, 2) := by unfold greatZ; rw [hl, if_neg (by simp), if_pos hr]
      rw [hz]
      clear hz
      go_enter Try.func26, Try.ntmps26
      go_wp2_with fail
      refine (l12Ok_any _ _ _ _ _).mono ?_
      rintro e w1 ⟨rfl, hb1⟩
      have b1 := b0.trans (hb1.mono b0.size)
      go_wp2_with (go_at_call 61; refine (l12Direction_any _ _).mono ?_; rintro e w' ⟨rfl, rfl⟩)
      go_ret2
      exact ⟨rfl, b1⟩
    | true =>
      have hd := inB_true hr
      have hg := (give_bd hk.a0 hk.a1 hk.c0 hk.c1 hd.1 hd.2).2.2
      have m0 := hk.m0
      have m1 := hk.m1
      have hz : greatZ a c s m d = (if giveZ a c d = 0 then 1000 else minZ 1000 (40 * m / giveZ a c d), 0) := by unfold greatZ; rw [hl, if_neg (by simp), hr, if_neg (by simp)]
      rw [hz]
      clear hz
      have hcg := fun W => l12Give_any a c s m d W hk hd.1 hd.2
      generalize giveZ a c d = g at *
      have HG := Lib.hid hcg
      clear hcg hk
      by_cases h0 : g = 0
      · subst h0
        rw [if_pos rfl]
        go_enter Try.func26, Try.ntmps26
        go_wp2_with fail
        refine (l12Ok_any _ _ _ _ _).mono ?_
        rintro e w1 ⟨rfl, hb1⟩
        have B1 := B0.below hb1
        have b1 := b0.trans (hb1.mono b0.size)
        have c1 := B1.cell
        clear hb1 B0 b0
        go_wp2_with (first | (go_at_call 61; refine (l12Direction_any _ _).mono ?_; rintro e w' ⟨rfl, rfl⟩) | (go_at_call 62; refine (HG.out _).mono ?_; rintro e w2 ⟨rfl, hb2⟩))
        go_ret2
        exact ⟨rfl, b1.trans (hb2.mono b1.size)⟩
      · rw [if_neg h0]
        have hne : (g == 0) = false := by simpa using h0
        have hg1 : 1 ≤ g := by omega
        go_enter Try.func26, Try.ntmps26
        go_wp2_with fail
        refine (l12Ok_any _ _ _ _ _).mono ?_
        rintro e w1 ⟨rfl, hb1⟩
        have B1 := B0.below hb1
        have b1 := b0.trans (hb1.mono b0.size)
        have c1 := B1.cell
        clear hb1 B0 b0
        go_wp2_with (go_at_call 61; refine (l12Direction_any _ _).mono ?_; rintro e w' ⟨rfl, rfl⟩)
        refine (HG.out _).mono ?_
        rintro e w2 ⟨rfl, hb2⟩
        have B2 := B1.below hb2
        have b2 := b1.trans (hb2.mono b1.size)
        have c2 := B2.cell
        clear hb2 B1 b1 c1
        go_wp2_with fail
        refine (l00Min_any _ _ _).mono ?_
        rintro e w3 ⟨rfl, rfl⟩
        go_wp2_with fail
        go_ret2
        exact ⟨rfl, b2⟩

set_option maxHeartbeats 2000000 in
theorem implBestDirection_any (a c s m f low high : Int) (w : World) :
    Calls Try.prog 31 #[.agg #[.int .i64 a, .int .i64 c, .int .i64 s, .int .i64 m], .int .i64 f, .int .i64 low, .int .i64 high] w fun e w' => e = .returned (.tuple #[.int .i64 (bestZ a c s m f low high).1, .int .i64 (bestZ a c s m f low high).2]) ∧ Below w.heap.size w w' := by
  have B0 := Box.new w #[.int .i64 a, .int .i64 c, .int .i64 s, .int .i64 m] 25
  have b0 : Below w.heap.size w (w.alloc (.cells #[.int .i64 a, .int .i64 c, .int .i64 s, .int .i64 m] 25)) := (by go_grown)
  cases hl : leatherB a c s m with
  | false =>
    have hz : bestZ a c s m f low high = (0, 1) := by unfold bestZ; rw [if_pos hl]
    rw [hz]
    clear hz
    go_enter Try.func31, Try.ntmps31
    go_wp2_with fail
    refine (implValidLeather_any _ _ _ _ _).mono ?_
    rintro e w1 ⟨rfl, hb1⟩
    have b1 := b0.trans (hb1.mono b0.size)
    go_wp2_with fail
    go_ret2
    exact ⟨rfl, b1⟩
  | true =>
    have hk := lok hl
    cases hr : (inB f 0 1000 && inB high 0 500 && inB low 0 high) with
    | false =>
      have hz : bestZ a c s m f low high = (0, 2) := by unfold bestZ; rw [hl, if_neg (by simp), if_pos hr]
      rw [hz]
      clear hz
      go_enter Try.func31, Try.ntmps31
      go_wp2_with fail
      refine (implValidLeather_any _ _ _ _ _).mono ?_
      rintro e w1 ⟨rfl, hb1⟩
      have b1 := b0.trans (hb1.mono b0.size)
      cases h1 : inB f 0 1000 <;> cases h2 : inB high 0 500 <;> cases h3 : inB low 0 high <;> simp [h1, h2, h3] at hr
      all_goals
        go_wp2_with (first | (go_at_call 71; refine (isForce_any _ _).mono ?_; rintro e w' ⟨rfl, rfl⟩) | (go_at_call 53; refine (within_any _ _ _ _).mono ?_; rintro e w' ⟨rfl, rfl⟩))
        go_ret2
        exact ⟨rfl, b1⟩
    | true =>
      have hr' := hr
      simp only [Bool.and_eq_true] at hr'
      obtain ⟨⟨h1, h2⟩, h3⟩ := hr'
      obtain ⟨hf0, hf1⟩ := inB_true h1
      obtain ⟨hh0, hh1⟩ := inB_true h2
      obtain ⟨hw0, hw1⟩ := inB_true h3
      obtain ⟨R, hR⟩ : ∃ R, bestF a c f low high 5 0 0 (-1) = R := ⟨_, rfl⟩
      have hz : bestZ a c s m f low high = R := by unfold bestZ; rw [hl, if_neg (by simp), hr, if_neg (by simp), hR]
      rw [hz]
      have HR := Lib.hid hR
      clear hz hR hr
      go_enter Try.func31, Try.ntmps31
      go_wp2_with fail
      refine (implValidLeather_any _ _ _ _ _).mono ?_
      rintro e w1 ⟨rfl, hb1⟩
      have B1 := B0.below hb1
      have b1 := b0.trans (hb1.mono b0.size)
      clear hb1 B0 b0
      go_wp2_with (first | (go_at_call 71; refine (isForce_any _ _).mono ?_; rintro e w' ⟨rfl, rfl⟩) | (go_at_call 53; refine (within_any _ _ _ _).mono ?_; rintro e w' ⟨rfl, rfl⟩))
      have HK := Lib.hid hk
      clear hk
      go_loopw [10, 11, 12] (fun bb ll dd wr => ∃ (k : Nat) (b l : Int), k ≤ 5 ∧ dd = .int .i64 k ∧ bb = .int .i64 b ∧ ll = .int .i64 l ∧ -1 ≤ l ∧ l ≤ 400000 ∧ Hid (bestF a c f low high (5 - k) k b l = R) ∧ Box wr w.heap.size #[.int .i64 a, .int .i64 c, .int .i64 s, .int .i64 m] ∧ Below w.heap.size w wr) (fun _ _ dd _ => 5 - (intOf dd).toNat)
      case atStart => exact ⟨0, 0, -1, by omega, rfl, rfl, rfl, by omega, by omega, HR, B1, b1⟩
      case round =>
        obtain ⟨k, b, l, hk5, rfl, rfl, rfl, hlm, hlM, HP, hB, hb⟩ := hrel
        have cB := hB.cell
        have hk := HK.out
        by_cases hlt : k ≤ 4
        · obtain ⟨hs0, hs1⟩ := stretch_bd hk.a0 hk.a1 hk.c0 hk.c1 (d := (k : Int)) (by omega) (by omega) hf0 hf1
          have hP := HP.out
          rw [show 5 - k = (4 - k) + 1 from by omega] at hP
          unfold bestF at hP
          have hcs := fun W => stretch_any a c s m (k : Int) f W hk (by omega) (by omega) hf0 hf1
          generalize hx : stretchZ a c (k : Int) f = x at *
          have HS := Lib.hid hcs
          have HX := Lib.hid hx
          clear hcs hx
          by_cases hin : inB x (40 * low) (40 * high) = true
          · by_cases hl0 : l < 0
            · rw [if_pos ⟨hin, Or.inl hl0⟩] at hP
              have HP' := Lib.hid hP
              clear hP HP
              go_wp2_with fail
              refine (HS.out _).mono ?_
              rintro e w2 ⟨rfl, hb2⟩
              have B2 := hB.below hb2
              have b2 := hb.trans (hb2.mono hb.size)
              have c2 := B2.cell
              clear hb2 hB hb cB
              go_wp2_with (go_at_call 53; refine (within_any _ _ _ _).mono ?_; rintro e w' ⟨rfl, rfl⟩)
              go_roundw
              case rel => exact ⟨k + 1, k, x, by omega, by go_num, rfl, rfl, by omega, by omega, by rw [show 5 - (k + 1) = 4 - k from by omega]; exact HP'.out, B2, b2⟩
              case measure => simp [intOf]; omega
            · by_cases hxl : x < l
              · rw [if_pos ⟨hin, Or.inr hxl⟩] at hP
                have HP' := Lib.hid hP
                clear hP HP
                go_wp2_with fail
                refine (HS.out _).mono ?_
                rintro e w2 ⟨rfl, hb2⟩
                have B2 := hB.below hb2
                have b2 := hb.trans (hb2.mono hb.size)
                have c2 := B2.cell
                clear hb2 hB hb cB
                go_wp2_with (go_at_call 53; refine (within_any _ _ _ _).mono ?_; rintro e w' ⟨rfl, rfl⟩)
                go_roundw
                case rel => exact ⟨k + 1, k, x, by omega, by go_num, rfl, rfl, by omega, by omega, by rw [show 5 - (k + 1) = 4 - k from by omega]; exact HP'.out, B2, b2⟩
                case measure => simp [intOf]; omega
              · rw [if_neg (by simp [hin]; omega)] at hP
                have HP' := Lib.hid hP
                clear hP HP
                go_wp2_with fail
                refine (HS.out _).mono ?_
                rintro e w2 ⟨rfl, hb2⟩
                have B2 := hB.below hb2
                have b2 := hb.trans (hb2.mono hb.size)
                have c2 := B2.cell
                clear hb2 hB hb cB
                go_wp2_with (go_at_call 53; refine (within_any _ _ _ _).mono ?_; rintro e w' ⟨rfl, rfl⟩)
                go_roundw
                case rel => exact ⟨k + 1, b, l, by omega, by go_num, rfl, rfl, hlm, hlM, by rw [show 5 - (k + 1) = 4 - k from by omega]; exact HP'.out, B2, b2⟩
                case measure => simp [intOf]; omega
          · have hin' : inB x (40 * low) (40 * high) = false := by simpa using hin
            rw [if_neg (by simp [hin'])] at hP
            have HP' := Lib.hid hP
            clear hP HP hin
            go_wp2_with fail
            refine (HS.out _).mono ?_
            rintro e w2 ⟨rfl, hb2⟩
            have B2 := hB.below hb2
            have b2 := hb.trans (hb2.mono hb.size)
            have c2 := B2.cell
            clear hb2 hB hb cB
            go_wp2_with (go_at_call 53; refine (within_any _ _ _ _).mono ?_; rintro e w' ⟨rfl, rfl⟩)
            go_roundw
            case rel => exact ⟨k + 1, b, l, by omega, by go_num, rfl, rfl, hlm, hlM, by rw [show 5 - (k + 1) = 4 - k from by omega]; exact HP'.out, B2, b2⟩
            case measure => simp [intOf]; omega
        · have : k = 5 := by omega
          subst this
          have hP := HP.out
          rw [show 5 - 5 = 0 from rfl] at hP
          unfold bestF at hP
          by_cases hl0 : l < 0
          · rw [if_pos hl0] at hP
            have HP' := Lib.hid hP
            clear hP HP
            go_wp2
            go_ret2
            exact ⟨ret_p HP'.out, hb⟩
          · rw [if_neg hl0] at hP
            have HP' := Lib.hid hP
            clear hP HP
            go_wp2
            go_ret2
            exact ⟨ret_p HP'.out, hb⟩

set_option maxHeartbeats 2000000 in
theorem specBestDirection_any (a c s m f low high : Int) (w : World) :
    Calls Try.prog 30 #[.agg #[.int .i64 a, .int .i64 c, .int .i64 s, .int .i64 m], .int .i64 f, .int .i64 low, .int .i64 high] w fun e w' => e = .returned (.tuple #[.int .i64 (bestZ a c s m f low high).1, .int .i64 (bestZ a c s m f low high).2]) ∧ Below w.heap.size w w' := by
  have B0 := Box.new w #[.int .i64 a, .int .i64 c, .int .i64 s, .int .i64 m] 25
  have b0 : Below w.heap.size w (w.alloc (.cells #[.int .i64 a, .int .i64 c, .int .i64 s, .int .i64 m] 25)) := (by go_grown)
  cases hl : leatherB a c s m with
  | false =>
    have hz : bestZ a c s m f low high = (0, 1) := by unfold bestZ; rw [if_pos hl]
    rw [hz]
    clear hz
    go_enter Try.func30, Try.ntmps30
    go_wp2_with fail
    refine (l12Ok_any _ _ _ _ _).mono ?_
    rintro e w1 ⟨rfl, hb1⟩
    have b1 := b0.trans (hb1.mono b0.size)
    go_wp2_with fail
    go_ret2
    exact ⟨rfl, b1⟩
  | true =>
    have hk := lok hl
    cases hr : (inB f 0 1000 && inB high 0 500 && inB low 0 high) with
    | false =>
      have hz : bestZ a c s m f low high = (0, 2) := by unfold bestZ; rw [hl, if_neg (by simp), if_pos hr]
      rw [hz]
      clear hz
      go_enter Try.func30, Try.ntmps30
      go_wp2_with fail
      refine (l12Ok_any _ _ _ _ _).mono ?_
      rintro e w1 ⟨rfl, hb1⟩
      have b1 := b0.trans (hb1.mono b0.size)
      cases h1 : inB f 0 1000 <;> cases h2 : inB high 0 500 <;> cases h3 : inB low 0 high <;> simp [h1, h2, h3] at hr
      all_goals
        go_wp2_with (first | (go_at_call 69; refine (l12Force_any _ _).mono ?_; rintro e w' ⟨rfl, rfl⟩) | (go_at_call 54; refine (l00In_any _ _ _ _).mono ?_; rintro e w' ⟨rfl, rfl⟩))
        go_ret2
        exact ⟨rfl, b1⟩
    | true =>
      have hr' := hr
      simp only [Bool.and_eq_true] at hr'
      obtain ⟨⟨h1, h2⟩, h3⟩ := hr'
      obtain ⟨hf0, hf1⟩ := inB_true h1
      obtain ⟨hh0, hh1⟩ := inB_true h2
      obtain ⟨hw0, hw1⟩ := inB_true h3
      obtain ⟨R, hR⟩ : ∃ R, bestF a c f low high 5 0 0 (-1) = R := ⟨_, rfl⟩
      have hz : bestZ a c s m f low high = R := by unfold bestZ; rw [hl, if_neg (by simp), hr, if_neg (by simp), hR]
      rw [hz]
      have HR := Lib.hid hR
      clear hz hR hr
      go_enter Try.func30, Try.ntmps30
      go_wp2_with fail
      refine (l12Ok_any _ _ _ _ _).mono ?_
      rintro e w1 ⟨rfl, hb1⟩
      have B1 := B0.below hb1
      have b1 := b0.trans (hb1.mono b0.size)
      clear hb1 B0 b0
      go_wp2_with (first | (go_at_call 69; refine (l12Force_any _ _).mono ?_; rintro e w' ⟨rfl, rfl⟩) | (go_at_call 54; refine (l00In_any _ _ _ _).mono ?_; rintro e w' ⟨rfl, rfl⟩))
      have HK := Lib.hid hk
      clear hk
      go_loopw [10, 11] (fun bb dd wr => ∃ (k : Nat) (B b l : Int), k ≤ 5 ∧ dd = .int .i64 k ∧ bb = .int .i64 B ∧ ((B = -1 ∧ l = -1) ∨ (0 ≤ B ∧ B ≤ 4 ∧ B = b ∧ l = stretchZ a c B f ∧ 0 ≤ l)) ∧ Hid (bestF a c f low high (5 - k) k b l = R) ∧ Box wr w.heap.size #[.int .i64 a, .int .i64 c, .int .i64 s, .int .i64 m] ∧ Below w.heap.size w wr) (fun _ dd _ => 5 - (intOf dd).toNat)
      case atStart => exact ⟨0, -1, 0, -1, by omega, rfl, rfl, Or.inl ⟨rfl, rfl⟩, HR, B1, b1⟩
      case round =>
        obtain ⟨k, B, b, l, hk5, rfl, rfl, hI, HP, hB, hb⟩ := hrel
        have cB := hB.cell
        have hk := HK.out
        by_cases hlt : k ≤ 4
        · obtain ⟨hs0, hs1⟩ := stretch_bd hk.a0 hk.a1 hk.c0 hk.c1 (d := (k : Int)) (by omega) (by omega) hf0 hf1
          have hP := HP.out
          rw [show 5 - k = (4 - k) + 1 from by omega] at hP
          unfold bestF at hP
          have hcs := fun W => l12Stretch_any a c s m (k : Int) f W hk (by omega) (by omega) hf0 hf1
          generalize hx : stretchZ a c (k : Int) f = x at *
          have HS := Lib.hid hcs
          have HX := Lib.hid hx
          clear hcs hx
          by_cases hin : inB x (40 * low) (40 * high) = true
          · rcases hI with ⟨rfl, rfl⟩ | ⟨hB0, hB4, rfl, hlB, hl0⟩
            · rw [if_pos ⟨hin, Or.inl (by omega)⟩] at hP
              have HP' := Lib.hid hP
              clear hP HP
              go_wp2_with fail
              refine (HS.out _).mono ?_
              rintro e w2 ⟨rfl, hb2⟩
              have B2 := hB.below hb2
              have b2 := hb.trans (hb2.mono hb.size)
              have c2 := B2.cell
              clear hb2 hB hb cB
              go_wp2_with (go_at_call 54; refine (l00In_any _ _ _ _).mono ?_; rintro e w' ⟨rfl, rfl⟩)
              go_roundw
              case rel => exact ⟨k + 1, k, k, x, by omega, by go_num, rfl, Or.inr ⟨by omega, by omega, rfl, HX.out.symm, by omega⟩, by rw [show 5 - (k + 1) = 4 - k from by omega]; exact HP'.out, B2, b2⟩
              case measure => simp [intOf]; omega
            · have hcs2 := fun W => l12Stretch_any a c s m B f W hk hB0 hB4 hf0 hf1
              rw [← hlB] at hcs2
              have HS2 := Lib.hid hcs2
              have HLB := Lib.hid hlB
              clear hcs2 hlB
              by_cases hxl : x < l
              · rw [if_pos ⟨hin, Or.inr hxl⟩] at hP
                have HP' := Lib.hid hP
                clear hP HP
                go_wp2_with fail
                refine (HS.out _).mono ?_
                rintro e w2 ⟨rfl, hb2⟩
                have B2' := hB.below hb2
                have b2' := hb.trans (hb2.mono hb.size)
                have c2 := B2'.cell
                clear hb2 hB hb cB
                go_wp2_with (go_at_call 54; refine (l00In_any _ _ _ _).mono ?_; rintro e w' ⟨rfl, rfl⟩)
                refine (HS2.out _).mono ?_
                rintro e w3 ⟨rfl, hb3⟩
                have B2 := B2'.below hb3
                have b2 := b2'.trans (hb3.mono b2'.size)
                clear hb3 B2' b2' c2
                go_wp2_with fail
                go_roundw
                case rel => exact ⟨k + 1, k, k, x, by omega, by go_num, rfl, Or.inr ⟨by omega, by omega, rfl, HX.out.symm, by omega⟩, by rw [show 5 - (k + 1) = 4 - k from by omega]; exact HP'.out, B2, b2⟩
                case measure => simp [intOf]; omega
              · rw [if_neg (by simp [hin]; omega)] at hP
                have HP' := Lib.hid hP
                clear hP HP
                go_wp2_with fail
                refine (HS.out _).mono ?_
                rintro e w2 ⟨rfl, hb2⟩
                have B2' := hB.below hb2
                have b2' := hb.trans (hb2.mono hb.size)
                have c2 := B2'.cell
                clear hb2 hB hb cB
                go_wp2_with (go_at_call 54; refine (l00In_any _ _ _ _).mono ?_; rintro e w' ⟨rfl, rfl⟩)
                refine (HS2.out _).mono ?_
                rintro e w3 ⟨rfl, hb3⟩
                have B2 := B2'.below hb3
                have b2 := b2'.trans (hb3.mono b2'.size)
                clear hb3 B2' b2' c2
                go_wp2_with fail
                go_roundw
                case rel => exact ⟨k + 1, B, B, l, by omega, by go_num, rfl, Or.inr ⟨hB0, hB4, rfl, HLB.out, hl0⟩, by rw [show 5 - (k + 1) = 4 - k from by omega]; exact HP'.out, B2, b2⟩
                case measure => simp [intOf]; omega
          · have HI := Lib.hid hI
            clear hI
            have hin' : inB x (40 * low) (40 * high) = false := by simpa using hin
            rw [if_neg (by simp [hin'])] at hP
            have HP' := Lib.hid hP
            clear hP HP hin
            go_wp2_with fail
            refine (HS.out _).mono ?_
            rintro e w2 ⟨rfl, hb2⟩
            have B2 := hB.below hb2
            have b2 := hb.trans (hb2.mono hb.size)
            have c2 := B2.cell
            clear hb2 hB hb cB
            go_wp2_with (go_at_call 54; refine (l00In_any _ _ _ _).mono ?_; rintro e w' ⟨rfl, rfl⟩)
            go_roundw
            case rel => exact ⟨k + 1, B, b, l, by omega, by go_num, rfl, HI.out, by rw [show 5 - (k + 1) = 4 - k from by omega]; exact HP'.out, B2, b2⟩
            case measure => simp [intOf]; omega
        · have : k = 5 := by omega
          subst this
          have hP := HP.out
          rw [show 5 - 5 = 0 from rfl] at hP
          unfold bestF at hP
          rcases hI with ⟨rfl, rfl⟩ | ⟨hB0, hB4, rfl, hlB, hl0⟩
          · rw [if_pos (by omega)] at hP
            have HP' := Lib.hid hP
            clear hP HP
            go_wp2
            go_ret2
            exact ⟨ret_p HP'.out, hb⟩
          · rw [if_neg (by omega)] at hP
            have HP' := Lib.hid hP
            have HLB := Lib.hid hlB
            clear hP HP hlB
            go_wp2
            go_ret2
            exact ⟨ret_p HP'.out, hb⟩
end Go.Proofs.Ytdkklkpegnblnaa
