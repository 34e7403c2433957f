/- PullFor, GreatestPull, BestDirection (program and reference). -/
import Derived.Test.YtdkklkpegnblnaaLea4
namespace Go.Proofs.Ytdkklkpegnblnaa
open Go.RowKit

theorem ret_p {R : Int × Int} {x y : Int} (h : (x, y) = R) : Ending.returned (.tuple #[.int .i64 x, .int .i64 y]) = .returned (.tuple #[.int .i64 R.1, .int .i64 R.2]) := by subst h; rfl

/-- The least force from f on, n of them looked at. -/
def pullF (a c m d len want : Int) : Nat → Int → Int × Int
  | 0, _ => (0, 3)
  | n + 1, f => if len * (40000 + stretchZ a c d f) < want * 40000 then pullF a c m d len want n (f + 1) else if 40 * m < stretchZ a c d f then (0, 10) else (f, 0)
def pullZ (a c s m d len want : Int) : Int × Int :=
  if leatherB a c s m = false then (0, 1) else if (inB d 0 4 && inB len 1 10000 && inB want 1 10000) = false then (0, 2) else pullF a c m d len want 1001 0

/-- The greatest force: 1000, or as many as 40 * most / give. -/
def greatZ (a c s m d : Int) : Int × Int :=
  if leatherB a c s m = false then (0, 1) else if inB d 0 4 = false then (0, 2) else (if giveZ a c d = 0 then 1000 else minZ 1000 (40 * m / giveZ a c d), 0)


set_option maxHeartbeats 2000000 in
theorem implPullFor_any (a c s m d len want : Int) (w : World) :
    Calls Try.prog 37 #[.agg #[.int .i64 a, .int .i64 c, .int .i64 s, .int .i64 m], .int .i64 d, .int .i64 len, .int .i64 want] w fun e w' => e = .returned (.tuple #[.int .i64 (pullZ a c s m d len want).1, .int .i64 (pullZ a c s m d len want).2]) ∧ Below w.heap.size w w' := by
  have B0 := Box.new w #[.int .i64 a, .int .i64 c, .int .i64 s, .int .i64 m] 25
  have b0 : Below w.heap.size w (w.alloc (.cells #[.int .i64 a, .int .i64 c, .int .i64 s, .int .i64 m] 25)) := (by go_grown)
  cases hl : leatherB a c s m with
  | false =>
    have hz : pullZ a c s m d len want = (0, 1) := by unfold pullZ; rw [if_pos hl]
    rw [hz]
    clear hz
    go_enter Try.func37, Try.ntmps37
    go_wp2_with fail
    refine (implValidLeather_any _ _ _ _ _).mono ?_
    rintro e w1 ⟨rfl, hb1⟩
    have b1 := b0.trans (hb1.mono b0.size)
    go_wp2_with fail
    go_ret2
    exact ⟨rfl, b1⟩
  | true =>
    have hk := lok hl
    cases hr : (inB d 0 4 && inB len 1 10000 && inB want 1 10000) with
    | false =>
      have hz : pullZ a c s m d len want = (0, 2) := by unfold pullZ; rw [hl, if_neg (by simp), if_pos hr]
      rw [hz]
      clear hz
      go_enter Try.func37, Try.ntmps37
      go_wp2_with fail
      refine (implValidLeather_any _ _ _ _ _).mono ?_
      rintro e w1 ⟨rfl, hb1⟩
      have b1 := b0.trans (hb1.mono b0.size)
      cases h1 : inB d 0 4 <;> cases h2 : inB len 1 10000 <;> cases h3 : inB want 1 10000 <;> simp [h1, h2, h3] at hr
      all_goals
        go_wp2_with (first | (go_at_call 64; refine (isDirection_any _ _).mono ?_; rintro e w' ⟨rfl, rfl⟩) | (go_at_call 77; refine (isLength_any _ _).mono ?_; rintro e w' ⟨rfl, rfl⟩))
        go_ret2
        exact ⟨rfl, b1⟩
    | true =>
      have hr' := hr
      simp only [Bool.and_eq_true] at hr'
      obtain ⟨⟨h1, h2⟩, h3⟩ := hr'
      have hd := inB_true h1
      obtain ⟨hl0, hl1⟩ := inB_true h2
      obtain ⟨hw0, hw1⟩ := inB_true h3
      obtain ⟨R, hR⟩ : ∃ R, pullF a c m d len want 1001 0 = R := ⟨_, rfl⟩
      have hz : pullZ a c s m d len want = R := by unfold pullZ; rw [hl, if_neg (by simp), hr, if_neg (by simp), hR]
      rw [hz]
      have m0 := hk.m0
      have m1 := hk.m1
      have HR := Lib.hid hR
      clear hz hR hr
      go_enter Try.func37, Try.ntmps37
      go_wp2_with fail
      refine (implValidLeather_any _ _ _ _ _).mono ?_
      rintro e w1 ⟨rfl, hb1⟩
      have B1 := B0.below hb1
      have b1 := b0.trans (hb1.mono b0.size)
      clear hb1 B0 b0
      go_wp2_with (first | (go_at_call 64; refine (isDirection_any _ _).mono ?_; rintro e w' ⟨rfl, rfl⟩) | (go_at_call 77; refine (isLength_any _ _).mono ?_; rintro e w' ⟨rfl, rfl⟩))
      have HK := Lib.hid hk
      clear hk
      go_loopw [10] (fun ff wr => ∃ k : Nat, k ≤ 1001 ∧ ff = .int .i64 k ∧ Hid (pullF a c m d len want (1001 - k) k = R) ∧ Box wr w.heap.size #[.int .i64 a, .int .i64 c, .int .i64 s, .int .i64 m] ∧ Below w.heap.size w wr) (fun ff _ => 1001 - (intOf ff).toNat)
      case atStart => exact ⟨0, by omega, rfl, HR, B1, b1⟩
      case round =>
        obtain ⟨k, hk1, rfl, HP, hB, hb⟩ := hrel
        have cB := hB.cell
        have hk := HK.out
        by_cases hlt : k ≤ 1000
        · have hs := stretch_bd hk.a0 hk.a1 hk.c0 hk.c1 hd.1 hd.2 (f := (k : Int)) (by omega) (by omega)
          have hu := under_bd hs ⟨hl0, hl1⟩
          have hP := HP.out
          rw [show 1001 - k = (1000 - k) + 1 from by omega] at hP
          unfold pullF at hP
          have hcs := fun W => stretch_any a c s m d (k : Int) W hk hd.1 hd.2 (by omega) (by omega)
          have hct := fun W => tears_any a c s m d (k : Int) W hk hd.1 hd.2 (by omega) (by omega)
          unfold tearsB at hct
          generalize hx : stretchZ a c d (k : Int) = x at *
          have HS := Lib.hid hcs
          have HX := Lib.hid hx
          have HTT := Lib.hid hct
          clear hct
          obtain ⟨hs0, hs1⟩ := hs
          obtain ⟨hu0, hu1⟩ := hu
          have HK' := Lib.hid hk
          clear hcs hk hx
          by_cases ht : len * (40000 + x) < want * 40000
          · rw [if_pos ht] at hP
            have HP' := Lib.hid hP
            clear hP HP HTT
            go_wp2_with fail
            refine (HS.out _).mono ?_
            rintro e w2 ⟨rfl, hb2⟩
            have B2 := hB.below hb2
            have b2 := hb.trans (hb2.mono hb.size)
            clear hb2 hB hb cB HS
            go_wp2_with fail
            go_roundw
            case rel => exact ⟨k + 1, by omega, by go_num, by rw [show 1001 - (k + 1) = 1000 - k from by omega]; exact HP'.out, B2, b2⟩
            case measure => simp [intOf]; omega
          · rw [if_neg ht] at hP
            have htn : want * 40000 ≤ len * (40000 + x) := by omega
            by_cases hq : 40 * m < x
            · rw [if_pos hq] at hP
              have HP' := Lib.hid hP
              clear hP HP
              have htt : decide (40 * m < x) = true := by simp; omega
              go_wp2_with fail
              refine (HS.out _).mono ?_
              rintro e w2 ⟨rfl, hb2⟩
              have B2 := hB.below hb2
              have b2 := hb.trans (hb2.mono hb.size)
              have c2 := B2.cell
              clear hb2 hB hb cB HS
              go_wp2_with fail
              refine (HTT.out _).mono ?_
              rintro e w3 ⟨rfl, hb3⟩
              have b3 := b2.trans (hb3.mono b2.size)
              go_wp2_with fail
              go_ret2
              exact ⟨ret_p HP'.out, b3⟩
            · rw [if_neg hq] at hP
              have HP' := Lib.hid hP
              clear hP HP
              have htt : decide (40 * m < x) = false := by simp; omega
              go_wp2_with fail
              refine (HS.out _).mono ?_
              rintro e w2 ⟨rfl, hb2⟩
              have B2 := hB.below hb2
              have b2 := hb.trans (hb2.mono hb.size)
              have c2 := B2.cell
              clear hb2 hB hb cB HS
              go_wp2_with fail
              refine (HTT.out _).mono ?_
              rintro e w3 ⟨rfl, hb3⟩
              have b3 := b2.trans (hb3.mono b2.size)
              go_wp2_with fail
              go_ret2
              exact ⟨ret_p HP'.out, b3⟩
        · have : k = 1001 := by omega
          subst this
          have hP := HP.out
          rw [show 1001 - 1001 = 0 from rfl] at hP
          unfold pullF at hP
          have HP' := Lib.hid hP
          clear hP HP
          go_wp2
          go_ret2
          exact ⟨ret_p HP'.out, hb⟩

set_option maxHeartbeats 2000000 in
theorem specPullFor_any (a c s m d len want : Int) (w : World) :
    Calls Try.prog 40 #[.agg #[.int .i64 a, .int .i64 c, .int .i64 s, .int .i64 m], .int .i64 d, .int .i64 len, .int .i64 want] w fun e w' => e = .returned (.tuple #[.int .i64 (pullZ a c s m d len want).1, .int .i64 (pullZ a c s m d len want).2]) ∧ Below w.heap.size w w' := by
  have B0 := Box.new w #[.int .i64 a, .int .i64 c, .int .i64 s, .int .i64 m] 25
  have b0 : Below w.heap.size w (w.alloc (.cells #[.int .i64 a, .int .i64 c, .int .i64 s, .int .i64 m] 25)) := (by go_grown)
  cases hl : leatherB a c s m with
  | false =>
    have hz : pullZ a c s m d len want = (0, 1) := by unfold pullZ; rw [if_pos hl]
    rw [hz]
    clear hz
    go_enter Try.func40, Try.ntmps40
    go_wp2_with fail
    refine (l12Ok_any _ _ _ _ _).mono ?_
    rintro e w1 ⟨rfl, hb1⟩
    have b1 := b0.trans (hb1.mono b0.size)
    go_wp2_with fail
    go_ret2
    exact ⟨rfl, b1⟩
  | true =>
    have hk := lok hl
    cases hr : (inB d 0 4 && inB len 1 10000 && inB want 1 10000) with
    | false =>
      have hz : pullZ a c s m d len want = (0, 2) := by unfold pullZ; rw [hl, if_neg (by simp), if_pos hr]
      rw [hz]
      clear hz
      go_enter Try.func40, Try.ntmps40
      go_wp2_with fail
      refine (l12Ok_any _ _ _ _ _).mono ?_
      rintro e w1 ⟨rfl, hb1⟩
      have b1 := b0.trans (hb1.mono b0.size)
      cases h1 : inB d 0 4 <;> cases h2 : inB len 1 10000 <;> cases h3 : inB want 1 10000 <;> simp [h1, h2, h3] at hr
      all_goals
        go_wp2_with (first | (go_at_call 61; refine (l12Direction_any _ _).mono ?_; rintro e w' ⟨rfl, rfl⟩) | (go_at_call 80; refine (l12Length_any _ _).mono ?_; rintro e w' ⟨rfl, rfl⟩))
        go_ret2
        exact ⟨rfl, b1⟩
    | true =>
      have hr' := hr
      simp only [Bool.and_eq_true] at hr'
      obtain ⟨⟨h1, h2⟩, h3⟩ := hr'
      have hd := inB_true h1
      obtain ⟨hl0, hl1⟩ := inB_true h2
      obtain ⟨hw0, hw1⟩ := inB_true h3
      obtain ⟨R, hR⟩ : ∃ R, pullF a c m d len want 1001 0 = R := ⟨_, rfl⟩
      have hz : pullZ a c s m d len want = R := by unfold pullZ; rw [hl, if_neg (by simp), hr, if_neg (by simp), hR]
      rw [hz]
      have m0 := hk.m0
      have m1 := hk.m1
      have HR := Lib.hid hR
      clear hz hR hr
      go_enter Try.func40, Try.ntmps40
      go_wp2_with fail
      refine (l12Ok_any _ _ _ _ _).mono ?_
      rintro e w1 ⟨rfl, hb1⟩
      have B1 := B0.below hb1
      have b1 := b0.trans (hb1.mono b0.size)
      clear hb1 B0 b0
      go_wp2_with (first | (go_at_call 61; refine (l12Direction_any _ _).mono ?_; rintro e w' ⟨rfl, rfl⟩) | (go_at_call 80; refine (l12Length_any _ _).mono ?_; rintro e w' ⟨rfl, rfl⟩))
      have HK := Lib.hid hk
      clear hk
      go_loopw [10] (fun ff wr => ∃ k : Nat, k ≤ 1001 ∧ ff = .int .i64 k ∧ Hid (pullF a c m d len want (1001 - k) k = R) ∧ Box wr w.heap.size #[.int .i64 a, .int .i64 c, .int .i64 s, .int .i64 m] ∧ Below w.heap.size w wr) (fun ff _ => 1001 - (intOf ff).toNat)
      case atStart => exact ⟨0, by omega, rfl, HR, B1, b1⟩
      case round =>
        obtain ⟨k, hk1, rfl, HP, hB, hb⟩ := hrel
        have cB := hB.cell
        have hk := HK.out
        by_cases hlt : k ≤ 1000
        · have hs := stretch_bd hk.a0 hk.a1 hk.c0 hk.c1 hd.1 hd.2 (f := (k : Int)) (by omega) (by omega)
          have hu := under_bd hs ⟨hl0, hl1⟩
          have hP := HP.out
          rw [show 1001 - k = (1000 - k) + 1 from by omega] at hP
          unfold pullF at hP
          have hcs := fun W => l12Stretch_any a c s m d (k : Int) W hk hd.1 hd.2 (by omega) (by omega)
          generalize hx : stretchZ a c d (k : Int) = x at *
          have HS := Lib.hid hcs
          have HX := Lib.hid hx
          obtain ⟨hs0, hs1⟩ := hs
          obtain ⟨hu0, hu1⟩ := hu
          have HK' := Lib.hid hk
          clear hcs hk hx
          by_cases ht : len * (40000 + x) < want * 40000
          · rw [if_pos ht] at hP
            have HP' := Lib.hid hP
            clear hP HP
            go_wp2_with fail
            refine (HS.out _).mono ?_
            rintro e w2 ⟨rfl, hb2⟩
            have B2 := hB.below hb2
            have b2 := hb.trans (hb2.mono hb.size)
            clear hb2 hB hb cB HS
            go_wp2_with fail
            go_roundw
            case rel => exact ⟨k + 1, by omega, by go_num, by rw [show 1001 - (k + 1) = 1000 - k from by omega]; exact HP'.out, B2, b2⟩
            case measure => simp [intOf]; omega
          · rw [if_neg ht] at hP
            have htn : want * 40000 ≤ len * (40000 + x) := by omega
            by_cases hq : 40 * m < x
            · rw [if_pos hq] at hP
              have HP' := Lib.hid hP
              clear hP HP
              go_wp2_with fail
              refine (HS.out _).mono ?_
              rintro e w2 ⟨rfl, hb2⟩
              have B2 := hB.below hb2
              have b2 := hb.trans (hb2.mono hb.size)
              have c2 := B2.cell
              clear hb2 hB hb cB HS
              go_wp2_with fail
              go_ret2
              exact ⟨ret_p HP'.out, b2⟩
            · rw [if_neg hq] at hP
              have HP' := Lib.hid hP
              clear hP HP
              go_wp2_with fail
              refine (HS.out _).mono ?_
              rintro e w2 ⟨rfl, hb2⟩
              have B2 := hB.below hb2
              have b2 := hb.trans (hb2.mono hb.size)
              have c2 := B2.cell
              clear hb2 hB hb cB HS
              go_wp2_with fail
              go_ret2
              exact ⟨ret_p HP'.out, b2⟩
        · have : k = 1001 := by omega
          subst this
          have hP := HP.out
          rw [show 1001 - 1001 = 0 from rfl] at hP
          unfold pullF at hP
          have HP' := Lib.hid hP
          clear hP HP
          go_wp2
          go_ret2
          exact ⟨ret_p HP'.out, hb⟩
end Go.Proofs.Ytdkklkpegnblnaa
