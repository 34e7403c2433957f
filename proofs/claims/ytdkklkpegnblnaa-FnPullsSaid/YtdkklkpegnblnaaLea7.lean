/- MatchDirections (program and reference); the laws on PullFor, GreatestPull, BestDirection, MatchDirections. -/
import Derived.Test.YtdkklkpegnblnaaLea6
namespace Go.Proofs.Ytdkklkpegnblnaa
open Go.RowKit

/-- A pair of directions and how far apart their gives are; -1 if there is none yet. -/
structure MSt where
  x : Int
  y : Int
  l : Int
def mStep (a c a' c' i k : Int) (S : MSt) : MSt := if S.l < 0 ∨ absZ (giveZ a c i - giveZ a' c' k) < S.l then ⟨i, k, absZ (giveZ a c i - giveZ a' c' k)⟩ else S
def mIn (a c a' c' i : Int) : Nat → Int → MSt → MSt
  | 0, _, S => S
  | n + 1, k, S => mIn a c a' c' i n (k + 1) (mStep a c a' c' i k S)
def mOut (a c a' c' : Int) : Nat → Int → MSt → MSt
  | 0, _, S => S
  | n + 1, i, S => mOut a c a' c' n (i + 1) (mIn a c a' c' i 5 0 S)
def matchZ (a c s m a' c' s' m' : Int) : Int × Int × Int :=
  if (leatherB a c s m && leatherB a' c' s' m') = false then (0, 0, 1) else ((mOut a c a' c' 5 0 ⟨0, 0, -1⟩).x, (mOut a c a' c' 5 0 ⟨0, 0, -1⟩).y, 0)

theorem keep8 {W w' : World} {g h : Nat} {v0 v1 v2 v3 u0 u1 u2 u3 : Value} (e : (W.cell? ⟨g, 0, none⟩ = some v0 ∧ W.cell? ⟨g, 1, none⟩ = some v1 ∧ W.cell? ⟨g, 2, none⟩ = some v2 ∧ W.cell? ⟨g, 3, none⟩ = some v3) ∧
    (W.cell? ⟨h, 0, none⟩ = some u0 ∧ W.cell? ⟨h, 1, none⟩ = some u1 ∧ W.cell? ⟨h, 2, none⟩ = some u2 ∧ W.cell? ⟨h, 3, none⟩ = some u3)) (hb : Below W.heap.size W w') :
    (w'.cell? ⟨g, 0, none⟩ = some v0 ∧ w'.cell? ⟨g, 1, none⟩ = some v1 ∧ w'.cell? ⟨g, 2, none⟩ = some v2 ∧ w'.cell? ⟨g, 3, none⟩ = some v3) ∧
    (w'.cell? ⟨h, 0, none⟩ = some u0 ∧ w'.cell? ⟨h, 1, none⟩ = some u1 ∧ w'.cell? ⟨h, 2, none⟩ = some u2 ∧ w'.cell? ⟨h, 3, none⟩ = some u3) := ⟨keep4 e.1 hb, keep4 e.2 hb⟩
theorem keep8b {V W w' : World} {g h : Nat} {v0 v1 v2 v3 u0 u1 u2 u3 : Value} (e : (W.cell? ⟨g, 0, none⟩ = some v0 ∧ W.cell? ⟨g, 1, none⟩ = some v1 ∧ W.cell? ⟨g, 2, none⟩ = some v2 ∧ W.cell? ⟨g, 3, none⟩ = some v3) ∧
    (W.cell? ⟨h, 0, none⟩ = some u0 ∧ W.cell? ⟨h, 1, none⟩ = some u1 ∧ W.cell? ⟨h, 2, none⟩ = some u2 ∧ W.cell? ⟨h, 3, none⟩ = some u3) ∧ Below V.heap.size V W) (hb : Below W.heap.size W w') :
    (w'.cell? ⟨g, 0, none⟩ = some v0 ∧ w'.cell? ⟨g, 1, none⟩ = some v1 ∧ w'.cell? ⟨g, 2, none⟩ = some v2 ∧ w'.cell? ⟨g, 3, none⟩ = some v3) ∧
    (w'.cell? ⟨h, 0, none⟩ = some u0 ∧ w'.cell? ⟨h, 1, none⟩ = some u1 ∧ w'.cell? ⟨h, 2, none⟩ = some u2 ∧ w'.cell? ⟨h, 3, none⟩ = some u3) ∧ Below V.heap.size V w' :=
  ⟨keep4 e.1 hb, keep4 e.2.1 hb, e.2.2.trans (hb.mono e.2.2.size)⟩

set_option maxRecDepth 100000 in
set_option maxHeartbeats 4000000 in
theorem implMatchDirections_any (a c s m a' c' s' m' : Int) (w : World) :
    Calls Try.prog 29 #[.agg #[.int .i64 a, .int .i64 c, .int .i64 s, .int .i64 m], .agg #[.int .i64 a', .int .i64 c', .int .i64 s', .int .i64 m']] w fun e w' => e = .returned (.tuple #[.int .i64 (matchZ a c s m a' c' s' m').1, .int .i64 (matchZ a c s m a' c' s' m').2.1, .int .i64 (matchZ a c s m a' c' s' m').2.2]) ∧ Below w.heap.size w w' := by
  have b0 : Below w.heap.size w ((w.alloc (.cells #[.int .i64 a, .int .i64 c, .int .i64 s, .int .i64 m] 25)).alloc (.cells #[.int .i64 a', .int .i64 c', .int .i64 s', .int .i64 m'] 25)) := (by go_grown)
  have B0 := (Box.new w #[.int .i64 a, .int .i64 c, .int .i64 s, .int .i64 m] 25).alloc (.cells #[.int .i64 a', .int .i64 c', .int .i64 s', .int .i64 m'] 25)
  have D0 : Box ((w.alloc (.cells #[.int .i64 a, .int .i64 c, .int .i64 s, .int .i64 m] 25)).alloc (.cells #[.int .i64 a', .int .i64 c', .int .i64 s', .int .i64 m'] 25)) (w.heap.size + 1) #[.int .i64 a', .int .i64 c', .int .i64 s', .int .i64 m'] := by
    have := Box.new (w.alloc (.cells #[.int .i64 a, .int .i64 c, .int .i64 s, .int .i64 m] 25)) #[.int .i64 a', .int .i64 c', .int .i64 s', .int .i64 m'] 25
    simpa using this
  cases hl : leatherB a c s m with
  | false =>
    have hz : matchZ a c s m a' c' s' m' = (0, 0, 1) := by unfold matchZ; rw [hl]; rfl
    rw [hz]
    clear hz
    go_enter Try.func29, Try.ntmps29
    go_wp2_with fail
    refine (implValidLeather_any _ _ _ _ _).mono ?_
    rintro e w1 ⟨rfl, hb1⟩
    have b1 := b0.trans (hb1.mono b0.size)
    go_wp2_with fail
    go_ret3
    exact ⟨rfl, b1⟩
  | true =>
    cases hl' : leatherB a' c' s' m' with
    | false =>
      have hz : matchZ a c s m a' c' s' m' = (0, 0, 1) := by unfold matchZ; rw [hl, hl']; rfl
      rw [hz]
      clear hz
      go_enter Try.func29, Try.ntmps29
      go_wp2_with fail
      refine (implValidLeather_any _ _ _ _ _).mono ?_
      rintro e w1 ⟨rfl, hb1⟩
      have b1 := b0.trans (hb1.mono b0.size)
      have D1 := D0.below hb1
      have d1 := D1.cell
      clear hb1 B0 D0 b0
      go_wp2_with fail
      refine (implValidLeather_any _ _ _ _ _).mono ?_
      rintro e w2 ⟨rfl, hb2⟩
      have b2 := b1.trans (hb2.mono b1.size)
      go_wp2_with fail
      go_ret3
      exact ⟨rfl, b2⟩
    | true =>
      have hk := lok hl
      have hk' := lok hl'
      obtain ⟨R, hR⟩ : ∃ R, mOut a c a' c' 5 0 ⟨0, 0, -1⟩ = R := ⟨_, rfl⟩
      have hz : matchZ a c s m a' c' s' m' = (R.x, R.y, 0) := by unfold matchZ; rw [hl, hl', hR]; rfl
      rw [hz]
      have HR := Lib.hid hR
      have HK := Lib.hid hk
      have HK' := Lib.hid hk'
      clear hz hR hk hk'
      go_enter Try.func29, Try.ntmps29
      go_wp2_with fail
      refine (implValidLeather_any _ _ _ _ _).mono ?_
      rintro e w1 ⟨rfl, hb1⟩
      have b1 := b0.trans (hb1.mono b0.size)
      have D1 := D0.below hb1
      have B1 := B0.below hb1
      have d1 := D1.cell
      clear hb1 B0 D0 b0
      go_wp2_with fail
      refine (implValidLeather_any _ _ _ _ _).mono ?_
      rintro e w2 ⟨rfl, hb2⟩
      have b2 := b1.trans (hb2.mono b1.size)
      have D2 := D1.below hb2
      have B2 := B1.below hb2
      clear hb2 B1 D1 b1 d1
      go_wp2_with fail
      go_loopw [7, 8, 9, 10] (fun vx vy vl vi wr => ∃ (i : Nat) (S : MSt), i ≤ 5 ∧ vi = .int .i64 i ∧ vx = .int .i64 S.x ∧ vy = .int .i64 S.y ∧ vl = .int .i64 S.l ∧ Hid (mOut a c a' c' (5 - i) i S = R) ∧ Box wr w.heap.size #[.int .i64 a, .int .i64 c, .int .i64 s, .int .i64 m] ∧ Box wr (w.heap.size + 1) #[.int .i64 a', .int .i64 c', .int .i64 s', .int .i64 m'] ∧ Below w.heap.size w wr) (fun _ _ _ vi _ => 5 - (intOf vi).toNat)
      case atStart => exact ⟨0, ⟨0, 0, -1⟩, by omega, rfl, rfl, rfl, rfl, HR, B2, D2, b2⟩
      case round =>
        obtain ⟨i, S, hi5, rfl, rfl, rfl, rfl, HP, hB, hD, hb⟩ := hrel
        obtain ⟨wo, rfl⟩ : ∃ wo : World, wo = wr := ⟨_, rfl⟩
        by_cases hlt : i ≤ 4
        · have hP := HP.out
          rw [show 5 - i = (4 - i) + 1 from by omega] at hP
          unfold mOut at hP
          obtain ⟨T, hT⟩ : ∃ T, mIn a c a' c' i 5 0 S = T := ⟨_, rfl⟩
          rw [hT] at hP
          have HO := Lib.hid hP
          have HT := Lib.hid hT
          clear hP hT HP
          have hi4 : (i : Int) ≤ 4 := by omega
          have hdi : decide ((i : Int) ≤ 4) = true := by simpa using hi4
          go_wp2
          go_loopw [7, 8, 9, 11] (fun vx vy vl vk wr => ∃ (k : Nat) (S : MSt), k ≤ 5 ∧ vk = .int .i64 k ∧ vx = .int .i64 S.x ∧ vy = .int .i64 S.y ∧ vl = .int .i64 S.l ∧ Hid (mIn a c a' c' i (5 - k) k S = T) ∧ Box wr w.heap.size #[.int .i64 a, .int .i64 c, .int .i64 s, .int .i64 m] ∧ Box wr (w.heap.size + 1) #[.int .i64 a', .int .i64 c', .int .i64 s', .int .i64 m'] ∧ Below w.heap.size w wr) (fun _ _ _ vk _ => 5 - (intOf vk).toNat)
          case atStart => exact ⟨0, S, by omega, rfl, rfl, rfl, rfl, HT, hB, hD, hb⟩
          case round =>
            obtain ⟨k, S', hk5, rfl, rfl, rfl, rfl, HQ, hB', hD', hb'⟩ := hrel
            by_cases hltk : k ≤ 4
            · have hQ := HQ.out
              rw [show 5 - k = (4 - k) + 1 from by omega] at hQ
              unfold mIn mStep at hQ
              have hk := HK.out
              have hk' := HK'.out
              have hg1 := (give_bd hk.a0 hk.a1 hk.c0 hk.c1 (d := (i : Int)) (by omega) (by omega)).2.2
              have hg2 := (give_bd hk'.a0 hk'.a1 hk'.c0 hk'.c1 (d := (k : Int)) (by omega) (by omega)).2.2
              have hc1 := fun W => give_any a c s m i W hk (by omega) (by omega)
              have hc2 := fun W => give_any a' c' s' m' k W hk' (by omega) (by omega)
              generalize giveZ a c (i : Int) = x at *
              generalize giveZ a' c' (k : Int) = y at *
              have HC1 := Lib.hid hc1
              have HC2 := Lib.hid hc2
              obtain ⟨hx0, hx1⟩ := hg1
              obtain ⟨hy0, hy1⟩ := hg2
              have cB := hB'.cell
              have cD := hD'.cell
              have e8 : (wr.cell? ⟨w.heap.size, 0, none⟩ = some (.int .i64 a) ∧ wr.cell? ⟨w.heap.size, 1, none⟩ = some (.int .i64 c) ∧ wr.cell? ⟨w.heap.size, 2, none⟩ = some (.int .i64 s) ∧ wr.cell? ⟨w.heap.size, 3, none⟩ = some (.int .i64 m)) ∧ (wr.cell? ⟨w.heap.size + 1, 0, none⟩ = some (.int .i64 a') ∧ wr.cell? ⟨w.heap.size + 1, 1, none⟩ = some (.int .i64 c') ∧ wr.cell? ⟨w.heap.size + 1, 2, none⟩ = some (.int .i64 s') ∧ wr.cell? ⟨w.heap.size + 1, 3, none⟩ = some (.int .i64 m')) ∧ Below wr.heap.size wr wr := ⟨⟨cB 0, cB 1, cB 2, cB 3⟩, ⟨cD 0, cD 1, cD 2, cD 3⟩, Below.refl _ _⟩
              clear hc1 hc2 hk hk'
              by_cases hl0 : S'.l < 0
              · rw [if_pos (Or.inl hl0)] at hQ
                have HQ' := Lib.hid hQ
                clear hQ HQ
                go_wp2
                go_region_held3 (fun w' => (w'.cell? ⟨w.heap.size, 0, none⟩ = some (.int .i64 a) ∧ w'.cell? ⟨w.heap.size, 1, none⟩ = some (.int .i64 c) ∧ w'.cell? ⟨w.heap.size, 2, none⟩ = some (.int .i64 s) ∧ w'.cell? ⟨w.heap.size, 3, none⟩ = some (.int .i64 m)) ∧ (w'.cell? ⟨w.heap.size + 1, 0, none⟩ = some (.int .i64 a') ∧ w'.cell? ⟨w.heap.size + 1, 1, none⟩ = some (.int .i64 c') ∧ w'.cell? ⟨w.heap.size + 1, 2, none⟩ = some (.int .i64 s') ∧ w'.cell? ⟨w.heap.size + 1, 3, none⟩ = some (.int .i64 m')) ∧ Below wr.heap.size wr w') (first | exact ⟨e8.1, e8.2.1, (Below.refl _ _).drew⟩ | exact keep8b (by assumption) hb | go_keep)
                  (first | (go_at_call 68; (with_reducible refine (HC1.out _).mono ?_); rintro e w' ⟨rfl, hb⟩) | (go_at_call 68; (with_reducible refine (HC2.out _).mono ?_); rintro e w' ⟨rfl, hb⟩) | (go_at_call 67; refine (apart_any x y _ (by omega) (by omega) (by omega) (by omega)).mono ?_; rintro e w' ⟨rfl, hb⟩))
                have hbb : Below wr.heap.size wr w' := (‹_ ∧ _ ∧ Below wr.heap.size wr w'›).2.2
                have B3 := hB'.below hbb
                have D3 := hD'.below hbb
                have b3 := hb'.trans (hbb.mono hb'.size)
                go_wp2
                go_roundw
                case rel => exact ⟨k + 1, ⟨i, k, absZ (x - y)⟩, by omega, by go_num, rfl, rfl, rfl, by rw [show 5 - (k + 1) = 4 - k from by omega]; exact HQ'.out, B3, D3, b3⟩
                case measure => simp [intOf]; omega
              · by_cases hxl : absZ (x - y) < S'.l
                · rw [if_pos (Or.inr hxl)] at hQ
                  have HQ' := Lib.hid hQ
                  clear hQ HQ
                  go_wp2
                  go_region_held3 (fun w' => (w'.cell? ⟨w.heap.size, 0, none⟩ = some (.int .i64 a) ∧ w'.cell? ⟨w.heap.size, 1, none⟩ = some (.int .i64 c) ∧ w'.cell? ⟨w.heap.size, 2, none⟩ = some (.int .i64 s) ∧ w'.cell? ⟨w.heap.size, 3, none⟩ = some (.int .i64 m)) ∧ (w'.cell? ⟨w.heap.size + 1, 0, none⟩ = some (.int .i64 a') ∧ w'.cell? ⟨w.heap.size + 1, 1, none⟩ = some (.int .i64 c') ∧ w'.cell? ⟨w.heap.size + 1, 2, none⟩ = some (.int .i64 s') ∧ w'.cell? ⟨w.heap.size + 1, 3, none⟩ = some (.int .i64 m')) ∧ Below wr.heap.size wr w') (first | exact ⟨e8.1, e8.2.1, (Below.refl _ _).drew⟩ | exact keep8b (by assumption) hb | go_keep)
                    (first | (go_at_call 68; (with_reducible refine (HC1.out _).mono ?_); rintro e w' ⟨rfl, hb⟩) | (go_at_call 68; (with_reducible refine (HC2.out _).mono ?_); rintro e w' ⟨rfl, hb⟩) | (go_at_call 67; refine (apart_any x y _ (by omega) (by omega) (by omega) (by omega)).mono ?_; rintro e w' ⟨rfl, hb⟩))
                  have hbb : Below wr.heap.size wr w' := (‹_ ∧ _ ∧ Below wr.heap.size wr w'›).2.2
                  have B3 := hB'.below hbb
                  have D3 := hD'.below hbb
                  have b3 := hb'.trans (hbb.mono hb'.size)
                  go_wp2
                  go_roundw
                  case rel => exact ⟨k + 1, ⟨i, k, absZ (x - y)⟩, by omega, by go_num, rfl, rfl, rfl, by rw [show 5 - (k + 1) = 4 - k from by omega]; exact HQ'.out, B3, D3, b3⟩
                  case measure => simp [intOf]; omega
                · rw [if_neg (by omega)] at hQ
                  have HQ' := Lib.hid hQ
                  clear hQ HQ
                  go_wp2
                  go_region_held3 (fun w' => (w'.cell? ⟨w.heap.size, 0, none⟩ = some (.int .i64 a) ∧ w'.cell? ⟨w.heap.size, 1, none⟩ = some (.int .i64 c) ∧ w'.cell? ⟨w.heap.size, 2, none⟩ = some (.int .i64 s) ∧ w'.cell? ⟨w.heap.size, 3, none⟩ = some (.int .i64 m)) ∧ (w'.cell? ⟨w.heap.size + 1, 0, none⟩ = some (.int .i64 a') ∧ w'.cell? ⟨w.heap.size + 1, 1, none⟩ = some (.int .i64 c') ∧ w'.cell? ⟨w.heap.size + 1, 2, none⟩ = some (.int .i64 s') ∧ w'.cell? ⟨w.heap.size + 1, 3, none⟩ = some (.int .i64 m')) ∧ Below wr.heap.size wr w') (first | exact ⟨e8.1, e8.2.1, (Below.refl _ _).drew⟩ | exact keep8b (by assumption) hb | go_keep)
                    (first | (go_at_call 68; (with_reducible refine (HC1.out _).mono ?_); rintro e w' ⟨rfl, hb⟩) | (go_at_call 68; (with_reducible refine (HC2.out _).mono ?_); rintro e w' ⟨rfl, hb⟩) | (go_at_call 67; refine (apart_any x y _ (by omega) (by omega) (by omega) (by omega)).mono ?_; rintro e w' ⟨rfl, hb⟩))
                  have hbb : Below wr.heap.size wr w' := (‹_ ∧ _ ∧ Below wr.heap.size wr w'›).2.2
                  have B3 := hB'.below hbb
                  have D3 := hD'.below hbb
                  have b3 := hb'.trans (hbb.mono hb'.size)
                  go_wp2
                  go_roundw
                  case rel => exact ⟨k + 1, S', by omega, by go_num, rfl, rfl, rfl, by rw [show 5 - (k + 1) = 4 - k from by omega]; exact HQ'.out, B3, D3, b3⟩
                  case measure => simp [intOf]; omega
            · have : k = 5 := by omega
              subst this
              have hQ := HQ.out
              rw [show 5 - 5 = 0 from rfl] at hQ
              unfold mIn at hQ
              subst hQ
              go_wp2
              go_roundw
              case rel => exact ⟨i + 1, S', by omega, by go_num, rfl, rfl, rfl, by rw [show 5 - (i + 1) = 4 - i from by omega]; exact HO.out, hB', hD', hb'⟩
              case measure => simp [intOf]; omega
        · have : i = 5 := by omega
          subst this
          have hP := HP.out
          rw [show 5 - 5 = 0 from rfl] at hP
          unfold mOut at hP
          subst hP
          go_wp2
          go_ret3
          exact ⟨rfl, hb⟩

set_option maxRecDepth 100000 in
set_option maxHeartbeats 4000000 in
theorem specMatchDirections_any (a c s m a' c' s' m' : Int) (w : World) :
    Calls Try.prog 28 #[.agg #[.int .i64 a, .int .i64 c, .int .i64 s, .int .i64 m], .agg #[.int .i64 a', .int .i64 c', .int .i64 s', .int .i64 m']] w fun e w' => e = .returned (.tuple #[.int .i64 (matchZ a c s m a' c' s' m').1, .int .i64 (matchZ a c s m a' c' s' m').2.1, .int .i64 (matchZ a c s m a' c' s' m').2.2]) ∧ Below w.heap.size w w' := by
  have b0 : Below w.heap.size w ((w.alloc (.cells #[.int .i64 a, .int .i64 c, .int .i64 s, .int .i64 m] 25)).alloc (.cells #[.int .i64 a', .int .i64 c', .int .i64 s', .int .i64 m'] 25)) := (by go_grown)
  have B0 := (Box.new w #[.int .i64 a, .int .i64 c, .int .i64 s, .int .i64 m] 25).alloc (.cells #[.int .i64 a', .int .i64 c', .int .i64 s', .int .i64 m'] 25)
  have D0 : Box ((w.alloc (.cells #[.int .i64 a, .int .i64 c, .int .i64 s, .int .i64 m] 25)).alloc (.cells #[.int .i64 a', .int .i64 c', .int .i64 s', .int .i64 m'] 25)) (w.heap.size + 1) #[.int .i64 a', .int .i64 c', .int .i64 s', .int .i64 m'] := by
    have := Box.new (w.alloc (.cells #[.int .i64 a, .int .i64 c, .int .i64 s, .int .i64 m] 25)) #[.int .i64 a', .int .i64 c', .int .i64 s', .int .i64 m'] 25
    simpa using this
  cases hl : leatherB a c s m with
  | false =>
    have hz : matchZ a c s m a' c' s' m' = (0, 0, 1) := by unfold matchZ; rw [hl]; rfl
    rw [hz]
    clear hz
    go_enter Try.func28, Try.ntmps28
    go_wp2_with fail
    refine (l12Ok_any _ _ _ _ _).mono ?_
    rintro e w1 ⟨rfl, hb1⟩
    have b1 := b0.trans (hb1.mono b0.size)
    go_wp2_with fail
    go_ret3
    exact ⟨rfl, b1⟩
  | true =>
    cases hl' : leatherB a' c' s' m' with
    | false =>
      have hz : matchZ a c s m a' c' s' m' = (0, 0, 1) := by unfold matchZ; rw [hl, hl']; rfl
      rw [hz]
      clear hz
      go_enter Try.func28, Try.ntmps28
      go_wp2_with fail
      refine (l12Ok_any _ _ _ _ _).mono ?_
      rintro e w1 ⟨rfl, hb1⟩
      have b1 := b0.trans (hb1.mono b0.size)
      have D1 := D0.below hb1
      have d1 := D1.cell
      clear hb1 B0 D0 b0
      go_wp2_with fail
      refine (l12Ok_any _ _ _ _ _).mono ?_
      rintro e w2 ⟨rfl, hb2⟩
      have b2 := b1.trans (hb2.mono b1.size)
      go_wp2_with fail
      go_ret3
      exact ⟨rfl, b2⟩
    | true =>
      have hk := lok hl
      have hk' := lok hl'
      obtain ⟨R, hR⟩ : ∃ R, mOut a c a' c' 5 0 ⟨0, 0, -1⟩ = R := ⟨_, rfl⟩
      have hz : matchZ a c s m a' c' s' m' = (R.x, R.y, 0) := by unfold matchZ; rw [hl, hl', hR]; rfl
      rw [hz]
      have HR := Lib.hid hR
      have HK := Lib.hid hk
      have HK' := Lib.hid hk'
      clear hz hR hk hk'
      go_enter Try.func28, Try.ntmps28
      go_wp2_with fail
      refine (l12Ok_any _ _ _ _ _).mono ?_
      rintro e w1 ⟨rfl, hb1⟩
      have b1 := b0.trans (hb1.mono b0.size)
      have D1 := D0.below hb1
      have B1 := B0.below hb1
      have d1 := D1.cell
      clear hb1 B0 D0 b0
      go_wp2_with fail
      refine (l12Ok_any _ _ _ _ _).mono ?_
      rintro e w2 ⟨rfl, hb2⟩
      have b2 := b1.trans (hb2.mono b1.size)
      have D2 := D1.below hb2
      have B2 := B1.below hb2
      clear hb2 B1 D1 b1 d1
      go_wp2_with fail
      go_loopw [7, 8, 9, 10] (fun vx vy vl vi wr => ∃ (i : Nat) (S : MSt), i ≤ 5 ∧ vi = .int .i64 i ∧ vx = .int .i64 S.x ∧ vy = .int .i64 S.y ∧ vl = .int .i64 S.l ∧ Hid (mOut a c a' c' (5 - i) i S = R) ∧ Box wr w.heap.size #[.int .i64 a, .int .i64 c, .int .i64 s, .int .i64 m] ∧ Box wr (w.heap.size + 1) #[.int .i64 a', .int .i64 c', .int .i64 s', .int .i64 m'] ∧ Below w.heap.size w wr) (fun _ _ _ vi _ => 5 - (intOf vi).toNat)
      case atStart => exact ⟨0, ⟨0, 0, -1⟩, by omega, rfl, rfl, rfl, rfl, HR, B2, D2, b2⟩
      case round =>
        obtain ⟨i, S, hi5, rfl, rfl, rfl, rfl, HP, hB, hD, hb⟩ := hrel
        obtain ⟨wo, rfl⟩ : ∃ wo : World, wo = wr := ⟨_, rfl⟩
        by_cases hlt : i ≤ 4
        · have hP := HP.out
          rw [show 5 - i = (4 - i) + 1 from by omega] at hP
          unfold mOut at hP
          obtain ⟨T, hT⟩ : ∃ T, mIn a c a' c' i 5 0 S = T := ⟨_, rfl⟩
          rw [hT] at hP
          have HO := Lib.hid hP
          have HT := Lib.hid hT
          clear hP hT HP
          have hi4 : (i : Int) ≤ 4 := by omega
          have hdi : decide ((i : Int) ≤ 4) = true := by simpa using hi4
          go_wp2
          go_loopw [7, 8, 9, 11] (fun vx vy vl vk wr => ∃ (k : Nat) (S : MSt), k ≤ 5 ∧ vk = .int .i64 k ∧ vx = .int .i64 S.x ∧ vy = .int .i64 S.y ∧ vl = .int .i64 S.l ∧ Hid (mIn a c a' c' i (5 - k) k S = T) ∧ Box wr w.heap.size #[.int .i64 a, .int .i64 c, .int .i64 s, .int .i64 m] ∧ Box wr (w.heap.size + 1) #[.int .i64 a', .int .i64 c', .int .i64 s', .int .i64 m'] ∧ Below w.heap.size w wr) (fun _ _ _ vk _ => 5 - (intOf vk).toNat)
          case atStart => exact ⟨0, S, by omega, rfl, rfl, rfl, rfl, HT, hB, hD, hb⟩
          case round =>
            obtain ⟨k, S', hk5, rfl, rfl, rfl, rfl, HQ, hB', hD', hb'⟩ := hrel
            by_cases hltk : k ≤ 4
            · have hQ := HQ.out
              rw [show 5 - k = (4 - k) + 1 from by omega] at hQ
              unfold mIn mStep at hQ
              have hk := HK.out
              have hk' := HK'.out
              have hg1 := (give_bd hk.a0 hk.a1 hk.c0 hk.c1 (d := (i : Int)) (by omega) (by omega)).2.2
              have hg2 := (give_bd hk'.a0 hk'.a1 hk'.c0 hk'.c1 (d := (k : Int)) (by omega) (by omega)).2.2
              have hc1 := fun W => l12Give_any a c s m i W hk (by omega) (by omega)
              have hc2 := fun W => l12Give_any a' c' s' m' k W hk' (by omega) (by omega)
              generalize giveZ a c (i : Int) = x at *
              generalize giveZ a' c' (k : Int) = y at *
              have HC1 := Lib.hid hc1
              have HC2 := Lib.hid hc2
              obtain ⟨hx0, hx1⟩ := hg1
              obtain ⟨hy0, hy1⟩ := hg2
              have cB := hB'.cell
              have cD := hD'.cell
              have e8 : (wr.cell? ⟨w.heap.size, 0, none⟩ = some (.int .i64 a) ∧ wr.cell? ⟨w.heap.size, 1, none⟩ = some (.int .i64 c) ∧ wr.cell? ⟨w.heap.size, 2, none⟩ = some (.int .i64 s) ∧ wr.cell? ⟨w.heap.size, 3, none⟩ = some (.int .i64 m)) ∧ (wr.cell? ⟨w.heap.size + 1, 0, none⟩ = some (.int .i64 a') ∧ wr.cell? ⟨w.heap.size + 1, 1, none⟩ = some (.int .i64 c') ∧ wr.cell? ⟨w.heap.size + 1, 2, none⟩ = some (.int .i64 s') ∧ wr.cell? ⟨w.heap.size + 1, 3, none⟩ = some (.int .i64 m')) ∧ Below wr.heap.size wr wr := ⟨⟨cB 0, cB 1, cB 2, cB 3⟩, ⟨cD 0, cD 1, cD 2, cD 3⟩, Below.refl _ _⟩
              clear hc1 hc2 hk hk'
              by_cases hl0 : S'.l < 0
              · rw [if_pos (Or.inl hl0)] at hQ
                have HQ' := Lib.hid hQ
                clear hQ HQ
                go_wp2
                go_region_held3 (fun w' => (w'.cell? ⟨w.heap.size, 0, none⟩ = some (.int .i64 a) ∧ w'.cell? ⟨w.heap.size, 1, none⟩ = some (.int .i64 c) ∧ w'.cell? ⟨w.heap.size, 2, none⟩ = some (.int .i64 s) ∧ w'.cell? ⟨w.heap.size, 3, none⟩ = some (.int .i64 m)) ∧ (w'.cell? ⟨w.heap.size + 1, 0, none⟩ = some (.int .i64 a') ∧ w'.cell? ⟨w.heap.size + 1, 1, none⟩ = some (.int .i64 c') ∧ w'.cell? ⟨w.heap.size + 1, 2, none⟩ = some (.int .i64 s') ∧ w'.cell? ⟨w.heap.size + 1, 3, none⟩ = some (.int .i64 m')) ∧ Below wr.heap.size wr w') (first | exact ⟨e8.1, e8.2.1, (Below.refl _ _).drew⟩ | exact keep8b (by assumption) hb | go_keep)
                  (first | (go_at_call 62; (with_reducible refine (HC1.out _).mono ?_); rintro e w' ⟨rfl, hb⟩) | (go_at_call 62; (with_reducible refine (HC2.out _).mono ?_); rintro e w' ⟨rfl, hb⟩) | (go_at_call 66; rw [IntWalk.i64_in (x - y) (by omega)]; refine (l02Size_any (x - y) _ (by omega) (by omega)).mono ?_; rintro e w' ⟨rfl, rfl⟩))
                have hbb : Below wr.heap.size wr w' := (‹_ ∧ _ ∧ Below wr.heap.size wr w'›).2.2
                have B3 := hB'.below hbb
                have D3 := hD'.below hbb
                have b3 := hb'.trans (hbb.mono hb'.size)
                go_wp2
                go_roundw
                case rel => exact ⟨k + 1, ⟨i, k, absZ (x - y)⟩, by omega, by go_num, rfl, rfl, rfl, by rw [show 5 - (k + 1) = 4 - k from by omega]; exact HQ'.out, B3, D3, b3⟩
                case measure => simp [intOf]; omega
              · by_cases hxl : absZ (x - y) < S'.l
                · rw [if_pos (Or.inr hxl)] at hQ
                  have HQ' := Lib.hid hQ
                  clear hQ HQ
                  go_wp2
                  go_region_held3 (fun w' => (w'.cell? ⟨w.heap.size, 0, none⟩ = some (.int .i64 a) ∧ w'.cell? ⟨w.heap.size, 1, none⟩ = some (.int .i64 c) ∧ w'.cell? ⟨w.heap.size, 2, none⟩ = some (.int .i64 s) ∧ w'.cell? ⟨w.heap.size, 3, none⟩ = some (.int .i64 m)) ∧ (w'.cell? ⟨w.heap.size + 1, 0, none⟩ = some (.int .i64 a') ∧ w'.cell? ⟨w.heap.size + 1, 1, none⟩ = some (.int .i64 c') ∧ w'.cell? ⟨w.heap.size + 1, 2, none⟩ = some (.int .i64 s') ∧ w'.cell? ⟨w.heap.size + 1, 3, none⟩ = some (.int .i64 m')) ∧ Below wr.heap.size wr w') (first | exact ⟨e8.1, e8.2.1, (Below.refl _ _).drew⟩ | exact keep8b (by assumption) hb | go_keep)
                    (first | (go_at_call 62; (with_reducible refine (HC1.out _).mono ?_); rintro e w' ⟨rfl, hb⟩) | (go_at_call 62; (with_reducible refine (HC2.out _).mono ?_); rintro e w' ⟨rfl, hb⟩) | (go_at_call 66; rw [IntWalk.i64_in (x - y) (by omega)]; refine (l02Size_any (x - y) _ (by omega) (by omega)).mono ?_; rintro e w' ⟨rfl, rfl⟩))
                  have hbb : Below wr.heap.size wr w' := (‹_ ∧ _ ∧ Below wr.heap.size wr w'›).2.2
                  have B3 := hB'.below hbb
                  have D3 := hD'.below hbb
                  have b3 := hb'.trans (hbb.mono hb'.size)
                  go_wp2
                  go_roundw
                  case rel => exact ⟨k + 1, ⟨i, k, absZ (x - y)⟩, by omega, by go_num, rfl, rfl, rfl, by rw [show 5 - (k + 1) = 4 - k from by omega]; exact HQ'.out, B3, D3, b3⟩
                  case measure => simp [intOf]; omega
                · rw [if_neg (by omega)] at hQ
                  have HQ' := Lib.hid hQ
                  clear hQ HQ
                  go_wp2
                  go_region_held3 (fun w' => (w'.cell? ⟨w.heap.size, 0, none⟩ = some (.int .i64 a) ∧ w'.cell? ⟨w.heap.size, 1, none⟩ = some (.int .i64 c) ∧ w'.cell? ⟨w.heap.size, 2, none⟩ = some (.int .i64 s) ∧ w'.cell? ⟨w.heap.size, 3, none⟩ = some (.int .i64 m)) ∧ (w'.cell? ⟨w.heap.size + 1, 0, none⟩ = some (.int .i64 a') ∧ w'.cell? ⟨w.heap.size + 1, 1, none⟩ = some (.int .i64 c') ∧ w'.cell? ⟨w.heap.size + 1, 2, none⟩ = some (.int .i64 s') ∧ w'.cell? ⟨w.heap.size + 1, 3, none⟩ = some (.int .i64 m')) ∧ Below wr.heap.size wr w') (first | exact ⟨e8.1, e8.2.1, (Below.refl _ _).drew⟩ | exact keep8b (by assumption) hb | go_keep)
                    (first | (go_at_call 62; (with_reducible refine (HC1.out _).mono ?_); rintro e w' ⟨rfl, hb⟩) | (go_at_call 62; (with_reducible refine (HC2.out _).mono ?_); rintro e w' ⟨rfl, hb⟩) | (go_at_call 66; rw [IntWalk.i64_in (x - y) (by omega)]; refine (l02Size_any (x - y) _ (by omega) (by omega)).mono ?_; rintro e w' ⟨rfl, rfl⟩))
                  have hbb : Below wr.heap.size wr w' := (‹_ ∧ _ ∧ Below wr.heap.size wr w'›).2.2
                  have B3 := hB'.below hbb
                  have D3 := hD'.below hbb
                  have b3 := hb'.trans (hbb.mono hb'.size)
                  go_wp2
                  go_roundw
                  case rel => exact ⟨k + 1, S', by omega, by go_num, rfl, rfl, rfl, by rw [show 5 - (k + 1) = 4 - k from by omega]; exact HQ'.out, B3, D3, b3⟩
                  case measure => simp [intOf]; omega
            · have : k = 5 := by omega
              subst this
              have hQ := HQ.out
              rw [show 5 - 5 = 0 from rfl] at hQ
              unfold mIn at hQ
              subst hQ
              go_wp2
              go_roundw
              case rel => exact ⟨i + 1, S', by omega, by go_num, rfl, rfl, rfl, by rw [show 5 - (i + 1) = 4 - i from by omega]; exact HO.out, hB', hD', hb'⟩
              case measure => simp [intOf]; omega
        · have : i = 5 := by omega
          subst this
          have hP := HP.out
          rw [show 5 - 5 = 0 from rfl] at hP
          unfold mOut at hP
          subst hP
          go_wp2
          go_ret3
          exact ⟨rfl, hb⟩

set_option maxHeartbeats 1000000 in
theorem law_PullFor (a c s m d len want : Int) (w : World) :
    Calls Try.prog 10 #[.agg #[.int .i64 a, .int .i64 c, .int .i64 s, .int .i64 m], .int .i64 d, .int .i64 len, .int .i64 want] w fun e w' => e = .returned (.bool true) ∧ Below w.heap.size w w' := by
  have B0 := Box.new w #[.int .i64 a, .int .i64 c, .int .i64 s, .int .i64 m] 23
  have b0 : Below w.heap.size w (w.alloc (.cells #[.int .i64 a, .int .i64 c, .int .i64 s, .int .i64 m] 23)) := (by go_grown)
  have c0 := B0.cell
  go_enter Try.func10, Try.ntmps10
  go_wp2_with fail
  refine (toLeather_any _ _ _ _ _).mono ?_
  rintro e w1 ⟨rfl, hb1⟩
  have B1 := B0.below hb1
  have b1 := b0.trans (hb1.mono b0.size)
  have c1 := B1.cell
  clear hb1 B0 b0 c0
  go_wp2_with fail
  refine (specPullFor_any a c s m d len want _).mono ?_
  rintro e w2 ⟨rfl, hb2⟩
  have B2 := B1.below hb2
  have b2 := b1.trans (hb2.mono b1.size)
  have c2 := B2.cell
  clear hb2 B1 b1 c1
  go_wp2_with fail
  refine (toLeather_any _ _ _ _ _).mono ?_
  rintro e w3 ⟨rfl, hb3⟩
  have B3 := B2.below hb3
  have b3 := b2.trans (hb3.mono b2.size)
  have c3 := B3.cell
  clear hb3 B2 b2 c2
  go_wp2_with fail
  refine (implPullFor_any a c s m d len want _).mono ?_
  rintro e w4 ⟨rfl, hb4⟩
  have B4 := B3.below hb4
  have b4 := b3.trans (hb4.mono b3.size)
  have c4 := B4.cell
  clear hb4 B3 b3 c3
  go_wp2_with fail
  go_returns
  exact ⟨rfl, b4⟩

set_option maxHeartbeats 1000000 in
theorem law_GreatestPull (a c s m d : Int) (w : World) :
    Calls Try.prog 6 #[.agg #[.int .i64 a, .int .i64 c, .int .i64 s, .int .i64 m], .int .i64 d] w fun e w' => e = .returned (.bool true) ∧ Below w.heap.size w w' := by
  have B0 := Box.new w #[.int .i64 a, .int .i64 c, .int .i64 s, .int .i64 m] 23
  have b0 : Below w.heap.size w (w.alloc (.cells #[.int .i64 a, .int .i64 c, .int .i64 s, .int .i64 m] 23)) := (by go_grown)
  have c0 := B0.cell
  go_enter Try.func6, Try.ntmps6
  go_wp2_with fail
  refine (toLeather_any _ _ _ _ _).mono ?_
  rintro e w1 ⟨rfl, hb1⟩
  have B1 := B0.below hb1
  have b1 := b0.trans (hb1.mono b0.size)
  have c1 := B1.cell
  clear hb1 B0 b0 c0
  go_wp2_with fail
  refine (specGreatestPull_any a c s m d _).mono ?_
  rintro e w2 ⟨rfl, hb2⟩
  have B2 := B1.below hb2
  have b2 := b1.trans (hb2.mono b1.size)
  have c2 := B2.cell
  clear hb2 B1 b1 c1
  go_wp2_with fail
  refine (toLeather_any _ _ _ _ _).mono ?_
  rintro e w3 ⟨rfl, hb3⟩
  have B3 := B2.below hb3
  have b3 := b2.trans (hb3.mono b2.size)
  have c3 := B3.cell
  clear hb3 B2 b2 c2
  go_wp2_with fail
  refine (implGreatestPull_any a c s m d _).mono ?_
  rintro e w4 ⟨rfl, hb4⟩
  have B4 := B3.below hb4
  have b4 := b3.trans (hb4.mono b3.size)
  have c4 := B4.cell
  clear hb4 B3 b3 c3
  go_wp2_with fail
  go_returns
  exact ⟨rfl, b4⟩

set_option maxHeartbeats 1000000 in
theorem law_BestDirection (a c s m f low high : Int) (w : World) :
    Calls Try.prog 8 #[.agg #[.int .i64 a, .int .i64 c, .int .i64 s, .int .i64 m], .int .i64 f, .int .i64 low, .int .i64 high] w fun e w' => e = .returned (.bool true) ∧ Below w.heap.size w w' := by
  have B0 := Box.new w #[.int .i64 a, .int .i64 c, .int .i64 s, .int .i64 m] 23
  have b0 : Below w.heap.size w (w.alloc (.cells #[.int .i64 a, .int .i64 c, .int .i64 s, .int .i64 m] 23)) := (by go_grown)
  have c0 := B0.cell
  go_enter Try.func8, Try.ntmps8
  go_wp2_with fail
  refine (toLeather_any _ _ _ _ _).mono ?_
  rintro e w1 ⟨rfl, hb1⟩
  have B1 := B0.below hb1
  have b1 := b0.trans (hb1.mono b0.size)
  have c1 := B1.cell
  clear hb1 B0 b0 c0
  go_wp2_with fail
  refine (specBestDirection_any a c s m f low high _).mono ?_
  rintro e w2 ⟨rfl, hb2⟩
  have B2 := B1.below hb2
  have b2 := b1.trans (hb2.mono b1.size)
  have c2 := B2.cell
  clear hb2 B1 b1 c1
  go_wp2_with fail
  refine (toLeather_any _ _ _ _ _).mono ?_
  rintro e w3 ⟨rfl, hb3⟩
  have B3 := B2.below hb3
  have b3 := b2.trans (hb3.mono b2.size)
  have c3 := B3.cell
  clear hb3 B2 b2 c2
  go_wp2_with fail
  refine (implBestDirection_any a c s m f low high _).mono ?_
  rintro e w4 ⟨rfl, hb4⟩
  have B4 := B3.below hb4
  have b4 := b3.trans (hb4.mono b3.size)
  have c4 := B4.cell
  clear hb4 B3 b3 c3
  go_wp2_with fail
  go_returns
  exact ⟨rfl, b4⟩

set_option maxHeartbeats 2000000 in
theorem law_MatchDirections (a c s m a' c' s' m' : Int) (w : World) :
    Calls Try.prog 7 #[.agg #[.int .i64 a, .int .i64 c, .int .i64 s, .int .i64 m], .agg #[.int .i64 a', .int .i64 c', .int .i64 s', .int .i64 m']] w fun e w' => e = .returned (.bool true) ∧ Below w.heap.size w w' := by
  have b0 : Below w.heap.size w ((w.alloc (.cells #[.int .i64 a, .int .i64 c, .int .i64 s, .int .i64 m] 23)).alloc (.cells #[.int .i64 a', .int .i64 c', .int .i64 s', .int .i64 m'] 23)) := (by go_grown)
  have B0 := (Box.new w #[.int .i64 a, .int .i64 c, .int .i64 s, .int .i64 m] 23).alloc (.cells #[.int .i64 a', .int .i64 c', .int .i64 s', .int .i64 m'] 23)
  have D0 : Box ((w.alloc (.cells #[.int .i64 a, .int .i64 c, .int .i64 s, .int .i64 m] 23)).alloc (.cells #[.int .i64 a', .int .i64 c', .int .i64 s', .int .i64 m'] 23)) (w.heap.size + 1) #[.int .i64 a', .int .i64 c', .int .i64 s', .int .i64 m'] := by
    have := Box.new (w.alloc (.cells #[.int .i64 a, .int .i64 c, .int .i64 s, .int .i64 m] 23)) #[.int .i64 a', .int .i64 c', .int .i64 s', .int .i64 m'] 23
    simpa using this
  go_enter Try.func7, Try.ntmps7
  have e0 : ((((w.alloc (.cells #[.int .i64 a, .int .i64 c, .int .i64 s, .int .i64 m] 23)).alloc (.cells #[.int .i64 a', .int .i64 c', .int .i64 s', .int .i64 m'] 23)).cell? ⟨w.heap.size, 0, none⟩ = some (.int .i64 a) ∧ ((w.alloc (.cells #[.int .i64 a, .int .i64 c, .int .i64 s, .int .i64 m] 23)).alloc (.cells #[.int .i64 a', .int .i64 c', .int .i64 s', .int .i64 m'] 23)).cell? ⟨w.heap.size, 1, none⟩ = some (.int .i64 c) ∧ ((w.alloc (.cells #[.int .i64 a, .int .i64 c, .int .i64 s, .int .i64 m] 23)).alloc (.cells #[.int .i64 a', .int .i64 c', .int .i64 s', .int .i64 m'] 23)).cell? ⟨w.heap.size, 2, none⟩ = some (.int .i64 s) ∧ ((w.alloc (.cells #[.int .i64 a, .int .i64 c, .int .i64 s, .int .i64 m] 23)).alloc (.cells #[.int .i64 a', .int .i64 c', .int .i64 s', .int .i64 m'] 23)).cell? ⟨w.heap.size, 3, none⟩ = some (.int .i64 m)) ∧ (((w.alloc (.cells #[.int .i64 a, .int .i64 c, .int .i64 s, .int .i64 m] 23)).alloc (.cells #[.int .i64 a', .int .i64 c', .int .i64 s', .int .i64 m'] 23)).cell? ⟨w.heap.size + 1, 0, none⟩ = some (.int .i64 a') ∧ ((w.alloc (.cells #[.int .i64 a, .int .i64 c, .int .i64 s, .int .i64 m] 23)).alloc (.cells #[.int .i64 a', .int .i64 c', .int .i64 s', .int .i64 m'] 23)).cell? ⟨w.heap.size + 1, 1, none⟩ = some (.int .i64 c') ∧ ((w.alloc (.cells #[.int .i64 a, .int .i64 c, .int .i64 s, .int .i64 m] 23)).alloc (.cells #[.int .i64 a', .int .i64 c', .int .i64 s', .int .i64 m'] 23)).cell? ⟨w.heap.size + 1, 2, none⟩ = some (.int .i64 s') ∧ ((w.alloc (.cells #[.int .i64 a, .int .i64 c, .int .i64 s, .int .i64 m] 23)).alloc (.cells #[.int .i64 a', .int .i64 c', .int .i64 s', .int .i64 m'] 23)).cell? ⟨w.heap.size + 1, 3, none⟩ = some (.int .i64 m')) ∧ Below w.heap.size w ((w.alloc (.cells #[.int .i64 a, .int .i64 c, .int .i64 s, .int .i64 m] 23)).alloc (.cells #[.int .i64 a', .int .i64 c', .int .i64 s', .int .i64 m'] 23))) := ⟨⟨B0.cell 0, B0.cell 1, B0.cell 2, B0.cell 3⟩, ⟨D0.cell 0, D0.cell 1, D0.cell 2, D0.cell 3⟩, b0⟩
  have E0 := Lib.hid e0
  clear e0 B0 D0 b0
  go_wp2_with fail
  go_region_held3 (fun w' => ((w'.cell? ⟨w.heap.size, 0, none⟩ = some (.int .i64 a) ∧ w'.cell? ⟨w.heap.size, 1, none⟩ = some (.int .i64 c) ∧ w'.cell? ⟨w.heap.size, 2, none⟩ = some (.int .i64 s) ∧ w'.cell? ⟨w.heap.size, 3, none⟩ = some (.int .i64 m)) ∧ (w'.cell? ⟨w.heap.size + 1, 0, none⟩ = some (.int .i64 a') ∧ w'.cell? ⟨w.heap.size + 1, 1, none⟩ = some (.int .i64 c') ∧ w'.cell? ⟨w.heap.size + 1, 2, none⟩ = some (.int .i64 s') ∧ w'.cell? ⟨w.heap.size + 1, 3, none⟩ = some (.int .i64 m')) ∧ Below w.heap.size w w')) (first | exact ⟨E0.out.1, E0.out.2.1, E0.out.2.2.drew⟩ | exact keep8b (by assumption) hb | go_keep)
    (first | (go_at_call 18; refine (toLeather_any _ _ _ _ _).mono ?_; rintro e w' ⟨rfl, hb⟩) | (go_at_call 28; refine (specMatchDirections_any a c s m a' c' s' m' _).mono ?_; rintro e w' ⟨rfl, hb⟩))
  have e1 : ((w'.cell? ⟨w.heap.size, 0, none⟩ = some (.int .i64 a) ∧ w'.cell? ⟨w.heap.size, 1, none⟩ = some (.int .i64 c) ∧ w'.cell? ⟨w.heap.size, 2, none⟩ = some (.int .i64 s) ∧ w'.cell? ⟨w.heap.size, 3, none⟩ = some (.int .i64 m)) ∧ (w'.cell? ⟨w.heap.size + 1, 0, none⟩ = some (.int .i64 a') ∧ w'.cell? ⟨w.heap.size + 1, 1, none⟩ = some (.int .i64 c') ∧ w'.cell? ⟨w.heap.size + 1, 2, none⟩ = some (.int .i64 s') ∧ w'.cell? ⟨w.heap.size + 1, 3, none⟩ = some (.int .i64 m')) ∧ Below w.heap.size w w') := by assumption
  have E1 := Lib.hid e1
  obtain ⟨w1, rfl⟩ : ∃ w1 : World, w1 = w' := ⟨_, rfl⟩
  clear e1 E0
  go_wp2_with fail
  go_region_held3 (fun w' => ((w'.cell? ⟨w.heap.size, 0, none⟩ = some (.int .i64 a) ∧ w'.cell? ⟨w.heap.size, 1, none⟩ = some (.int .i64 c) ∧ w'.cell? ⟨w.heap.size, 2, none⟩ = some (.int .i64 s) ∧ w'.cell? ⟨w.heap.size, 3, none⟩ = some (.int .i64 m)) ∧ (w'.cell? ⟨w.heap.size + 1, 0, none⟩ = some (.int .i64 a') ∧ w'.cell? ⟨w.heap.size + 1, 1, none⟩ = some (.int .i64 c') ∧ w'.cell? ⟨w.heap.size + 1, 2, none⟩ = some (.int .i64 s') ∧ w'.cell? ⟨w.heap.size + 1, 3, none⟩ = some (.int .i64 m')) ∧ Below w.heap.size w w')) (first | exact ⟨E1.out.1, E1.out.2.1, E1.out.2.2.drew⟩ | exact keep8b (by assumption) hb | go_keep)
    (first | (go_at_call 18; refine (toLeather_any _ _ _ _ _).mono ?_; rintro e w' ⟨rfl, hb⟩) | (go_at_call 29; refine (implMatchDirections_any a c s m a' c' s' m' _).mono ?_; rintro e w' ⟨rfl, hb⟩))
  have e2 : ((w'.cell? ⟨w.heap.size, 0, none⟩ = some (.int .i64 a) ∧ w'.cell? ⟨w.heap.size, 1, none⟩ = some (.int .i64 c) ∧ w'.cell? ⟨w.heap.size, 2, none⟩ = some (.int .i64 s) ∧ w'.cell? ⟨w.heap.size, 3, none⟩ = some (.int .i64 m)) ∧ (w'.cell? ⟨w.heap.size + 1, 0, none⟩ = some (.int .i64 a') ∧ w'.cell? ⟨w.heap.size + 1, 1, none⟩ = some (.int .i64 c') ∧ w'.cell? ⟨w.heap.size + 1, 2, none⟩ = some (.int .i64 s') ∧ w'.cell? ⟨w.heap.size + 1, 3, none⟩ = some (.int .i64 m')) ∧ Below w.heap.size w w') := by assumption
  go_wp2_with fail
  go_returns
  exact ⟨rfl, e2.2.2⟩
end Go.Proofs.Ytdkklkpegnblnaa
