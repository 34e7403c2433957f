/- HeightBound of the reference. -/
import Derived.Test.YthdbaflihgkomaaHb
namespace Go.Proofs.Ythdbaflihgkomaa
open Go.RowKit

set_option maxHeartbeats 2000000 in
theorem specHeightBound_any (A : Option Addr) (n c : Nat) (ps : List (Int × Int)) (roll : Int) (w : World) (h : Rd w 2 A n c (pr ps)) :
    Calls Try.prog 20 #[.slice A n c, .int .i64 roll] w fun e w' => e = .returned (if blocksB ps roll = true then .tuple #[.int .i64 (heightZ ps roll), .int .i64 0] else .tuple #[.int .i64 0, .int .i64 1]) ∧ Below w.heap.size w w' := by
  have hl := h.plen
  have h1 := h.cap
  have h2 := h.max
  have hcall := fun W h => l11Ok_any A n c ps roll W h
  cases hz : blocksB ps roll with
  | false =>
    rw [hz] at hcall
    have HC := Lib.hid hcall
    have H := Lib.hid h
    clear hcall h hz
    go_enter Try.func20, Try.ntmps20
    go_wp2_with fail
    refine (HC.out _ H.out).mono ?_
    rintro e w1 ⟨rfl, rfl⟩
    go_wp2
    go_returns
    exact ⟨rfl, Below.refl _ _⟩
  | true =>
    have ho := bok hz
    have r0 := ho.r0
    have r1 := ho.r1
    have hn9 := ho.len
    have hta := areaB n ho (by omega)
    have htt := tallB n ho (by omega)
    have htake : ps.take n = ps := List.take_of_length_le (by omega)
    rw [htake] at hta htt
    have hn9' : n ≤ 9 := by omega
    have hq : 0 ≤ (areaF ps + roll - 1) / roll := Int.ediv_nonneg (by omega) (by omega)
    have hq1 : (areaF ps + roll - 1) / roll ≤ areaF ps + roll - 1 := Int.ediv_le_self _ (by omega)
    rw [if_pos rfl]
    unfold heightZ
    obtain ⟨T, hT⟩ : ∃ T, tallF ps = T := ⟨_, rfl⟩
    obtain ⟨R, hR⟩ : ∃ R, areaF ps = R := ⟨_, rfl⟩
    rw [hR] at hta hq hq1 ⊢
    rw [hT] at htt ⊢
    rw [hz] at hcall
    have HC := Lib.hid hcall
    have H := Lib.hid h
    have HL := Lib.hid hl
    have HO := Lib.hid ho
    have HT := Lib.hid hT
    have HR := Lib.hid hR
    have HK := Lib.hid htake
    have HQ := Lib.hid (And.intro hq hq1)
    clear hcall h hz hl ho hT htake hR hq hq1
    go_enter Try.func20, Try.ntmps20
    go_wp2_with fail
    refine (HC.out _ H.out).mono ?_
    rintro e w1 ⟨rfl, rfl⟩
    go_wp2_with fail
    go_loopw [6, 7, 8] (fun am sm i wr => ∃ (k : Nat) (Q S : Int), k ≤ n ∧ i = .int .i64 k ∧ am = .int .i64 Q ∧ sm = .int .i64 S ∧ Hid (areaF (ps.take k) = Q) ∧ Hid (tallF (ps.take k) = S) ∧ Below w.heap.size w wr) (fun _ _ i _ => n - (intOf i).toNat)
    case atStart => exact ⟨0, 0, 0, Nat.zero_le _, rfl, rfl, rfl, (show Hid _ from rfl), (show Hid _ from rfl), Below.refl _ _⟩
    case round =>
      obtain ⟨k, Q, S, hk, rfl, rfl, rfl, HA, HS, hb⟩ := hrel
      by_cases hlt : k < n
      · obtain ⟨b, o, x, y, hA, hbl, hx, hc1, hc2⟩ := (H.out.below hb).pair hlt
        subst hA
        have hxy := (HO.out.blk k _ hx).2
        have hxx := HO.out.area hx
        have hS := tallB k HO.out (by have := HL.out; omega)
        have hQ := areaB k HO.out (by have := HL.out; omega)
        rw [HS.out] at hS
        rw [HA.out] at hQ
        have hk0 : (0 : Int) ≤ (k : Int) := by omega
        have hk1 : (k : Int) < (n : Int) := by omega
        have HX : Hid (tallF (ps.take (k + 1)) = max S y) := by rw [take_snoc hx, tall_app _ _ _ (by have := hxy.1; simp at this; omega), HS.out]; exact Lib.hid rfl
        have HY : Hid (areaF (ps.take (k + 1)) = Q + x * y) := by rw [take_snoc hx, area_app, HA.out]; exact Lib.hid rfl
        have Hb := Lib.hid hb
        clear hx hb hxy
        go_wp2
        go_quiet (fail)
        go_wp2_with (go_at_call 53; refine (l00MaxM_any _ _ _).mono ?_; rintro e w' ⟨rfl, rfl⟩)
        go_roundw
        case rel => exact ⟨k + 1, Q + x * y, max S y, by omega, by go_num, rfl, rfl, HY, HX, below_drewN Hb.out _⟩
        case measure => simp [intOf]; omega
      · have : k = n := by omega
        subst this
        have hS : S = T := by rw [← HS.out, HK.out, HT.out]
        have hQ : Q = R := by rw [← HA.out, HK.out, HR.out]
        subst hS
        subst hQ
        have Hb := Lib.hid hb
        clear hb HS HA
        obtain ⟨q0, q1⟩ := HQ.out
        go_wp2_with (go_at_call 53; refine (l00MaxM_any _ _ _).mono ?_; rintro e w' ⟨rfl, rfl⟩)
        go_returns
        exact ⟨rfl, Hb.out⟩
end Go.Proofs.Ythdbaflihgkomaa
