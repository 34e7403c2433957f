/- HeightBound (program and reference): the area and the greatest height. -/
import Derived.Test.YthdbaflihgkomaaVb
import Derived.Test.YthdbaflihgkomaaFrac
import Derived.Lib.MinMax
namespace Go.Proofs.Ythdbaflihgkomaa
open Go.RowKit

def areaF : List (Int × Int) → Int
  | [] => 0
  | p :: ps => p.1 * p.2 + areaF ps
def tallF : List (Int × Int) → Int
  | [] => 0
  | p :: ps => max p.2 (tallF ps)
theorem area_app : ∀ (ps : List (Int × Int)) (x y : Int), areaF (ps ++ [(x, y)]) = areaF ps + x * y
  | [], x, y => by simp [areaF]
  | p :: ps, x, y => by
    simp only [List.cons_append, areaF, area_app ps x y]
    omega
theorem tall_app : ∀ (ps : List (Int × Int)) (x y : Int), 0 ≤ y → tallF (ps ++ [(x, y)]) = max (tallF ps) y
  | [], x, y, h => by simp [tallF]; omega
  | p :: ps, x, y, h => by
    simp only [List.cons_append, tallF, tall_app ps x y h]
    omega
theorem mulB {x y p q : Int} (h0 : 0 ≤ x) (h1 : x ≤ p) (h2 : 0 ≤ y) (h3 : y ≤ q) : 0 ≤ x * y ∧ x * y ≤ p * q :=
  ⟨Int.mul_nonneg h0 h2, Int.mul_le_mul h1 h3 h2 (by omega)⟩
theorem take_snoc {α : Type} {ps : List α} {k : Nat} {z : α} (h : ps[k]? = some z) : ps.take (k + 1) = ps.take k ++ [z] := by rw [List.take_add_one, h]; rfl
theorem BOk.area {ps : List (Int × Int)} {roll : Int} (h : BOk ps roll) {j : Nat} {x y : Int} (hx : ps[j]? = some (x, y)) : 1 ≤ x * y ∧ x * y ≤ 25000000 := by
  have hb := h.blk j _ hx
  have h1 := h.r1
  have h2 := mulB (x := x) (y := y) (p := 5000) (q := 5000) (by omega) (by omega) (by omega) (by omega)
  have h3 := Int.mul_le_mul (show (1 : Int) ≤ x by omega) (show (1 : Int) ≤ y by omega) (by omega) (by omega)
  omega
theorem areaB : ∀ (n : Nat) {ps : List (Int × Int)} {roll : Int}, BOk ps roll → n ≤ ps.length → (n : Int) ≤ areaF (ps.take n) ∧ areaF (ps.take n) ≤ n * 25000000
  | 0, ps, roll, _, _ => by simp [areaF]
  | n + 1, ps, roll, h, hn => by
    obtain ⟨⟨x, y⟩, hx⟩ : ∃ z, ps[n]? = some z := ⟨_, List.getElem?_eq_getElem (by omega)⟩
    have ih := areaB n h (by omega)
    have hb := h.area hx
    rw [take_snoc hx, area_app]
    omega
theorem tallB : ∀ (n : Nat) {ps : List (Int × Int)} {roll : Int}, BOk ps roll → n ≤ ps.length → 0 ≤ tallF (ps.take n) ∧ tallF (ps.take n) ≤ 5000
  | 0, ps, roll, _, _ => by simp [tallF]
  | n + 1, ps, roll, h, hn => by
    obtain ⟨⟨x, y⟩, hx⟩ : ∃ z, ps[n]? = some z := ⟨_, List.getElem?_eq_getElem (by omega)⟩
    have ih := tallB n h (by omega)
    have hb := h.blk n _ hx
    rw [take_snoc hx, tall_app _ _ _ (by omega)]
    omega
def heightZ (ps : List (Int × Int)) (roll : Int) : Int := max (tallF ps) ((areaF ps + roll - 1) / roll)
theorem l00MaxM_any (a b : Int) (w : World) : Calls Try.prog 53 #[.int .i64 a, .int .i64 b] w fun e w' => e = .returned (.int .i64 (max a b)) ∧ w = w' := by
  have h : maxZ a b = max a b := by unfold maxZ; split <;> omega
  rw [← h]
  exact l00Max_any a b w

set_option maxHeartbeats 1000000 in
theorem covered_any (A : Option Addr) (n c : Nat) (ps : List (Int × Int)) (roll : Int) (w : World) (h : Rd w 2 A n c (pr ps)) (ho : BOk ps roll) :
    Calls Try.prog 54 #[.slice A n c] w fun e w' => e = .returned (.int .i64 (areaF ps)) ∧ Below w.heap.size w w' := by
  have hl := h.plen
  have hn9 := ho.len
  have h1 := h.cap
  have h2 := h.max
  have H := Lib.hid h
  have HL := Lib.hid hl
  have HO := Lib.hid ho
  clear h hl ho
  go_enter Try.func54, Try.ntmps54
  go_wp2
  go_loopw [3, 8] (fun sm i wr => ∃ (k : Nat) (S : Int), k ≤ n ∧ i = .int .i64 k ∧ sm = .int .i64 S ∧ Hid (areaF (ps.take k) = S) ∧ Below w.heap.size w wr) (fun _ i _ => n - (intOf i).toNat)
  case atStart => exact ⟨0, 0, Nat.zero_le _, rfl, rfl, (show Hid _ from rfl), Below.refl _ _⟩
  case round =>
    obtain ⟨k, S, hk, rfl, rfl, HS, hb⟩ := hrel
    by_cases hlt : k < n
    · obtain ⟨b, o, x, y, hA, hbl, hx, hc1, hc2⟩ := (H.out.below hb).pair hlt
      subst hA
      have hxy := HO.out.area hx
      have hS := areaB k HO.out (by have := HL.out; omega)
      rw [HS.out] at hS
      have hk0 : (0 : Int) ≤ (k : Int) := by omega
      have hk1 : (k : Int) < (n : Int) := by omega
      have HX : Hid (areaF (ps.take (k + 1)) = S + x * y) := by rw [take_snoc hx, area_app, HS.out]; exact Lib.hid rfl
      have HB : Hid (Below w.heap.size w (wr.alloc (.cells #[.int .i64 x, .int .i64 y] 54))) := hb.alloc hb.size _
      have hn9' : n ≤ 9 := by have := HL.out; omega
      clear hx hb
      go_wp2
      go_roundw
      case rel => exact ⟨k + 1, S + x * y, by omega, by go_num, rfl, HX, HB.out⟩
      case measure => simp [intOf]; omega
    · go_wp2
      go_ret
      have : k = n := by omega
      subst this
      refine ⟨ret_i ?_, hb⟩
      rw [← HS.out, List.take_of_length_le (by rw [HL.out]; exact Nat.le_refl _)]

set_option maxHeartbeats 2000000 in
theorem implHeightBound_any (A : Option Addr) (n c : Nat) (ps : List (Int × Int)) (roll : Int) (w : World) (h : Rd w 2 A n c (pr ps)) :
    Calls Try.prog 21 #[.slice A n c, .int .i64 roll] w fun e w' => e = .returned (if blocksB ps roll = true then .tuple #[.int .i64 (heightZ ps roll), .int .i64 0] else .tuple #[.int .i64 0, .int .i64 1]) ∧ Below w.heap.size w w' := by
  have hl := h.plen
  have h1 := h.cap
  have h2 := h.max
  have hcall := fun W h => implValidBlocks_any A n c ps roll W h
  cases hz : blocksB ps roll with
  | false =>
    rw [hz] at hcall
    have HC := Lib.hid hcall
    have H := Lib.hid h
    clear hcall h hz
    go_enter Try.func21, Try.ntmps21
    go_wp2_with fail
    refine (HC.out _ H.out).mono ?_
    rintro e w1 ⟨rfl, hb⟩
    go_wp2
    go_returns
    exact ⟨rfl, hb⟩
  | true =>
    have ho := bok hz
    have r0 := ho.r0
    have r1 := ho.r1
    have hn9 := ho.len
    have hta := areaB n ho (by omega)
    have htt := tallB n ho (by omega)
    have htake : ps.take n = ps := List.take_of_length_le (by omega)
    rw [htake] at hta htt
    have hn9' : n ≤ 9 := by omega
    have hq : 0 ≤ (areaF ps + roll - 1) / roll := Int.ediv_nonneg (by omega) (by omega)
    have hq1 : (areaF ps + roll - 1) / roll ≤ areaF ps + roll - 1 := Int.ediv_le_self _ (by omega)
    rw [if_pos rfl]
    unfold heightZ
    obtain ⟨T, hT⟩ : ∃ T, tallF ps = T := ⟨_, rfl⟩
    obtain ⟨R, hR⟩ : ∃ R, areaF ps = R := ⟨_, rfl⟩
    have hcov := fun W h => covered_any A n c ps roll W h ho
    rw [hR] at hcov hta hq hq1 ⊢
    rw [hT] at htt ⊢
    rw [hz] at hcall
    have HC := Lib.hid hcall
    have HV := Lib.hid hcov
    have H := Lib.hid h
    have HL := Lib.hid hl
    have HO := Lib.hid ho
    have HT := Lib.hid hT
    have HK := Lib.hid htake
    have HQ := Lib.hid (And.intro hq hq1)
    clear hcall h hz hcov hl ho hT htake hR hq hq1
    go_enter Try.func21, Try.ntmps21
    go_wp2_with fail
    refine (HC.out _ H.out).mono ?_
    rintro e w1 ⟨rfl, hb⟩
    have H1 := Lib.hid (H.out.below hb)
    have HB1 := Lib.hid hb
    clear hb H HC
    go_wp2_with fail
    go_loopw [6, 15] (fun sm i wr => ∃ (k : Nat) (S : Int), k ≤ n ∧ i = .int .i64 k ∧ sm = .int .i64 S ∧ Hid (tallF (ps.take k) = S) ∧ Below w1.heap.size w1 wr) (fun _ i _ => n - (intOf i).toNat)
    case atStart => exact ⟨0, 0, Nat.zero_le _, rfl, rfl, (show Hid _ from rfl), Below.refl _ _⟩
    case round =>
      obtain ⟨k, S, hk, rfl, rfl, HS, hb⟩ := hrel
      by_cases hlt : k < n
      · obtain ⟨b, o, x, y, hA, hbl, hx, hc1, hc2⟩ := (H1.out.below hb).pair hlt
        subst hA
        have hxy := (HO.out.blk k _ hx).2
        have hS := tallB k HO.out (by have := HL.out; omega)
        rw [HS.out] at hS
        have hk0 : (0 : Int) ≤ (k : Int) := by omega
        have hk1 : (k : Int) < (n : Int) := by omega
        have HX : Hid (tallF (ps.take (k + 1)) = max S y) := by rw [take_snoc hx, tall_app _ _ _ (by have := hxy.1; simp at this; omega), HS.out]; exact Lib.hid rfl
        have HB : Hid (Below w1.heap.size w1 (wr.alloc (.cells #[.int .i64 x, .int .i64 y] 54))) := hb.alloc hb.size _
        clear hx hb hxy
        go_wp2
        go_roundw
        case rel => exact ⟨k + 1, max S y, by omega, by go_num, rfl, HX, HB.out⟩
        case measure => simp [intOf]; omega
      · have : k = n := by omega
        subst this
        have hS : S = T := by rw [← HS.out, HK.out, HT.out]
        subst hS
        have b2 := HB1.out.trans (hb.mono HB1.out.size)
        have H2 := Lib.hid (H1.out.below hb)
        clear hb HS
        go_wp2_with fail
        refine (HV.out _ H2.out).mono ?_
        rintro e w3 ⟨rfl, hb⟩
        have b3 := b2.trans (hb.mono b2.size)
        clear hb b2
        obtain ⟨q0, q1⟩ := HQ.out
        go_wp2
        go_returns
        exact ⟨rfl, b3⟩
end Go.Proofs.Ythdbaflihgkomaa
