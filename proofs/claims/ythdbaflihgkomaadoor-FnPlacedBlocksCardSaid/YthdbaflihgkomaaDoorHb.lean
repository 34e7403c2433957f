/- HeightBound (program and reference): the area and the greatest height. -/
import Derived.Test.YthdbaflihgkomaaDoorVb
import Derived.Test.YthdbaflihgkomaaDoorFrac
import Derived.Lib.MinMax
namespace Go.Proofs.YthdbaflihgkomaaDoor
open Go.RowKit

def areaF : List (Int × Int) → Int
  | [] => 0
  | p :: ps => p.1 * p.2 + areaF ps
def tallF : List (Int × Int) → Int
  | [] => 0
  | p :: ps => max p.2 (tallF ps)
theorem area_app : ∀ (ps : List (Int × Int)) (x y : Int), areaF (ps ++ [(x, y)]) = areaF ps + x * y
  | [], x, y => by simp [areaF]
  | p :: ps, x, y => by
    simp only [List.cons_append, areaF, area_app ps x y]
    omega
theorem tall_app : ∀ (ps : List (Int × Int)) (x y : Int), 0 ≤ y → tallF (ps ++ [(x, y)]) = max (tallF ps) y
  | [], x, y, h => by simp [tallF]; omega
  | p :: ps, x, y, h => by
    simp only [List.cons_append, tallF, tall_app ps x y h]
    omega
theorem mulB {x y p q : Int} (h0 : 0 ≤ x) (h1 : x ≤ p) (h2 : 0 ≤ y) (h3 : y ≤ q) : 0 ≤ x * y ∧ x * y ≤ p * q :=
  ⟨Int.mul_nonneg h0 h2, Int.mul_le_mul h1 h3 h2 (by omega)⟩
theorem take_snoc {α : Type} {ps : List α} {k : Nat} {z : α} (h : ps[k]? = some z) : ps.take (k + 1) = ps.take k ++ [z] := by rw [List.take_add_one, h]; rfl
theorem BOk.area {ps : List (Int × Int)} {roll : Int} (h : BOk ps roll) {j : Nat} {x y : Int} (hx : ps[j]? = some (x, y)) : 1 ≤ x * y ∧ x * y ≤ 25000000 := by
  have hb := h.blk j _ hx
  have h1 := h.r1
  have h2 := mulB (x := x) (y := y) (p := 5000) (q := 5000) (by omega) (by omega) (by omega) (by omega)
  have h3 := Int.mul_le_mul (show (1 : Int) ≤ x by omega) (show (1 : Int) ≤ y by omega) (by omega) (by omega)
  omega
theorem areaB : ∀ (n : Nat) {ps : List (Int × Int)} {roll : Int}, BOk ps roll → n ≤ ps.length → (n : Int) ≤ areaF (ps.take n) ∧ areaF (ps.take n) ≤ n * 25000000
  | 0, ps, roll, _, _ => by simp [areaF]
  | n + 1, ps, roll, h, hn => by
    obtain ⟨⟨x, y⟩, hx⟩ : ∃ z, ps[n]? = some z := ⟨_, List.getElem?_eq_getElem (by omega)⟩
    have ih := areaB n h (by omega)
    have hb := h.area hx
    rw [take_snoc hx, area_app]
    omega
theorem tallB : ∀ (n : Nat) {ps : List (Int × Int)} {roll : Int}, BOk ps roll → n ≤ ps.length → 0 ≤ tallF (ps.take n) ∧ tallF (ps.take n) ≤ 5000
  | 0, ps, roll, _, _ => by simp [tallF]
  | n + 1, ps, roll, h, hn => by
    obtain ⟨⟨x, y⟩, hx⟩ : ∃ z, ps[n]? = some z := ⟨_, List.getElem?_eq_getElem (by omega)⟩
    have ih := tallB n h (by omega)
    have hb := h.blk n _ hx
    rw [take_snoc hx, tall_app _ _ _ (by omega)]
    omega
def heightZ (ps : List (Int × Int)) (roll : Int) : Int := max (tallF ps) ((areaF ps + roll - 1) / roll)
theorem l00MaxM_any (a b : Int) (w : World) : Calls Tryd.prog 64 #[.int .i64 a, .int .i64 b] w fun e w' => e = .returned (.int .i64 (max a b)) ∧ w = w' := by
  have h : maxZ a b = max a b := by unfold maxZ; split <;> omega
  rw [← h]
  exact l00Max_any a b w

set_option maxHeartbeats 1000000 in
theorem covered_any (A : Option Addr) (n c : Nat) (ps : List (Int × Int)) (roll : Int) (w : World) (h : Rd w 2 A n c (pr ps)) (ho : BOk ps roll) :
    Calls Tryd.prog 46 #[.slice A n c] w fun e w' => e = .returned (.int .i64 (areaF ps)) ∧ Below w.heap.size w w' := by
  have hl := h.plen
  have hn9 := ho.len
  have h1 := h.cap
  have h2 := h.max
  have H := Lib.hid h
  have HL := Lib.hid hl
  have HO := Lib.hid ho
  clear h hl ho
  go_enter Tryd.func46, Tryd.ntmps46
  go_wp2
  go_loopw [3, 8] (fun sm i wr => ∃ (k : Nat) (S : Int), k ≤ n ∧ i = .int .i64 k ∧ sm = .int .i64 S ∧ Hid (areaF (ps.take k) = S) ∧ Below w.heap.size w wr) (fun _ i _ => n - (intOf i).toNat)
  case atStart => exact ⟨0, 0, Nat.zero_le _, rfl, rfl, (show Hid _ from rfl), Below.refl _ _⟩
  case round =>
    obtain ⟨k, S, hk, rfl, rfl, HS, hb⟩ := hrel
    by_cases hlt : k < n
    · obtain ⟨b, o, x, y, hA, hbl, hx, hc1, hc2⟩ := (H.out.below hb).pair hlt
      subst hA
      have hxy := HO.out.area hx
      have hS := areaB k HO.out (by have := HL.out; omega)
      rw [HS.out] at hS
      have hk0 : (0 : Int) ≤ (k : Int) := by omega
      have hk1 : (k : Int) < (n : Int) := by omega
      have HX : Hid (areaF (ps.take (k + 1)) = S + x * y) := by rw [take_snoc hx, area_app, HS.out]; exact Lib.hid rfl
      have HB : Hid (Below w.heap.size w (wr.alloc (.cells #[.int .i64 x, .int .i64 y] 49))) := hb.alloc hb.size _
      have hn9' : n ≤ 9 := by have := HL.out; omega
      clear hx hb
      go_wp2
      go_roundw
      case rel => exact ⟨k + 1, S + x * y, by omega, by go_num, rfl, HX, HB.out⟩
      case measure => simp [intOf]; omega
    · go_wp2
      go_ret
      have : k = n := by omega
      subst this
      refine ⟨ret_i ?_, hb⟩
      rw [← HS.out, List.take_of_length_le (by rw [HL.out]; exact Nat.le_refl _)]

end Go.Proofs.YthdbaflihgkomaaDoor
