/- Fractions in lowest terms, rounding, distances, the greater and the less of two numbers. -/
import Derived.Test.YthdbaflihgkomaaDoorLaw
namespace Go.Proofs.YthdbaflihgkomaaDoor
open Go.RowKit

/-- The greatest common divisor, as an integer that no simp opens. -/
def gcdZ (a b : Int) : Int := (Nat.gcd a.toNat b.toNat : Nat)
theorem gcdZ_pos {a b : Int} (h : 0 < b) : 1 ≤ gcdZ a b := by
  unfold gcdZ
  have : 0 < Nat.gcd a.toNat b.toNat := Nat.gcd_pos_of_pos_right _ (by omega)
  omega
theorem gcd_step {p q g : Nat} (h : Nat.gcd p q = g) (_h0 : 0 < q) : Nat.gcd q (p % q) = g := by
  rw [← h, Nat.gcd_comm q, Nat.gcd_comm p q, Nat.gcd_rec q p]
theorem gcd_end {p g : Nat} (h : Nat.gcd p 0 = g) : p = g := by simpa using h

set_option maxHeartbeats 1000000 in
theorem gcd_any (a b : Int) (w : World) (ha : 0 ≤ a) (ha' : a ≤ 4611686018427387904) (hb : 0 ≤ b) (hb' : b ≤ 4611686018427387904) :
    Calls Tryd.prog 66 #[.int .i64 a, .int .i64 b] w fun e w' => e = .returned (.int .i64 (gcdZ a b)) ∧ Below w.heap.size w w' := by
  obtain ⟨p, rfl⟩ := Int.eq_ofNat_of_zero_le ha
  obtain ⟨q, rfl⟩ := Int.eq_ofNat_of_zero_le hb
  obtain ⟨g, hg⟩ : ∃ g, Nat.gcd p q = g := ⟨_, rfl⟩
  have hz : gcdZ (p : Int) (q : Int) = (g : Int) := by unfold gcdZ; rw [Int.toNat_natCast, Int.toNat_natCast, hg]
  have HZ := Lib.hid hz
  have HG := Lib.hid hg
  clear hz hg
  go_enter Tryd.func66, Tryd.ntmps66
  go_wp2
  go_loopw [0, 1] (fun x y wr => ∃ p' q' : Nat, x = .int .i64 p' ∧ y = .int .i64 q' ∧ p' ≤ 4611686018427387904 ∧ q' ≤ 4611686018427387904 ∧ Hid (Nat.gcd p' q' = g) ∧ Below w.heap.size w wr) (fun _ y _ => (intOf y).toNat)
  case atStart => exact ⟨p, q, rfl, rfl, by omega, by omega, HG, Below.refl _ _⟩
  case round =>
    obtain ⟨p', q', rfl, rfl, hp, hq, HG', hb⟩ := hrel
    have Hb := Lib.hid hb
    clear hb
    by_cases h0 : q' = 0
    · subst h0
      have hpos : (0 : Int) ≤ (p' : Int) := by omega
      go_wp2
      go_ret
      refine ⟨ret_i ?_, Hb.out⟩
      have := gcd_end HG'.out
      rw [HZ.out]
      omega
    · have hne : ((q' : Int) != 0) = true := by simp; omega
      have hne' : ((q' : Int) == 0) = false := by simp; omega
      have hpos : (1 : Int) ≤ (q' : Int) := by omega
      go_wp2
      go_quiet (fail)
      go_wp2
      have hlt : p' % q' < q' := Nat.mod_lt _ (by omega)
      go_roundw
      case rel => exact ⟨q', p' % q', rfl, rfl, by omega, by omega, gcd_step HG'.out (by omega), below_drewN Hb.out _⟩
      case measure => simp [intOf]; omega

set_option maxHeartbeats 1000000 in
theorem l02Gcd_any (a b : Int) (w : World) (ha : 0 ≤ a) (ha' : a ≤ 4611686018427387904) (hb : 0 ≤ b) (hb' : b ≤ 4611686018427387904) :
    Calls Tryd.prog 67 #[.int .i64 a, .int .i64 b] w fun e w' => e = .returned (.int .i64 (gcdZ a b)) ∧ w = w' := by
  obtain ⟨p, rfl⟩ := Int.eq_ofNat_of_zero_le ha
  obtain ⟨q, rfl⟩ := Int.eq_ofNat_of_zero_le hb
  obtain ⟨g, hg⟩ : ∃ g, Nat.gcd p q = g := ⟨_, rfl⟩
  have hz : gcdZ (p : Int) (q : Int) = (g : Int) := by unfold gcdZ; rw [Int.toNat_natCast, Int.toNat_natCast, hg]
  have HZ := Lib.hid hz
  have HG := Lib.hid hg
  clear hz hg
  go_enter Tryd.func67, Tryd.ntmps67
  go_wp2
  go_loop [0, 1] (fun x y => ∃ p' q' : Nat, x = .int .i64 p' ∧ y = .int .i64 q' ∧ p' ≤ 4611686018427387904 ∧ q' ≤ 4611686018427387904 ∧ Hid (Nat.gcd p' q' = g)) (fun _ y => (intOf y).toNat)
  case atStart => exact ⟨p, q, rfl, rfl, by omega, by omega, HG⟩
  case round =>
    obtain ⟨p', q', rfl, rfl, hp, hq, HG'⟩ := hrel
    by_cases h0 : q' = 0
    · subst h0
      have hpos : (0 : Int) ≤ (p' : Int) := by omega
      go_wp2
      go_ret
      refine ⟨ret_i ?_, rfl⟩
      have := gcd_end HG'.out
      rw [HZ.out]
      omega
    · have hne : ((q' : Int) != 0) = true := by simp; omega
      have hne' : ((q' : Int) == 0) = false := by simp; omega
      have hpos : (1 : Int) ≤ (q' : Int) := by omega
      go_wp2
      have hlt : p' % q' < q' := Nat.mod_lt _ (by omega)
      go_round
      case rel => exact ⟨q', p' % q', rfl, rfl, by omega, by omega, gcd_step HG'.out (by omega)⟩
      case measure => simp [intOf]; omega

/-- num / den, in lowest terms. -/
def lowN (num den : Int) : Int := num / gcdZ num den
def lowD (num den : Int) : Int := den / gcdZ num den

set_option maxHeartbeats 1000000 in
theorem lowest_any (a b : Int) (w : World) (ha : 0 ≤ a) (ha' : a ≤ 4611686018427387904) (hb : 1 ≤ b) (hb' : b ≤ 4611686018427387904) :
    Calls Tryd.prog 45 #[.int .i64 a, .int .i64 b] w fun e w' => e = .returned (.agg #[.int .i64 (lowN a b), .int .i64 (lowD a b)]) ∧ Below w.heap.size w w' := by
  have hg1 : 1 ≤ gcdZ a b := gcdZ_pos (by omega)
  have hcall := fun W => gcd_any a b W ha ha' (by omega) hb'
  have hN : lowN a b = a / gcdZ a b := rfl
  have hD : lowD a b = b / gcdZ a b := rfl
  rw [hN, hD]
  clear hN hD
  generalize gcdZ a b = g at *
  have HC := Lib.hid hcall
  clear hcall
  go_enter Tryd.func45, Tryd.ntmps45
  go_wp2_with fail
  refine (HC.out _).mono ?_
  rintro e w1 ⟨rfl, hb1⟩
  have B0 := (Box.new w #[.int .i64 0, .int .i64 0] 40).below hb1
  have b1 : Below w.heap.size w w1 := ((Below.refl w.heap.size w).alloc (Nat.le_refl _) _).trans (hb1.mono (by simp))
  have c0 : w1.cell? ⟨w.heap.size, 0, none⟩ = some (.int .i64 0) := B0.cell 0
  have c1 : w1.cell? ⟨w.heap.size, 1, none⟩ = some (.int .i64 0) := B0.cell 1
  have f1 := B0.froz
  clear hb1 B0 HC
  go_wp2_with fail
  go_region
  go_wp2
  refine bodyPost_ret (v := .agg #[.int .i64 (a / g), .int .i64 (b / g)]) (by simp [results, Tryd.results45, go_sem, c0, c1]) rfl ⟨rfl, ?_⟩
  exact ((b1.setCell (p := ⟨w.heap.size, 0, none⟩) (Nat.le_refl _) _).setCell (p := ⟨w.heap.size, 1, none⟩) (Nat.le_refl _) _).drew

def absZ (n : Int) : Int := if n < 0 then -n else n
set_option maxHeartbeats 400000 in
theorem l02Size_any (n : Int) (w : World) (h : -4611686018427387904 ≤ n) (h' : n ≤ 4611686018427387904) :
    Calls Tryd.prog 68 #[.int .i64 n] w fun e w' => e = .returned (.int .i64 (absZ n)) ∧ w = w' := by
  go_enter Tryd.func68, Tryd.ntmps68
  go_wp2
  all_goals go_ret
  · have : n < 0 := by assumption
    exact ⟨ret_i (by unfold absZ; rw [if_pos this]), rfl⟩
  · have : 0 ≤ n := by assumption
    exact ⟨ret_i (by unfold absZ; rw [if_neg (by omega)]), rfl⟩


set_option maxHeartbeats 1000000 in
theorem l02Make_any (a b : Int) (w : World) (ha : 0 ≤ a) (ha' : a ≤ 4611686018427387904) (hb : 1 ≤ b) (hb' : b ≤ 4611686018427387904) :
    Calls Tryd.prog 47 #[.int .i64 a, .int .i64 b] w fun e w' => e = .returned (.agg #[.int .i64 (lowN a b), .int .i64 (lowD a b)]) ∧ Below w.heap.size w w' := by
  have hg1 : 1 ≤ gcdZ a b := gcdZ_pos (by omega)
  have hcall := fun W => l02Gcd_any a b W ha ha' (by omega) hb'
  have hN : lowN a b = a / gcdZ a b := rfl
  have hD : lowD a b = b / gcdZ a b := rfl
  rw [hN, hD]
  clear hN hD
  generalize gcdZ a b = g at *
  have HC := Lib.hid hcall
  have habs : absZ a = a := by unfold absZ; rw [if_neg (by omega)]
  have hsz := fun W => l02Size_any a W (by omega) ha'
  rw [habs] at hsz
  have HS := Lib.hid hsz
  clear hcall habs hsz
  go_enter Tryd.func47, Tryd.ntmps47
  go_wp2_with fail
  refine (HS.out _).mono ?_
  rintro e w1 ⟨rfl, rfl⟩
  go_wp2_with fail
  refine (HC.out _).mono ?_
  rintro e w1 ⟨rfl, rfl⟩
  have B0 := Box.new w #[.int .i64 0, .int .i64 0] 40
  have b1 : Below w.heap.size w (w.alloc (.cells #[.int .i64 0, .int .i64 0] 40)) := (by go_grown)
  have c0 := B0.cell 0
  have c1 := B0.cell 1
  have f1 := B0.froz
  clear HC HS
  go_wp2_with fail
  go_region
  go_wp2
  refine bodyPost_ret (v := .agg #[.int .i64 (a / g), .int .i64 (b / g)]) (by simp [results, Tryd.results47, go_sem]) rfl ⟨rfl, ?_⟩
  exact ((Below.refl w.heap.size w).alloc (Nat.le_refl _) _).drew

/-- The nearest integer to num / den, halves up (num not below 0). -/
def roundZ (num den : Int) : Int := (2 * num + den) / (2 * den)




def maxZ (a b : Int) : Int := if b < a then a else b
def minZ (a b : Int) : Int := if a < b then a else b
set_option maxHeartbeats 400000 in
theorem l00Max_any (a b : Int) (w : World) : Calls Tryd.prog 64 #[.int .i64 a, .int .i64 b] w fun e w' => e = .returned (.int .i64 (maxZ a b)) ∧ w = w' := by
  go_enter Tryd.func64, Tryd.ntmps64
  go_wp2
  all_goals
    go_ret
    exact ⟨ret_i (by unfold maxZ; split <;> omega), rfl⟩
end Go.Proofs.YthdbaflihgkomaaDoor
