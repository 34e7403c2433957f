/- Fractions in lowest terms, rounding, distances, the greater and the less of two numbers. -/
import Derived.Test.YtfjmohnlllbgmaaLaw
namespace Go.Proofs.Ytfjmohnlllbgmaa
open Go.RowKit

/-- The greatest common divisor, as an integer that no simp opens. -/
def gcdZ (a b : Int) : Int := (Nat.gcd a.toNat b.toNat : Nat)
theorem gcdZ_pos {a b : Int} (h : 0 < b) : 1 ≤ gcdZ a b := by
  unfold gcdZ
  have : 0 < Nat.gcd a.toNat b.toNat := Nat.gcd_pos_of_pos_right _ (by omega)
  omega
theorem gcd_step {p q g : Nat} (h : Nat.gcd p q = g) (_h0 : 0 < q) : Nat.gcd q (p % q) = g := by
  rw [← h, Nat.gcd_comm q, Nat.gcd_comm p q, Nat.gcd_rec q p]
theorem gcd_end {p g : Nat} (h : Nat.gcd p 0 = g) : p = g := by simpa using h



/-- num / den, in lowest terms. -/
def lowN (num den : Int) : Int := num / gcdZ num den
def lowD (num den : Int) : Int := den / gcdZ num den





/-- The nearest integer to num / den, halves up (num not below 0). -/
def roundZ (num den : Int) : Int := (2 * num + den) / (2 * den)




def maxZ (a b : Int) : Int := if b < a then a else b
def minZ (a b : Int) : Int := if a < b then a else b
set_option maxHeartbeats 400000 in
theorem l00Max_any (a b : Int) (w : World) : Calls Try.prog 63 #[.int .i64 a, .int .i64 b] w fun e w' => e = .returned (.int .i64 (maxZ a b)) ∧ w = w' := by
  go_enter Try.func63, Try.ntmps63
  go_wp2
  all_goals
    go_ret
    exact ⟨ret_i (by unfold maxZ; split <;> omega), rfl⟩
set_option maxHeartbeats 400000 in
theorem l00Min_any (a b : Int) (w : World) : Calls Try.prog 62 #[.int .i64 a, .int .i64 b] w fun e w' => e = .returned (.int .i64 (minZ a b)) ∧ w = w' := by
  go_enter Try.func62, Try.ntmps62
  go_wp2
  all_goals
    go_ret
    exact ⟨ret_i (by unfold minZ; split <;> omega), rfl⟩
end Go.Proofs.Ytfjmohnlllbgmaa
