/- Decimals: what the reference's loop makes is what the library's FormatInt makes (plain). -/
import Derived.Lib.ItoaNum
import Derived.Laws.BytesArg
namespace Go.Proofs.YthdbaflihgkomaaDoor

/-- The digits of k ahead of acc. -/
def decA (k : Nat) (acc : List Int) : List Int := if 0 < k then decA (k / 10) ((48 + ((k % 10 : Nat) : Int)) :: acc) else acc
termination_by k
decreasing_by omega
theorem decA_pos {k : Nat} (h : 0 < k) (acc : List Int) : decA k acc = decA (k / 10) ((48 + ((k % 10 : Nat) : Int)) :: acc) := by
  rw [decA, if_pos h]
theorem decA_zero (acc : List Int) : decA 0 acc = acc := by
  rw [decA, if_neg (by omega)]
theorem decA_dec : ∀ (n k : Nat) (acc : List Int), k ≤ n → 0 < k → (decA k acc).map (fun z => UInt8.ofNat z.toNat) = Go.Lib.decDigits k ++ acc.map (fun z => UInt8.ofNat z.toNat)
  | 0, k, acc, h1, h2 => by omega
  | n + 1, k, acc, h1, h2 => by
    have ed : (48 + ((k % 10 : Nat) : Int)).toNat = 48 + k % 10 := by omega
    by_cases h10 : k < 10
    · have e0 : k / 10 = 0 := by omega
      have e1 : k % 10 = k := by omega
      rw [decA_pos h2, e0, decA_zero, List.map_cons, ed, e1, Go.Lib.decDigits_one h10]
      rfl
    · rw [decA_pos h2, decA_dec n (k / 10) _ (by omega) (by omega), List.map_cons, ed]
      have : Go.Lib.decDigits k = Go.Lib.decDigits (k / 10) ++ [UInt8.ofNat (48 + k % 10)] := by
        rw [Go.Lib.decDigits, dif_neg h10]
      rw [this, List.append_assoc]
      rfl
theorem decA_str {k : Nat} (h : 0 < k) : strOfNums (decA k []) = ⟨(Go.Lib.decDigits k).toArray⟩ := by
  unfold strOfNums
  rw [decA_dec k k [] (Nat.le_refl _) h]
  simp
end Go.Proofs.YthdbaflihgkomaaDoor
