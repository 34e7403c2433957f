/- ReadyOps: program, reference, law. Printed by mkrd.py. -/
import Derived.Test.YtgghjieeckkpbaaDoorCan
import Derived.Test.YtgghjieeckkpbaaDoorOwn
namespace Go.Proofs.YtgghjieeckkpbaaDoor
open Go.RowKit

/-- The first k numbers of which p holds. -/
def fil (p : Nat → Bool) : Nat → List Int
  | 0 => []
  | k + 1 => if p k = true then fil p k ++ [(k : Int)] else fil p k
theorem fil_yes {p : Nat → Bool} {k : Nat} (h : p k = true) : fil p (k + 1) = fil p k ++ [(k : Int)] := by
  show (if p k = true then _ else _) = _
  rw [if_pos h]
theorem fil_no {p : Nat → Bool} {k : Nat} (h : p k = false) : fil p (k + 1) = fil p k := by
  show (if p k = true then _ else _) = _
  rw [if_neg (by rw [h]; simp)]
theorem fil_len (p : Nat → Bool) : ∀ k, (fil p k).length ≤ k
  | 0 => Nat.le_refl _
  | k + 1 => by
    have := fil_len p k
    cases h : p k with
    | true => rw [fil_yes h]; simp; omega
    | false => rw [fil_no h]; omega
theorem fil_congr {p q : Nat → Bool} (h : ∀ k, p k = q k) : ∀ k, fil p k = fil q k
  | 0 => rfl
  | k + 1 => by
    show (if p k = true then fil p k ++ [(k : Int)] else fil p k) = (if q k = true then fil q k ++ [(k : Int)] else fil q k)
    rw [h k, fil_congr h k]
/-- The marks behind the first j numbers. -/
def mkD (n : Nat) (os : List Int) : Nat → List Bool
  | 0 => List.replicate n false
  | j + 1 => (mkD n os j).set (os.getD j 0).toNat true
theorem mkD_len (n : Nat) (os : List Int) : ∀ j, (mkD n os j).length = n
  | 0 => by simp [mkD]
  | j + 1 => by simp [mkD, mkD_len n os j]
theorem mkD_step {n : Nat} {os : List Int} {j k : Nat} (h : os[j]? = some (k : Int)) : mkD n os (j + 1) = (mkD n os j).set k true := by
  show (mkD n os j).set (os.getD j 0).toNat true = _
  have : os.getD j 0 = (k : Int) := by simp [List.getD, h]
  rw [this, Int.toNat_natCast]
def rdL (ops : List OpV) (os : List Int) : List Int := fil (fun k => canB (bfsO ops) (mkD ops.length os os.length) k) ops.length
noncomputable def rdZ (ops : List OpV) (os : List Int) : List Int × Int := if okO ops = true then (if incB os 0 ((ops.length : Int) - 1) = true then (rdL ops os, 0) else ([], 2)) else ([], 1)
theorem rdZ_bad {ops : List OpV} {os : List Int} (h : okO ops = false) : rdZ ops os = ([], 1) := by unfold rdZ; rw [if_neg (by rw [h]; simp)]
theorem rdZ_out {ops : List OpV} {os : List Int} {n : Nat} (h : okO ops = true) (hl : ops.length = n) (hz : incB os 0 ((n : Int) - 1) = false) : rdZ ops os = ([], 2) := by unfold rdZ; rw [if_pos h, hl, if_neg (by rw [hz]; simp)]
theorem rdZ_yes {ops : List OpV} {os : List Int} {n m : Nat} (h : okO ops = true) (hl : ops.length = n) (hm : os.length = m) (hz : incB os 0 ((n : Int) - 1) = true) : rdZ ops os = (fil (fun k => canB (bfsO ops) (mkD n os m) k) n, 0) := by unfold rdZ rdL; rw [if_pos h, hl, hm, if_pos hz]
theorem rdZ_len (ops : List OpV) (os : List Int) : (rdZ ops os).1.length ≤ 1048576 := by
  unfold rdZ
  split
  · rename_i hq
    have := (okO_true hq).len
    split
    · have h2 := fil_len (fun k => canB (bfsO ops) (mkD ops.length os os.length) k) ops.length
      show (rdL ops os).length ≤ _
      unfold rdL
      omega
    · simp
  · simp
theorem inc_in {os : List Int} {n : Nat} (h : incB os 0 ((n : Int) - 1) = true) : ∀ (j : Nat) (x : Int), os[j]? = some x → 0 ≤ x ∧ x < n := by
  intro j x hx
  have := (incB_at h).1 j x hx
  omega

end Go.Proofs.YtgghjieeckkpbaaDoor
