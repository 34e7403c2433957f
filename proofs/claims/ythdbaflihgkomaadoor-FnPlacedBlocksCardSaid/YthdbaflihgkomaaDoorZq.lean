/- What the answers on placed, turned and wasted blocks say. Plain lemmas; no program. -/
import Derived.Test.YthdbaflihgkomaaDoorZp
namespace Go.Proofs.YthdbaflihgkomaaDoor
open Go.RowKit Go.Shelf

/-- Blocks that lie well. -/
structure PlcP (ps : List (Int × Int)) (L : List (List Int)) (roll high : Int) (k : Nat) : Prop where
  len : L.length = k
  rb : 0 ≤ roll ∧ roll ≤ 5000
  hb : 0 ≤ high ∧ high ≤ 45000
  one : ∀ (i : Nat) (x y : Int), ps[i]? = some (x, y) → ∃ a b : Int, L[i]? = some [a, b] ∧ 0 ≤ a ∧ a + x ≤ roll ∧ 0 ≤ b ∧ b + y ≤ high ∧ 1 ≤ x ∧ 1 ≤ y
  two : ∀ (i j : Nat) (x y x' y' a b a' b' : Int), j < i → ps[i]? = some (x, y) → ps[j]? = some (x', y') → L[i]? = some [a, b] → L[j]? = some [a', b'] → a < a' + x' → a' < a + x → b < b' + y' → b' < b + y → False
theorem plc_law {ps : List (Int × Int)} {roll : Int} {rs : List Int} {k : Nat} (hk : ps.length = k) (h : (poZ ps roll rs).2 = 0) : PlcP ps (poZ ps roll rs).1 roll (heightOfZ ps roll rs) k := by
  by_cases hf : fineZ ps roll rs = 0
  · obtain ⟨ho, hlen, hr⟩ := rowsC_ok (fine_ok hf).1
    have ha := area_le hf
    rw [poZ_0 hf]
    have hh : heightOfZ ps roll rs = lenZ ps rs := by unfold heightOfZ; rw [if_pos hf]
    rw [hh]
    have hr0 := ho.r0
    have hr1 := ho.r1
    have hat : ∀ (i : Nat) (x y : Int), ps[i]? = some (x, y) → (ptL ps rs rs.length rs.length)[i]? = some (ptK ps rs rs.length i) := fun i x y hp => ptL_at ps rs rs.length rs.length i (by have := (List.getElem?_eq_some_iff.1 hp).1; omega)
    refine ⟨by rw [ptL_len]; omega, by omega, ⟨ha.2.1, ha.2.2⟩, fun i x y hp => ?_, fun i j x y x' y' a b a' b' hji hp hp' hL hL' => ?_⟩
    · obtain ⟨q, a, b, hq, hrq, h1⟩ := one_at hf hp
      refine ⟨a, b, ?_, h1.a0, h1.a1, h1.b0, h1.b1, h1.xb.1, h1.yb.1⟩
      rw [hat i x y hp, h1.pt]
    · obtain ⟨q, a0, b0, hq, _, h1⟩ := one_at hf hp
      obtain ⟨q', a1, b1, hq', _, h2⟩ := one_at hf hp'
      rw [hat i x y hp, h1.pt] at hL
      rw [hat j x' y' hp', h2.pt] at hL'
      injection hL with hL
      injection hL with e1 hL
      injection hL with e2 _
      injection hL' with hL'
      injection hL' with e3 hL'
      injection hL' with e4 _
      subst e1 e2 e3 e4
      exact two_at hf hji (List.getElem?_eq_some_iff.1 hp).1 hq hq' h1 h2
  · rw [poZ_n hf] at h
    exact absurd h hf
/-- Turned blocks. -/
structure TurnP (ps qs : List (Int × Int)) (k : Nat) : Prop where
  len : qs.length = k
  one : ∀ (i : Nat) (x y : Int), ps[i]? = some (x, y) → ∃ a b : Int, qs[i]? = some (a, b) ∧ b ≤ y ∧ a * b = x * y ∧ 1 ≤ a ∧ a ≤ 5000 ∧ 1 ≤ b ∧ b ≤ 5000 ∧ 1 ≤ x ∧ x ≤ 5000 ∧ 1 ≤ y ∧ y ≤ 5000
theorem turn_law {ps : List (Int × Int)} {roll : Int} {k : Nat} (hk : ps.length = k) (h : (turnedZ ps roll).2 = 0) : TurnP ps (turnedZ ps roll).1 k := by
  cases hb : blocksB ps roll with
  | true =>
    have e : turnedZ ps roll = (ps.map (turnZ roll), 0) := by unfold turnedZ; rw [if_pos hb]
    rw [e]
    exact ⟨by simpa using hk, fun i x y hp => turn_at hp hb⟩
  | false =>
    have e : turnedZ ps roll = ([], 1) := by unfold turnedZ; rw [hb, if_neg (by simp)]
    rw [e] at h
    simp at h
end Go.Proofs.YthdbaflihgkomaaDoor
