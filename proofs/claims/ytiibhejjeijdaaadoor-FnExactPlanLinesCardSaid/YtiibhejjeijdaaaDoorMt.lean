/- Two pieces meet: l10Meet; the sets of their fields. Printed by mkmt.py. -/
import Derived.Test.YtiibhejjeijdaaaDoorVc
namespace Go.Proofs.YtiibhejjeijdaaaDoor
open Go.RowKit

/-- Two rectangles have a field in common (as the reference says it). -/
def meetB (m wa ha f wb hb g : Nat) : Bool := decide (f % m < g % m + wb) && (decide (g % m < f % m + wa) && (decide (f / m < g / m + hb) && decide (g / m < f / m + ha)))
theorem split_eq {m y x y' x' : Nat} (hx : x < m) (hx' : x' < m) (h : y * m + x = y' * m + x') : y = y' ∧ x = x' := by
  have h1 : (y * m + x) / m = y := by rw [Nat.mul_comm, Nat.mul_add_div (by omega), Nat.div_eq_of_lt hx]; omega
  have h2 : (y' * m + x') / m = y' := by rw [Nat.mul_comm, Nat.mul_add_div (by omega), Nat.div_eq_of_lt hx']; omega
  have h3 : y = y' := by rw [← h1, h, h2]
  subst h3
  exact ⟨rfl, by omega⟩
theorem meet_iff {m wa ha f wb hb g : Nat} (h1 : 1 ≤ wa) (h2 : 1 ≤ ha) (h3 : 1 ≤ wb) (h4 : 1 ≤ hb) (hf : f % m + wa ≤ m) (hg : g % m + wb ≤ m) :
    meetB m wa ha f wb hb g = true ↔ ∃ t, InR m ha wa f t ∧ InR m hb wb g t := by
  unfold meetB
  rw [Bool.and_eq_true, Bool.and_eq_true, Bool.and_eq_true, decide_eq_true_eq, decide_eq_true_eq, decide_eq_true_eq, decide_eq_true_eq]
  constructor
  · rintro ⟨a, b, c, d⟩
    refine ⟨(max (f / m) (g / m)) * m + max (f % m) (g % m), ⟨max (f / m) (g / m), max (f % m) (g % m), ?_, ?_, ?_, ?_, rfl⟩, ⟨max (f / m) (g / m), max (f % m) (g % m), ?_, ?_, ?_, ?_, rfl⟩⟩ <;> omega
  · rintro ⟨t, ⟨y, x, a1, a2, a3, a4, a5⟩, ⟨y', x', b1, b2, b3, b4, b5⟩⟩
    obtain ⟨rfl, rfl⟩ := split_eq (y := y) (x := x) (y' := y') (x' := x') (m := m) (by omega) (by omega) (by rw [← a5, ← b5])
    refine ⟨?_, ?_, ?_, ?_⟩ <;> omega

theorem andU (a b : Nat) (ha : a < 4611686018427387904) (hb : b < 4611686018427387904) : bits .and .u64 (a : Int) (b : Int) = ((a &&& b : Nat) : Int) := by
  have e : ∀ x : Nat, x < 4611686018427387904 → (BitVec.ofInt 64 (x : Int)).toNat = x := fun x hx => by
    rw [BitVec.ofInt_natCast, BitVec.toNat_ofNat]; exact Nat.mod_eq_of_lt (by omega)
  have hx : a &&& b ≤ a := Nat.and_le_left
  show IntKind.u64.wrap ((BitVec.ofInt 64 (a : Int) &&& BitVec.ofInt 64 (b : Int)).toNat : Int) = _
  rw [BitVec.toNat_and, e a ha, e b hb]
  exact IntWalk.u64_in _ (by omega)

set_option maxRecDepth 100000 in
set_option maxHeartbeats 4000000 in
theorem l10Meet_any (m wa ha f wb hb g : Nat) (qa oa qb ob : Int) (w : World) (hm : 1 ≤ m ∧ m ≤ 6) (hf : f < 36) (hg : g < 36) (h1 : wa ≤ 6) (h2 : ha ≤ 6) (h3 : wb ≤ 6) (h4 : hb ≤ 6) :
    Calls Tryd.prog 102 #[.int .i64 m, .agg #[.int .i64 wa, .int .i64 ha, .int .i64 qa, .int .i64 oa], .int .i64 f, .agg #[.int .i64 wb, .int .i64 hb, .int .i64 qb, .int .i64 ob], .int .i64 g] w fun e w' => e = .returned (.bool (meetB m wa ha f wb hb g)) ∧ Below w.heap.size w w' := by
  have hd1 : (f : Int) / (m : Int) = ((f / m : Nat) : Int) := by rw [Int.natCast_ediv]
  have hd2 : (f : Int) % (m : Int) = ((f % m : Nat) : Int) := by rw [Int.natCast_emod]
  have hd3 : (g : Int) / (m : Int) = ((g / m : Nat) : Int) := by rw [Int.natCast_ediv]
  have hd4 : (g : Int) % (m : Int) = ((g % m : Nat) : Int) := by rw [Int.natCast_emod]
  have l1 : f / m ≤ f := Nat.div_le_self _ _
  have l2 : f % m ≤ f := Nat.mod_le _ _
  have l3 : g / m ≤ g := Nat.div_le_self _ _
  have l4 : g % m ≤ g := Nat.mod_le _ _
  obtain ⟨r, hre⟩ : ∃ r, f / m = r := ⟨_, rfl⟩
  obtain ⟨q, hqe⟩ : ∃ q, f % m = q := ⟨_, rfl⟩
  obtain ⟨v, hve⟩ : ∃ v, g / m = v := ⟨_, rfl⟩
  obtain ⟨u, hue⟩ : ∃ u, g % m = u := ⟨_, rfl⟩
  have hM : meetB m wa ha f wb hb g = (decide (q < u + wb) && (decide (u < q + wa) && (decide (r < v + hb) && decide (v < r + ha)))) := by unfold meetB; rw [hre, hqe, hve, hue]
  rw [hM]
  rw [hre] at hd1 l1
  rw [hqe] at hd2 l2
  rw [hve] at hd3 l3
  rw [hue] at hd4 l4
  clear hre hqe hve hue hM
  have hf0 : (0 : Int) ≤ (f : Int) := by omega
  have hg0 : (0 : Int) ≤ (g : Int) := by omega
  have hm1 : (1 : Int) ≤ (m : Int) := by omega
  have hmz : ((m : Int) == 0) = false := by simp; omega
  by_cases t0 : q < u + wb
  · have d0 : decide ((q : Int) < (u : Int) + (wb : Int)) = true := by simp; omega
    have e0 : (q : Int) < (u : Int) + (wb : Int) := by omega
    by_cases t1 : u < q + wa
    · have d1 : decide ((u : Int) < (q : Int) + (wa : Int)) = true := by simp; omega
      have e1 : (u : Int) < (q : Int) + (wa : Int) := by omega
      by_cases t2 : r < v + hb
      · have d2 : decide ((r : Int) < (v : Int) + (hb : Int)) = true := by simp; omega
        have e2 : (r : Int) < (v : Int) + (hb : Int) := by omega
        by_cases t3 : v < r + ha
        · have d3 : decide ((v : Int) < (r : Int) + (ha : Int)) = true := by simp; omega
          have e3 : (v : Int) < (r : Int) + (ha : Int) := by omega
          go_enter Tryd.func102, Tryd.ntmps102
          go_wp2
          go_ret
          exact ⟨by simp [*], (((Below.refl _ _).alloc (Nat.le_refl _) _).alloc (by simp) _)⟩
        · have d3 : decide ((v : Int) < (r : Int) + (ha : Int)) = false := by simp; omega
          have e3 : ¬ (v : Int) < (r : Int) + (ha : Int) := by omega
          go_enter Tryd.func102, Tryd.ntmps102
          go_wp2
          go_ret
          exact ⟨by simp [*], (((Below.refl _ _).alloc (Nat.le_refl _) _).alloc (by simp) _)⟩
      · have d2 : decide ((r : Int) < (v : Int) + (hb : Int)) = false := by simp; omega
        have e2 : ¬ (r : Int) < (v : Int) + (hb : Int) := by omega
        go_enter Tryd.func102, Tryd.ntmps102
        go_wp2
        go_ret
        exact ⟨by simp [*], (((Below.refl _ _).alloc (Nat.le_refl _) _).alloc (by simp) _)⟩
    · have d1 : decide ((u : Int) < (q : Int) + (wa : Int)) = false := by simp; omega
      have e1 : ¬ (u : Int) < (q : Int) + (wa : Int) := by omega
      go_enter Tryd.func102, Tryd.ntmps102
      go_wp2
      go_ret
      exact ⟨by simp [*], (((Below.refl _ _).alloc (Nat.le_refl _) _).alloc (by simp) _)⟩
  · have d0 : decide ((q : Int) < (u : Int) + (wb : Int)) = false := by simp; omega
    have e0 : ¬ (q : Int) < (u : Int) + (wb : Int) := by omega
    go_enter Tryd.func102, Tryd.ntmps102
    go_wp2
    go_ret
    exact ⟨by simp [*], (((Below.refl _ _).alloc (Nat.le_refl _) _).alloc (by simp) _)⟩
end Go.Proofs.YtiibhejjeijdaaaDoor
