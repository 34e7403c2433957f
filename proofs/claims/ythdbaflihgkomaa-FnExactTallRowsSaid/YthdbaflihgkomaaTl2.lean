/- cmp.Compare, and the comparison that TallRows hands to the sort. -/
import Derived.Test.YthdbaflihgkomaaTl
namespace Go.Proofs.Ythdbaflihgkomaa
open Go.RowKit Go.Shelf

def cmpZ (a b : Int) : Int := if a < b then -1 else if b < a then 1 else 0
theorem isNaN_any (a : Int) (w : World) : Calls Try.prog 82 #[.int .i64 a] w fun e w' => e = .returned (.bool false) ∧ w = w' := by
  go_enter Try.func82, Try.ntmps82
  go_wp2
  go_ret
  exact ⟨by simp, rfl⟩
set_option maxHeartbeats 1000000 in
theorem compare_any (a b : Int) (w : World) : Calls Try.prog 73 #[.int .i64 a, .int .i64 b] w fun e w' => e = .returned (.int .i64 (cmpZ a b)) ∧ w = w' := by
  unfold cmpZ
  by_cases h1 : a < b
  · rw [if_pos h1]
    go_enter Try.func73, Try.ntmps73
    go_wp2_with (go_at_call 82; refine (isNaN_any _ _).mono ?_; rintro e w' ⟨rfl, rfl⟩)
    go_ret
    exact ⟨rfl, rfl⟩
  · rw [if_neg h1]
    by_cases h2 : b < a
    · rw [if_pos h2]
      go_enter Try.func73, Try.ntmps73
      go_wp2_with (go_at_call 82; refine (isNaN_any _ _).mono ?_; rintro e w' ⟨rfl, rfl⟩)
      go_ret
      exact ⟨rfl, rfl⟩
    · rw [if_neg h2]
      go_enter Try.func73, Try.ntmps73
      go_wp2_with (go_at_call 82; refine (isNaN_any _ _).mono ?_; rintro e w' ⟨rfl, rfl⟩)
      go_ret
      exact ⟨rfl, rfl⟩

set_option maxHeartbeats 2000000 in
theorem tall_cmp (b o n c p i j : Nat) (ps : List (Int × Int)) (x y x' y' : Int) (w : World) (h : Rd w 2 (some ⟨b, o, none⟩) n c (pr ps)) (h1 : w.cell? ⟨p, 0, none⟩ = some (.slice (some ⟨b, o, none⟩) n c)) (hi : i < n) (hj : j < n) (hx : ps[i]? = some (x, y)) (hy : ps[j]? = some (x', y')) :
    Calls Try.prog 72 #[.int .i64 i, .int .i64 j, .pointer (some ⟨p, 0, none⟩)] w fun e w' => e = .returned (.int .i64 (cmpZ y' y)) ∧ ∃ q, w' = w.drewN q := by
  obtain ⟨b1, o1, u, v, hA, _, hu, _, c1⟩ := h.pair hi
  obtain ⟨b2, o2, u', v', hB, _, hv, _, c2⟩ := h.pair hj
  injection hA with hA
  injection hA with e1 e2
  injection hB with hB
  injection hB with e3 e4
  subst e1
  subst e2
  subst e3
  subst e4
  rw [hx] at hu
  rw [hy] at hv
  simp at hu hv
  obtain ⟨rfl, rfl⟩ := hu
  obtain ⟨rfl, rfl⟩ := hv
  have k1 := h.cap
  have k2 := h.max
  have i0 : (0 : Int) ≤ (i : Int) := by omega
  have i1 : (i : Int) < (n : Int) := by omega
  have j0 : (0 : Int) ≤ (j : Int) := by omega
  have j1 : (j : Int) < (n : Int) := by omega
  clear h hx hy
  go_enter Try.func72, Try.ntmps72
  go_wp2
  go_quiet (first | (go_at_call 73; refine Calls.quiet_of_same ((compare_any _ _ _).mono fun _ _ h => ⟨h.1, h.2.symm⟩)))
  go_wp2
  go_ret
  exact ⟨rfl, _, rfl⟩
end Go.Proofs.Ythdbaflihgkomaa
