/- The laws' helpers f6big, f6ints, f6has, f6lists. -/
import Derived.Test.YtgghjieeckkpbaaDoorSm
import Derived.Test.YtgghjieeckkpbaaDoorIx
import Derived.Test.YtgghjieeckkpbaaDoorSrc
import Derived.BigQuiet
namespace Go.Proofs.YtgghjieeckkpbaaDoor
open Go.RowKit

set_option maxHeartbeats 400000 in
theorem f6big_any (A : Option Addr) (n c : Nat) (w : World) (hn : n ≤ 9223372036854775807) :
    Calls Tryd.prog 10 #[.slice A n c] w fun e w' => e = .returned (.bool (decide (4096 < n))) ∧ w = w' := by
  by_cases h : 4096 < n
  · have h1 : (4096 : Int) < (n : Int) := by omega
    go_enter Tryd.func10, Tryd.ntmps10
    go_wp2
    go_ret
    exact ⟨ret_b (decide_eq_true h).symm, rfl⟩
  · have h1 : ¬ (4096 : Int) < (n : Int) := by omega
    go_enter Tryd.func10, Tryd.ntmps10
    go_wp2
    go_ret
    exact ⟨by first | exact ret_b (by simp) | exact ret_b (decide_eq_false h).symm, rfl⟩
set_option maxRecDepth 100000 in
set_option maxHeartbeats 1000000 in
theorem f6ints_any (A : Option Addr) (n c : Nat) (xs : List Int) (B : Option Addr) (m d : Nat) (ys : List Int) (w : World) (hA : Rd w 1 A n c (ints xs)) (hB : Rd w 1 B m d (ints ys)) :
    Calls Tryd.prog 24 #[.slice A n c, .slice B m d] w fun e w' => e = .returned (.bool (eqL xs ys)) ∧ ∃ q, w' = w.drewN q := by
  have hlx := hA.ilen
  have hly := hB.ilen
  have h1 := hA.cap
  have h2 := hA.max
  have h3 := hB.cap
  have h4 := hB.max
  by_cases hnm : n = m
  · subst hnm
    have HA := Lib.hid hA
    have HB := Lib.hid hB
    have HX := Lib.hid hlx
    have HY := Lib.hid hly
    clear hA hB hlx hly
    go_enter Tryd.func24, Tryd.ntmps24
    go_wp2
    go_loopw [5] (fun i wr => ∃ k : Nat, k ≤ n ∧ i = .int .i64 k ∧ Hid (xs.take k = ys.take k) ∧ ∃ q, wr = w.drewN q) (fun i _ => n - (intOf i).toNat)
    case atStart => exact ⟨0, Nat.zero_le _, rfl, (show Hid _ from rfl), 0, rfl⟩
    case round =>
      obtain ⟨k, hk, rfl, HT, q0, hq0⟩ := hrel
      have hb : Below w.heap.size w wr := by rw [hq0]; exact below_drewN (Below.refl _ _) _
      have HQ := Lib.hid hq0
      by_cases hlt : k < n
      · obtain ⟨b, o, x, hA, hbl, hx, hc⟩ := HA.out.int hlt
        obtain ⟨b', o', y, hB, hbl', hy, hc'⟩ := HB.out.int hlt
        subst hA
        subst hB
        have hcx := cell_bel hc hb
        have hcy := cell_bel hc' hb
        have HX' := Lib.hid hx
        have HY' := Lib.hid hy
        clear hx hy hc hc' hb hq0
        have hk0 : (0 : Int) ≤ (k : Int) := by omega
        have hk1 : (k : Int) < (n : Int) := by omega
        by_cases hxy : x = y
        · subst hxy
          go_wp2
          go_quiet (fail)
          go_wp2
          go_roundw
          case rel => exact ⟨k + 1, by omega, by go_num, Lib.hid (take_eq_succ HT.out HX'.out HY'.out), q0 + nq, by rw [HQ.out]; simp⟩
          case measure => simp [intOf]; omega
        · have hne : (x != y) = true := by simpa using hxy
          go_wp2
          go_quiet (fail)
          go_wp2
          go_ret
          exact ⟨ret_b (ne_of_at HX'.out HY'.out hxy).symm, q0 + nq, by rw [HQ.out]; simp⟩
      · clear hb hq0
        go_wp2
        go_ret
        refine ⟨ret_b ?_, q0, HQ.out⟩
        have e1 := HX.out
        have e2 := HY.out
        have e3 := HT.out
        rw [List.take_of_length_le (by omega), List.take_of_length_le (by omega)] at e3
        rw [e3, eqL_self]
  · go_enter Tryd.func24, Tryd.ntmps24
    go_wp2
    go_ret
    refine ⟨ret_b ?_, 0, rfl⟩
    unfold eqL
    rw [eq_comm, decide_eq_false_iff_not]
    intro e
    rw [e] at hlx
    omega

set_option maxHeartbeats 1000000 in
theorem f6has_any (A : Option Addr) (n c : Nat) (xs : List Int) (x : Int) (w : World) (h : Rd w 1 A n c (ints xs)) :
    Calls Tryd.prog 29 #[.slice A n c, .int .i64 x] w fun e w' => e = .returned (.bool (hasB xs x)) ∧ w = w' := by
  have hl := h.ilen
  have h1 := h.cap
  have h2 := h.max
  have H := Lib.hid h
  have HL := Lib.hid hl
  obtain ⟨r, hr⟩ : ∃ r, hasB xs x = r := ⟨_, rfl⟩
  rw [hr]
  have HR := Lib.hid hr
  clear h hl hr
  go_enter Tryd.func29, Tryd.ntmps29
  go_wp2
  go_loop [5] (fun i => ∃ k : Nat, k ≤ n ∧ i = .int .i64 k ∧ Hid (∀ j y, j < k → xs[j]? = some y → y ≠ x)) (fun i => n - (intOf i).toNat)
  case atStart => exact ⟨0, Nat.zero_le _, rfl, (show Hid _ from fun j _ hj => absurd hj (Nat.not_lt_zero _))⟩
  case round =>
    obtain ⟨k, hk, rfl, HB⟩ := hrel
    by_cases hlt : k < n
    · obtain ⟨b, o, y, hA, hbl, hx, hc⟩ := H.out.int hlt
      subst hA
      have HX := Lib.hid hx
      clear hx
      have hk1 : (k : Int) < (n : Int) := by omega
      by_cases hxy : y = x
      · subst hxy
        go_wp2
        go_ret
        exact ⟨ret_b (by rw [← HR.out]; exact (hasB_yes HX.out).symm), rfl⟩
      · have hne : (y == x) = false := by simpa using hxy
        go_wp2
        go_round
        case rel =>
          refine ⟨k + 1, by omega, by go_num, (show Hid _ from fun j z hj hz => ?_)⟩
          by_cases e : j = k
          · subst e
            have := HX.out
            rw [this] at hz
            injection hz with hz
            rw [← hz]
            exact hxy
          · exact HB.out j z (by omega) hz
        case measure => simp [intOf]; omega
    · have : k = n := by omega
      subst this
      go_wp2
      go_ret
      exact ⟨ret_b (by rw [← HR.out]; exact (hasB_no (by rw [HL.out]; exact HB.out)).symm), rfl⟩

theorem f6ints_bel (A : Option Addr) (n c : Nat) (xs : List Int) (B : Option Addr) (m d : Nat) (w : World) (hA : Rd w 1 A n c (ints xs)) (hB : Rd w 1 B m d (ints xs)) :
    Calls Tryd.prog 24 #[.slice A n c, .slice B m d] w fun e w' => e = .returned (.bool true) ∧ Below w.heap.size w w' :=
  (f6ints_any A n c xs B m d xs w hA hB).mono fun e w' h => by
    obtain ⟨h1, q, h2⟩ := h
    rw [eqL_self] at h1
    exact ⟨h1, by rw [h2]; exact below_drewN (Below.refl _ _) q⟩
end Go.Proofs.YtgghjieeckkpbaaDoor
