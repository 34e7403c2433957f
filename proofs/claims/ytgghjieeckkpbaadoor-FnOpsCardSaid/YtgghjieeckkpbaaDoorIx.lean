/- Lists of numbers: hasB, l00Has, isIncreasing, slices.Index, slices.Contains. Printed by mkix.py. -/
import Derived.Test.YtgghjieeckkpbaaDoorOpB
namespace Go.Proofs.YtgghjieeckkpbaaDoor
open Go.RowKit

def hasB (xs : List Int) (x : Int) : Bool := decide (x ∈ xs)
theorem hasB_yes {xs : List Int} {x : Int} {k : Nat} (h : xs[k]? = some x) : hasB xs x = true := decide_eq_true (List.mem_of_getElem? h)
theorem hasB_no {xs : List Int} {x : Int} (h : ∀ j y, j < xs.length → xs[j]? = some y → y ≠ x) : hasB xs x = false := by
  unfold hasB
  rw [decide_eq_false_iff_not]
  intro hm
  obtain ⟨j, hj, e⟩ := List.getElem_of_mem hm
  exact h j _ hj (List.getElem?_eq_getElem hj) e

set_option maxHeartbeats 1000000 in
theorem l00Has_any (A : Option Addr) (n c : Nat) (xs : List Int) (x : Int) (w : World) (h : Rd w 1 A n c (ints xs)) :
    Calls Tryd.prog 70 #[.slice A n c, .int .i64 x] w fun e w' => e = .returned (.bool (hasB xs x)) ∧ w = w' := by
  have hl := h.ilen
  have h1 := h.cap
  have h2 := h.max
  have H := Lib.hid h
  have HL := Lib.hid hl
  obtain ⟨r, hr⟩ : ∃ r, hasB xs x = r := ⟨_, rfl⟩
  rw [hr]
  have HR := Lib.hid hr
  clear h hl hr
  go_enter Tryd.func70, Tryd.ntmps70
  go_wp2
  go_loop [5] (fun i => ∃ k : Nat, k ≤ n ∧ i = .int .i64 k ∧ Hid (∀ j y, j < k → xs[j]? = some y → y ≠ x)) (fun i => n - (intOf i).toNat)
  case atStart => exact ⟨0, Nat.zero_le _, rfl, (show Hid _ from fun j _ hj => absurd hj (Nat.not_lt_zero _))⟩
  case round =>
    obtain ⟨k, hk, rfl, HB⟩ := hrel
    by_cases hlt : k < n
    · obtain ⟨b, o, y, hA, hbl, hx, hc⟩ := H.out.int hlt
      subst hA
      have HX := Lib.hid hx
      clear hx
      have hk1 : (k : Int) < (n : Int) := by omega
      by_cases hxy : y = x
      · subst hxy
        go_wp2
        go_ret
        exact ⟨ret_b (by rw [← HR.out]; exact (hasB_yes HX.out).symm), rfl⟩
      · have hne : (y == x) = false := by simpa using hxy
        go_wp2
        go_round
        case rel =>
          refine ⟨k + 1, by omega, by go_num, (show Hid _ from fun j z hj hz => ?_)⟩
          by_cases e : j = k
          · subst e
            have := HX.out
            rw [this] at hz
            injection hz with hz
            rw [← hz]
            exact hxy
          · exact HB.out j z (by omega) hz
        case measure => simp [intOf]; omega
    · have : k = n := by omega
      subst this
      go_wp2
      go_ret
      exact ⟨ret_b (by rw [← HR.out]; exact (hasB_no (by rw [HL.out]; exact HB.out)).symm), rfl⟩

set_option maxHeartbeats 2000000 in
theorem isIncreasing_any (A : Option Addr) (n c : Nat) (xs : List Int) (lo hi : Int) (w : World) (h : Rd w 1 A n c (ints xs)) :
    Calls Tryd.prog 63 #[.slice A n c, .int .i64 lo, .int .i64 hi] w fun e w' => e = .returned (.bool (incB xs lo hi)) ∧ w = w' := by
  have hl := h.ilen
  have h1 := h.cap
  have h2 := h.max
  have H := Lib.hid h
  have HL := Lib.hid hl
  obtain ⟨r, hr⟩ : ∃ r, incB xs lo hi = r := ⟨_, rfl⟩
  rw [hr]
  have HR := Lib.hid hr
  clear h hl hr
  go_enter Tryd.func63, Tryd.ntmps63
  go_wp2
  go_loop [11] (fun i => ∃ k : Nat, k ≤ n ∧ i = .int .i64 k ∧ Hid (∀ j, j < k → okI xs lo hi j = true)) (fun i => n - (intOf i).toNat)
  case atStart => exact ⟨0, Nat.zero_le _, rfl, (show Hid _ from fun j hj => absurd hj (Nat.not_lt_zero _))⟩
  case round =>
    obtain ⟨k, hk, rfl, HB⟩ := hrel
    by_cases hlt : k < n
    · obtain ⟨b, o, x, hA, hbl, hx, hc⟩ := H.out.int hlt
      subst hA
      have hxd : xs.getD k 0 = x := by simp [List.getD, hx]
      have HXD := Lib.hid hxd
      have hk0 : (0 : Int) ≤ (k : Int) := by omega
      have hk1 : (k : Int) < (n : Int) := by omega
      have hin := fun W => within_any x lo hi W
      clear hxd hx
      cases hq : inB x lo hi with
      | false =>
        rw [hq] at hin
        have HI := Lib.hid hin
        have HQ := Lib.hid hq
        clear hin hq
        go_wp2_with (go_at_call 35; refine (HI.out _).mono ?_; rintro e w' ⟨rfl, rfl⟩)
        go_ret
        refine ⟨ret_b ?_, rfl⟩
        rw [← HR.out]
        exact (incB_not (i := k) (by rw [HL.out]; exact hlt) (by unfold okI; rw [HXD.out, HQ.out]; rfl)).symm
      | true =>
        rw [hq] at hin
        have HI := Lib.hid hin
        have HQ := Lib.hid hq
        clear hin hq
        cases k with
        | zero =>
          have hc0 : w.cell? ⟨b, o, none⟩ = some (.int .i64 x) := by simpa using hc
          go_wp2_with (go_at_call 35; refine (HI.out _).mono ?_; rintro e w' ⟨rfl, rfl⟩)
          go_round
          case rel => exact ⟨1, by omega, by go_num, (show Hid _ from fun j hj => by
            have : j = 0 := by omega
            subst this
            unfold okI
            rw [HXD.out, HQ.out]
            rfl)⟩
          case measure => simp [intOf]; omega
        | succ k =>
          obtain ⟨b2, o2, y, hA, _, hy, hc2⟩ := H.out.int (show k < n by omega)
          injection hA with hA
          injection hA with e1 e2
          subst e1
          subst e2
          have hyd : xs.getD k 0 = y := by simp [List.getD, hy]
          have HYD := Lib.hid hyd
          have hkp : decide ((0 : Int) < ((k + 1 : Nat) : Int)) = true := decide_eq_true (by omega)
          have hk2 : (0 : Int) ≤ (k : Int) := by omega
          have hk3 : (k : Int) < (n : Int) := by omega
          clear hyd hy
          by_cases hxy : y < x
          · have hd : ¬ x ≤ y := by omega
            go_wp2_with (go_at_call 35; refine (HI.out _).mono ?_; rintro e w' ⟨rfl, rfl⟩)
            go_round
            case rel => exact ⟨k + 2, by omega, by go_num, (show Hid _ from fun j hj => by
              by_cases e : j = k + 1
              · subst e
                unfold okI
                rw [HXD.out, HQ.out, Nat.add_sub_cancel, HYD.out]
                simp [hxy]
              · exact HB.out j (by omega))⟩
            case measure => simp [intOf]; omega
          · have hd : x ≤ y := by omega
            go_wp2_with (go_at_call 35; refine (HI.out _).mono ?_; rintro e w' ⟨rfl, rfl⟩)
            go_ret
            refine ⟨ret_b ?_, rfl⟩
            rw [← HR.out]
            refine (incB_not (i := k + 1) (by rw [HL.out]; exact hlt) ?_).symm
            unfold okI
            rw [HXD.out, HQ.out, Nat.add_sub_cancel, HYD.out]
            simp [hxy]
    · have : k = n := by omega
      subst this
      go_wp2
      go_ret
      refine ⟨ret_b ?_, rfl⟩
      rw [← HR.out]
      exact (incB_of (by rw [HL.out]; exact HB.out)).symm

/-- What slices.Index hands back: a number that tells whether x is there. -/
def IdxPost (xs : List Int) (x : Int) (w : World) (e : Ending) (w' : World) : Prop := ∃ r : Int, e = .returned (.int .i64 r) ∧ -1 ≤ r ∧ r ≤ 1152921504606846976 ∧ decide (0 ≤ r) = hasB xs x ∧ w = w'
set_option maxHeartbeats 1000000 in
theorem index_any (A : Option Addr) (n c : Nat) (xs : List Int) (x : Int) (w : World) (h : Rd w 1 A n c (ints xs)) (hn : n ≤ 1048576) :
    Calls Tryd.prog 82 #[.slice A n c, .int .i64 x] w (IdxPost xs x w) := by
  have hl := h.ilen
  have h1 := h.cap
  have h2 := h.max
  have H := Lib.hid h
  have HL := Lib.hid hl
  clear h hl
  go_enter Tryd.func82, Tryd.ntmps82
  go_wp2
  go_loop [8] (fun i => ∃ k : Nat, k ≤ n ∧ i = .int .i64 k ∧ Hid (∀ j y, j < k → xs[j]? = some y → y ≠ x)) (fun i => n - (intOf i).toNat)
  case atStart => exact ⟨0, Nat.zero_le _, rfl, (show Hid _ from fun j _ hj => absurd hj (Nat.not_lt_zero _))⟩
  case round =>
    obtain ⟨k, hk, rfl, HB⟩ := hrel
    by_cases hlt : k < n
    · obtain ⟨b, o, y, hA, hbl, hx, hc⟩ := H.out.int hlt
      subst hA
      have HX := Lib.hid hx
      clear hx
      have hk1 : (k : Int) < (n : Int) := by omega
      by_cases hxy : x = y
      · subst hxy
        go_wp2
        go_ret
        exact ⟨k, rfl, by omega, by omega, by rw [hasB_yes HX.out]; simp, rfl⟩
      · have hne : (x == y) = false := by simpa using hxy
        go_wp2
        go_round
        case rel =>
          refine ⟨k + 1, by omega, by go_num, (show Hid _ from fun j z hj hz => ?_)⟩
          by_cases e : j = k
          · subst e
            have := HX.out
            rw [this] at hz
            injection hz with hz
            rw [← hz]
            exact fun e => hxy e.symm
          · exact HB.out j z (by omega) hz
        case measure => simp [intOf]; omega
    · have : k = n := by omega
      subst this
      go_wp2
      go_ret
      exact ⟨-1, rfl, by omega, by omega, by rw [hasB_no (by rw [HL.out]; exact HB.out)]; decide, rfl⟩
set_option maxHeartbeats 1000000 in
theorem contains_any (A : Option Addr) (n c : Nat) (xs : List Int) (x : Int) (w : World) (h : Rd w 1 A n c (ints xs)) (hn : n ≤ 1048576) :
    Calls Tryd.prog 64 #[.slice A n c, .int .i64 x] w fun e w' => e = .returned (.bool (hasB xs x)) ∧ w = w' := by
  have hcall := index_any A n c xs x w h hn
  obtain ⟨q, hq⟩ : ∃ q, hasB xs x = q := ⟨_, rfl⟩
  rw [hq]
  have HC := Lib.hid hcall
  have HQ := Lib.hid hq
  clear hcall h hq
  go_enter Tryd.func64, Tryd.ntmps64
  go_wp2_with fail
  refine (HC.out).mono ?_
  rintro e w' ⟨r, rfl, h1, h2, h3, rfl⟩
  have H3 := Lib.hid h3
  clear h3
  go_wp2_with fail
  go_ret
  exact ⟨ret_b (by rw [← HQ.out, ← H3.out]), rfl⟩

end Go.Proofs.YtgghjieeckkpbaaDoor
