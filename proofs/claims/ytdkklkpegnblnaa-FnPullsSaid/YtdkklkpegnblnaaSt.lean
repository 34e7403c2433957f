/- StitchesFor and ValidSides (program and reference), and the laws on them. -/
import Derived.Test.YtdkklkpegnblnaaSl
import Derived.Test.YtdkklkpegnblnaaFrac
namespace Go.Proofs.Ytdkklkpegnblnaa
open Go.RowKit

theorem maxZ_comm (a b : Int) : maxZ a b = maxZ b a := by unfold maxZ; split <;> split <;> omega

theorem isStitch_any (d : Int) (w : World) : Calls Try.prog 57 #[.int .i64 d] w fun e w' => e = .returned (.bool (inB d 10 120)) ∧ w = w' := by
  go_enter Try.func57, Try.ntmps57
  go_wp2_with (go_at_call 53; refine (within_any _ _ _ _).mono ?_; rintro e w' ⟨rfl, rfl⟩)
  go_returns
  exact ⟨rfl, rfl⟩
theorem l15Stitch_any (d : Int) (w : World) : Calls Try.prog 55 #[.int .i64 d] w fun e w' => e = .returned (.bool (inB d 10 120)) ∧ w = w' := by
  go_enter Try.func55, Try.ntmps55
  go_wp2_with (go_at_call 54; refine (l00In_any _ _ _ _).mono ?_; rintro e w' ⟨rfl, rfl⟩)
  go_returns
  exact ⟨rfl, rfl⟩

set_option maxHeartbeats 400000 in
theorem stitchesFor_any (a b : Int) (w : World) (ha : 1 ≤ a) (ha' : a ≤ 5000) (hb : 10 ≤ b) (hb' : b ≤ 120) :
    Calls Try.prog 58 #[.int .i64 a, .int .i64 b] w fun e w' => e = .returned (.int .i64 (maxZ 1 (roundZ a b))) ∧ w = w' := by
  have hcall := fun W => rounded_any a b W (by omega) (by omega) (by omega) (by omega)
  generalize roundZ a b = r at *
  have HC := Lib.hid hcall
  clear hcall
  go_enter Try.func58, Try.ntmps58
  go_wp2_with (go_at_call 87; refine (HC.out _).mono ?_; rintro e w' ⟨rfl, rfl⟩)
  all_goals
    go_ret
    exact ⟨ret_i (by unfold maxZ; split <;> omega), rfl⟩

set_option maxHeartbeats 400000 in
theorem l15Count_any (a b : Int) (w : World) (ha : 1 ≤ a) (ha' : a ≤ 5000) (hb : 10 ≤ b) (hb' : b ≤ 120) :
    Calls Try.prog 56 #[.int .i64 a, .int .i64 b] w fun e w' => e = .returned (.int .i64 (maxZ 1 (roundZ a b))) ∧ w = w' := by
  have hcall := fun W => l02Round_any a b W (by omega) (by omega) (by omega) (by omega)
  generalize roundZ a b = r at *
  have HC := Lib.hid hcall
  clear hcall
  go_enter Try.func56, Try.ntmps56
  go_wp2_with (first | (go_at_call 86; refine (HC.out _).mono ?_; rintro e w' ⟨rfl, rfl⟩) | (go_at_call 85; refine (l00Max_any _ _ _).mono ?_; rintro e w' ⟨rfl, rfl⟩))
  go_ret
  exact ⟨rfl, rfl⟩

/-- The number of stitches and the code. -/
def stitchesZ (a b : Int) : Int × Int := if (inB a 1 5000 && inB b 10 120) = true then (maxZ 1 (roundZ a b), 0) else (0, 2)
theorem stitches_no {a b : Int} (h : inB a 1 5000 = false ∨ inB b 10 120 = false) : stitchesZ a b = (0, 2) := by
  unfold stitchesZ
  rcases h with h | h <;> rw [h] <;> simp
theorem stitches_yes {a b : Int} (h : inB a 1 5000 = true) (h' : inB b 10 120 = true) : stitchesZ a b = (maxZ 1 (roundZ a b), 0) := by
  unfold stitchesZ
  rw [h, h', if_pos (by simp)]

set_option maxHeartbeats 400000 in
theorem implStitchesFor_any (a b : Int) (w : World) :
    Calls Try.prog 21 #[.int .i64 a, .int .i64 b] w fun e w' => e = .returned (.tuple #[.int .i64 (stitchesZ a b).1, .int .i64 (stitchesZ a b).2]) ∧ w = w' := by
  cases h1 : inB a 1 5000 with
  | false =>
    rw [stitches_no (Or.inl h1)]
    go_enter Try.func21, Try.ntmps21
    go_wp2_with (go_at_call 53; refine (within_any _ _ _ _).mono ?_; rintro e w' ⟨rfl, rfl⟩)
    go_ret2
    exact ⟨rfl, rfl⟩
  | true =>
    cases h2 : inB b 10 120 with
    | false =>
      rw [stitches_no (Or.inr h2)]
      go_enter Try.func21, Try.ntmps21
      go_wp2_with (first | (go_at_call 53; refine (within_any _ _ _ _).mono ?_; rintro e w' ⟨rfl, rfl⟩) | (go_at_call 57; refine (isStitch_any _ _).mono ?_; rintro e w' ⟨rfl, rfl⟩))
      go_ret2
      exact ⟨rfl, rfl⟩
    | true =>
      rw [stitches_yes h1 h2]
      obtain ⟨ha, ha'⟩ := inB_true h1
      obtain ⟨hb, hb'⟩ := inB_true h2
      go_enter Try.func21, Try.ntmps21
      go_wp2_with (first | (go_at_call 53; refine (within_any _ _ _ _).mono ?_; rintro e w' ⟨rfl, rfl⟩) | (go_at_call 57; refine (isStitch_any _ _).mono ?_; rintro e w' ⟨rfl, rfl⟩) | (go_at_call 58; refine (stitchesFor_any _ _ _ ha ha' hb hb').mono ?_; rintro e w' ⟨rfl, rfl⟩))
      go_ret2
      exact ⟨rfl, rfl⟩

set_option maxHeartbeats 400000 in
theorem specStitchesFor_any (a b : Int) (w : World) :
    Calls Try.prog 20 #[.int .i64 a, .int .i64 b] w fun e w' => e = .returned (.tuple #[.int .i64 (stitchesZ a b).1, .int .i64 (stitchesZ a b).2]) ∧ w = w' := by
  cases h1 : inB a 1 5000 with
  | false =>
    rw [stitches_no (Or.inl h1)]
    go_enter Try.func20, Try.ntmps20
    go_wp2_with (go_at_call 54; refine (l00In_any _ _ _ _).mono ?_; rintro e w' ⟨rfl, rfl⟩)
    go_ret2
    exact ⟨rfl, rfl⟩
  | true =>
    cases h2 : inB b 10 120 with
    | false =>
      rw [stitches_no (Or.inr h2)]
      go_enter Try.func20, Try.ntmps20
      go_wp2_with (first | (go_at_call 54; refine (l00In_any _ _ _ _).mono ?_; rintro e w' ⟨rfl, rfl⟩) | (go_at_call 55; refine (l15Stitch_any _ _).mono ?_; rintro e w' ⟨rfl, rfl⟩))
      go_ret2
      exact ⟨rfl, rfl⟩
    | true =>
      rw [stitches_yes h1 h2]
      obtain ⟨ha, ha'⟩ := inB_true h1
      obtain ⟨hb, hb'⟩ := inB_true h2
      go_enter Try.func20, Try.ntmps20
      go_wp2_with (first | (go_at_call 54; refine (l00In_any _ _ _ _).mono ?_; rintro e w' ⟨rfl, rfl⟩) | (go_at_call 55; refine (l15Stitch_any _ _).mono ?_; rintro e w' ⟨rfl, rfl⟩) | (go_at_call 56; refine (l15Count_any _ _ _ ha ha' hb hb').mono ?_; rintro e w' ⟨rfl, rfl⟩))
      go_ret2
      exact ⟨rfl, rfl⟩

set_option maxHeartbeats 400000 in
theorem law_StitchesFor (a b : Int) (w : World) :
    Calls Try.prog 4 #[.int .i64 a, .int .i64 b] w fun e w' => e = .returned (.bool true) ∧ Below w.heap.size w w' := by
  go_enter Try.func4, Try.ntmps4
  go_wp2_with (first | (go_at_call 20; refine (specStitchesFor_any _ _ _).mono ?_; rintro e w' ⟨rfl, rfl⟩) | (go_at_call 21; refine (implStitchesFor_any _ _ _).mono ?_; rintro e w' ⟨rfl, rfl⟩))
  go_ret
  exact ⟨rfl, Below.refl _ _⟩

/-- Sides: 1 to 12 of them, each from 1 to 5000. -/
def sidesB (xs : List Int) : Bool := inB xs.length 1 12 && !outB xs 1 5000

set_option maxHeartbeats 400000 in
theorem implValidSides_any (A : Option Addr) (n c : Nat) (xs : List Int) (w : World) (h : Rd w 1 A n c (ints xs)) :
    Calls Try.prog 24 #[.slice A n c] w fun e w' => e = .returned (.bool (sidesB xs)) ∧ Below w.heap.size w w' := by
  have hl := h.ilen
  have h1 := h.cap
  have h2 := h.max
  have hcall := outside_any A n c xs 1 5000 w h
  have hz : sidesB xs = (inB n 1 12 && !outB xs 1 5000) := by unfold sidesB; rw [hl]
  rw [hz]
  generalize outB xs 1 5000 = r at *
  have HC := Lib.hid hcall
  clear hcall hz hl h
  cases hb : inB n 1 12 with
  | false =>
    go_enter Try.func24, Try.ntmps24
    go_wp2_with (go_at_call 53; refine (within_any _ _ _ _).mono ?_; rintro e w' ⟨rfl, rfl⟩)
    go_ret
    exact ⟨rfl, Below.refl _ _⟩
  | true =>
    go_enter Try.func24, Try.ntmps24
    go_wp2_with (first | (go_at_call 53; refine (within_any _ _ _ _).mono ?_; rintro e w' ⟨rfl, rfl⟩) | (go_at_call 60; refine (HC.out).mono ?_; rintro e w' ⟨rfl, hb'⟩))
    go_ret
    exact ⟨by simp, hb'⟩

theorem any_out {xs : List Int} {k : Nat} {x lo hi : Int} (hx : xs[k]? = some x) (h : inB x lo hi = false) : outB xs lo hi = true := by
  unfold outB
  rw [List.any_eq_true]
  exact ⟨x, List.mem_of_getElem? hx, by rw [h]; rfl⟩
theorem all_in {xs : List Int} {lo hi : Int} (h : ∀ j y, j < xs.length → xs[j]? = some y → inB y lo hi = true) : outB xs lo hi = false := by
  unfold outB
  rw [List.any_eq_false]
  intro x hx
  obtain ⟨j, hj, rfl⟩ := List.getElem_of_mem hx
  rw [h j _ hj (List.getElem?_eq_getElem hj)]
  simp

set_option maxHeartbeats 1000000 in
theorem l15Ok_any (A : Option Addr) (n c : Nat) (xs : List Int) (w : World) (h : Rd w 1 A n c (ints xs)) :
    Calls Try.prog 59 #[.slice A n c] w fun e w' => e = .returned (.bool (sidesB xs)) ∧ w = w' := by
  have hl := h.ilen
  have h1 := h.cap
  have h2 := h.max
  have hz : sidesB xs = (inB n 1 12 && !outB xs 1 5000) := by unfold sidesB; rw [hl]
  rw [hz]
  have H := Lib.hid h
  have HL := Lib.hid hl
  clear h hl hz
  go_enter Try.func59, Try.ntmps59
  go_wp2
  go_loop [3] (fun i => ∃ k : Nat, k ≤ n ∧ i = .int .i64 k ∧ Hid (∀ j y, j < k → xs[j]? = some y → inB y 1 5000 = true)) (fun i => n - (intOf i).toNat)
  case atStart => exact ⟨0, Nat.zero_le _, rfl, (show Hid _ from fun j _ hj => absurd hj (Nat.not_lt_zero _))⟩
  case round =>
    obtain ⟨k, hk, rfl, HB⟩ := hrel
    by_cases hlt : k < n
    · obtain ⟨b, o, x, hA, hbl, hx, hc⟩ := H.out.int hlt
      subst hA
      have HX := Lib.hid hx
      clear hx
      cases hin : inB x 1 5000 with
      | false =>
        have ho := any_out HX.out hin
        have HO := Lib.hid ho
        clear ho
        go_wp2_with (go_at_call 54; refine (l00In_any _ _ _ _).mono ?_; rintro e w' ⟨rfl, rfl⟩)
        go_ret
        exact ⟨ret_b (by rw [HO.out]; simp), rfl⟩
      | true =>
        have HI := Lib.hid hin
        go_wp2_with (go_at_call 54; refine (l00In_any _ _ _ _).mono ?_; rintro e w' ⟨rfl, rfl⟩)
        go_round
        case rel =>
          refine ⟨k + 1, by omega, by go_num, (show Hid _ from fun j y hj hy => ?_)⟩
          by_cases e : j = k
          · subst e
            rw [HX.out] at hy
            injection hy with hy
            rw [← hy]
            exact HI.out
          · exact HB.out j y (by omega) hy
        case measure => simp [intOf]; omega
    · have : k = n := by omega
      subst this
      have ho : outB xs 1 5000 = false := all_in (by rw [HL.out]; exact HB.out)
      have HO := Lib.hid ho
      clear ho
      go_wp2_with (go_at_call 54; refine (l00In_any _ _ _ _).mono ?_; rintro e w' ⟨rfl, rfl⟩)
      go_ret
      exact ⟨ret_b (by rw [HO.out]; simp), rfl⟩

set_option maxHeartbeats 400000 in
theorem specValidSides_any (A : Option Addr) (n c : Nat) (xs : List Int) (w : World) (h : Rd w 1 A n c (ints xs)) :
    Calls Try.prog 22 #[.slice A n c] w fun e w' => e = .returned (.bool (sidesB xs)) ∧ w = w' := by
  go_enter Try.func22, Try.ntmps22
  go_wp2_with (go_at_call 59; refine (l15Ok_any _ _ _ _ _ h).mono ?_; rintro e w' ⟨rfl, rfl⟩)
  go_ret
  exact ⟨rfl, rfl⟩

set_option maxHeartbeats 1000000 in
theorem law_ValidSides (A : Option Addr) (n c : Nat) (xs : List Int) (w : World) (h : Rd w 1 A n c (ints xs)) (_hr : ∀ z ∈ xs, i64R z) :
    Calls Try.prog 5 #[.slice A n c] w fun e w' => e = .returned (.bool true) ∧ Below w.heap.size w w' := by
  have h1 := h.cap
  have h2 := h.max
  by_cases hn : n ≤ 1048576
  · have H := Lib.hid h
    clear h
    go_enter Try.func5, Try.ntmps5
    go_wp2_with fail
    refine (toInt64S_any A n c xs _ H.out hn).mono ?_
    rintro e w1 ⟨g1, rfl, ho1, hb1⟩
    go_wp2_with fail
    refine (specValidSides_any _ _ _ xs _ (Rd.of_own ho1)).mono ?_
    rintro e w1' ⟨rfl, rfl⟩
    go_wp2_with fail
    refine (toInt64S_any A n c xs _ (H.out.below hb1) hn).mono ?_
    rintro e w2 ⟨g2, rfl, ho2, hb2⟩
    have b2 : Below w.heap.size w w2 := hb1.trans (hb2.mono hb1.size)
    have R2 := Rd.of_own ho2
    have HR2 := Lib.hid R2
    clear ho1 ho2 hb1 hb2 R2
    go_wp2_with fail
    refine (implValidSides_any _ _ _ xs _ HR2.out).mono ?_
    rintro e w3 ⟨rfl, hb3⟩
    have b3 : Below w.heap.size w w3 := b2.trans (hb3.mono b2.size)
    have HR3 := Lib.hid (HR2.out.below hb3)
    clear hb3 b2 HR2
    go_wp2_with fail
    refine (toInt64S_any A n c xs _ (H.out.below b3) hn).mono ?_
    rintro e w4 ⟨g4, rfl, ho4, hb4⟩
    have b4 : Below w.heap.size w w4 := b3.trans (hb4.mono b3.size)
    have HR4 := Lib.hid (HR3.out.below hb4)
    have HQ4 := Lib.hid (Rd.of_own ho4)
    clear ho4 hb4 b3 HR3
    go_wp2_with fail
    refine (eqInt64S_any _ _ _ xs _ _ _ xs _ HR4.out HQ4.out).mono ?_
    rw [eqL_self]
    rintro e w5 ⟨rfl, hb5⟩
    go_wp2_with fail
    go_ret
    exact ⟨rfl, b4.trans (hb5.mono b4.size)⟩
  · go_enter Try.func5, Try.ntmps5
    go_wp2
    go_ret
    exact ⟨rfl, Below.refl _ _⟩
end Go.Proofs.Ytdkklkpegnblnaa
