/- l00Rises. -/
import Derived.Test.YtgghjieeckkpbaaDoorIx
namespace Go.Proofs.YtgghjieeckkpbaaDoor
open Go.RowKit

set_option maxRecDepth 100000 in
set_option maxHeartbeats 2000000 in
theorem l00Rises_any (A : Option Addr) (n c : Nat) (xs : List Int) (lo hi : Int) (w : World) (h : Rd w 1 A n c (ints xs)) :
    Calls Tryd.prog 69 #[.slice A n c, .int .i64 lo, .int .i64 hi] w fun e w' => e = .returned (.bool (incB xs lo hi)) ∧ Below w.heap.size w w' := by
  have hl := h.ilen
  have h1 := h.cap
  have h2 := h.max
  have H := Lib.hid h
  have HL := Lib.hid hl
  obtain ⟨r, hr⟩ : ∃ r, incB xs lo hi = r := ⟨_, rfl⟩
  rw [hr]
  have HR := Lib.hid hr
  clear h hl hr
  go_enter Tryd.func69, Tryd.ntmps69
  go_wp2
  go_loopw [7] (fun i wr => ∃ k : Nat, k ≤ n ∧ i = .int .i64 k ∧ Hid (∀ j, j < k → okI xs lo hi j = true) ∧ Below w.heap.size w wr) (fun i _ => n - (intOf i).toNat)
  case atStart => exact ⟨0, Nat.zero_le _, rfl, (show Hid _ from fun j hj => absurd hj (Nat.not_lt_zero _)), Below.refl _ _⟩
  case round =>
    obtain ⟨k, hk, rfl, HB, hb⟩ := hrel
    have Hb := Lib.hid hb
    clear hb
    by_cases hlt : k < n
    · obtain ⟨b, o, x, hA, hbl, hx, hc⟩ := H.out.int hlt
      subst hA
      have c1 := cell_bel hc Hb.out
      have hxd : xs.getD k 0 = x := by simp [List.getD, hx]
      have HXD := Lib.hid hxd
      have hk0 : (0 : Int) ≤ (k : Int) := by omega
      have hk1 : (k : Int) < (n : Int) := by omega
      have hin := fun W => l00In_any x lo hi W
      clear hxd hx hc
      cases hq : inB x lo hi with
      | false =>
        rw [hq] at hin
        have HI := Lib.hid hin
        have HQ := Lib.hid hq
        clear hin hq
        go_wp2
        go_quiet (first | (go_at_call 32; refine Calls.quiet_of_same ((HI.out _).mono fun _ _ h => ⟨h.1, h.2.symm⟩)))
        go_wp2
        go_ret
        refine ⟨ret_b ?_, below_drewN Hb.out _⟩
        rw [← HR.out]
        exact (incB_not (i := k) (by rw [HL.out]; exact hlt) (by unfold okI; rw [HXD.out, HQ.out]; rfl)).symm
      | true =>
        rw [hq] at hin
        have HI := Lib.hid hin
        have HQ := Lib.hid hq
        clear hin hq
        cases k with
        | zero =>
          have hc0 : wr.cell? ⟨b, o, none⟩ = some (.int .i64 x) := by simpa using c1
          go_wp2
          go_quiet (first | (go_at_call 32; refine Calls.quiet_of_same ((HI.out _).mono fun _ _ h => ⟨h.1, h.2.symm⟩)))
          go_wp2
          go_roundw
          case rel => exact ⟨1, by omega, by go_num, (show Hid _ from fun j hj => by
            have : j = 0 := by omega
            subst this
            unfold okI
            rw [HXD.out, HQ.out]
            rfl), below_drewN Hb.out _⟩
          case measure => simp [intOf]; omega
        | succ k =>
          obtain ⟨b2, o2, y, hA, _, hy, hc2⟩ := H.out.int (show k < n by omega)
          injection hA with hA
          injection hA with e1 e2
          subst e1
          subst e2
          have c2 := cell_bel hc2 Hb.out
          have hyd : xs.getD k 0 = y := by simp [List.getD, hy]
          have HYD := Lib.hid hyd
          have hkp : decide ((0 : Int) < ((k + 1 : Nat) : Int)) = true := decide_eq_true (by omega)
          have hk2 : (0 : Int) ≤ (k : Int) := by omega
          have hk3 : (k : Int) < (n : Int) := by omega
          clear hyd hy hc2
          by_cases hxy : y < x
          · have hd : ¬ x ≤ y := by omega
            have hdd : decide (x ≤ y) = false := decide_eq_false hd
            go_wp2
            go_quiet (first | (go_at_call 32; refine Calls.quiet_of_same ((HI.out _).mono fun _ _ h => ⟨h.1, h.2.symm⟩)))
            go_wp2
            go_roundw
            case rel => exact ⟨k + 2, by omega, by go_num, (show Hid _ from fun j hj => by
              by_cases e : j = k + 1
              · subst e
                unfold okI
                rw [HXD.out, HQ.out, Nat.add_sub_cancel, HYD.out]
                simp [hxy]
              · exact HB.out j (by omega)), below_drewN Hb.out _⟩
            case measure => simp [intOf]; omega
          · have hd : x ≤ y := by omega
            have hdd : decide (x ≤ y) = true := decide_eq_true hd
            go_wp2
            go_quiet (first | (go_at_call 32; refine Calls.quiet_of_same ((HI.out _).mono fun _ _ h => ⟨h.1, h.2.symm⟩)))
            go_wp2
            go_ret
            refine ⟨ret_b ?_, below_drewN Hb.out _⟩
            rw [← HR.out]
            refine (incB_not (i := k + 1) (by rw [HL.out]; exact hlt) ?_).symm
            unfold okI
            rw [HXD.out, HQ.out, Nat.add_sub_cancel, HYD.out]
            simp [hxy]
    · have : k = n := by omega
      subst this
      go_wp2
      go_ret
      refine ⟨ret_b ?_, Hb.out⟩
      rw [← HR.out]
      exact (incB_of (by rw [HL.out]; exact HB.out)).symm
end Go.Proofs.YtgghjieeckkpbaaDoor
