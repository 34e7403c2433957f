/- Orders: l00Has, l14Order, isIncreasing; the codes of jobs and an order (l14Code, jobsCode). -/
import Derived.Test.YtfjmohnlllbgmaaSo
import Derived.Test.YtfjmohnlllbgmaaBd
namespace Go.Proofs.Ytfjmohnlllbgmaa
open Go.RowKit Go.Shelf

def hasB (xs : List Int) (x : Int) : Bool := decide (x ∈ xs)
theorem hasB_yes {xs : List Int} {x : Int} {k : Nat} (h : xs[k]? = some x) : hasB xs x = true := decide_eq_true (List.mem_of_getElem? h)
theorem hasB_no {xs : List Int} {x : Int} (h : ∀ j y, j < xs.length → xs[j]? = some y → y ≠ x) : hasB xs x = false := by
  unfold hasB
  rw [decide_eq_false_iff_not]
  intro hm
  obtain ⟨j, hj, e⟩ := List.getElem_of_mem hm
  exact h j _ hj (List.getElem?_eq_getElem hj) e

set_option maxHeartbeats 1000000 in
theorem l00Has_any (A : Option Addr) (n c : Nat) (xs : List Int) (x : Int) (w : World) (h : Rd w 1 A n c (ints xs)) :
    Calls Try.prog 92 #[.slice A n c, .int .i64 x] w fun e w' => e = .returned (.bool (hasB xs x)) ∧ w = w' := by
  have hl := h.ilen
  have h1 := h.cap
  have h2 := h.max
  have H := Lib.hid h
  have HL := Lib.hid hl
  obtain ⟨r, hr⟩ : ∃ r, hasB xs x = r := ⟨_, rfl⟩
  rw [hr]
  have HR := Lib.hid hr
  clear h hl hr
  go_enter Try.func92, Try.ntmps92
  go_wp2
  go_loop [5] (fun i => ∃ k : Nat, k ≤ n ∧ i = .int .i64 k ∧ Hid (∀ j y, j < k → xs[j]? = some y → y ≠ x)) (fun i => n - (intOf i).toNat)
  case atStart => exact ⟨0, Nat.zero_le _, rfl, (show Hid _ from fun j _ hj => absurd hj (Nat.not_lt_zero _))⟩
  case round =>
    obtain ⟨k, hk, rfl, HB⟩ := hrel
    by_cases hlt : k < n
    · obtain ⟨b, o, y, hA, hbl, hx, hc⟩ := H.out.int hlt
      subst hA
      have HX := Lib.hid hx
      clear hx
      have hk1 : (k : Int) < (n : Int) := by omega
      by_cases hxy : y = x
      · subst hxy
        go_wp2
        go_ret
        exact ⟨ret_b (by rw [← HR.out]; exact (hasB_yes HX.out).symm), rfl⟩
      · have hne : (y == x) = false := by simpa using hxy
        go_wp2
        go_round
        case rel =>
          refine ⟨k + 1, by omega, by go_num, (show Hid _ from fun j z hj hz => ?_)⟩
          by_cases e : j = k
          · subst e
            have := HX.out
            rw [this] at hz
            injection hz with hz
            rw [← hz]
            exact hxy
          · exact HB.out j z (by omega) hz
        case measure => simp [intOf]; omega
    · have : k = n := by omega
      subst this
      go_wp2
      go_ret
      exact ⟨ret_b (by rw [← HR.out]; exact (hasB_no (by rw [HL.out]; exact HB.out)).symm), rfl⟩

theorem nodup_snoc {xs : List Int} {k : Nat} {x : Int} (hx : xs[k]? = some x) (h : (xs.take k).Nodup) (hm : x ∉ xs.take k) : (xs.take (k + 1)).Nodup := by
  rw [List.take_add_one, hx]
  show (xs.take k ++ [x]).Nodup
  rw [List.nodup_append]
  exact ⟨h, by simp, fun a ha b hb => by simp at hb; subst hb; intro e; subst e; exact hm ha⟩

set_option maxHeartbeats 2000000 in
theorem l14Order_any (n : Nat) (B : Option Addr) (m d : Nat) (os : List Int) (w : World) (hn : n ≤ 1000) (h : Rd w 1 B m d (ints os)) :
    Calls Try.prog 93 #[.int .i64 n, .slice B m d] w fun e w' => e = .returned (.bool (ordB n os)) ∧ Below w.heap.size w w' := by
  have hl := h.ilen
  have h1 := h.cap
  have h2 := h.max
  have H := Lib.hid h
  have HL := Lib.hid hl
  obtain ⟨r, hr⟩ : ∃ r, ordB n os = r := ⟨_, rfl⟩
  rw [hr]
  have HR := Lib.hid hr
  clear h hl hr
  go_enter Try.func93, Try.ntmps93
  go_wp2
  go_loopw [5] (fun i wr => ∃ k : Nat, k ≤ m ∧ i = .int .i64 k ∧ Hid (∀ (j : Nat) (y : Int), j < k → os[j]? = some y → 0 ≤ y ∧ y ≤ (n : Int) - 1) ∧ Hid ((os.take k).Nodup) ∧ Below w.heap.size w wr) (fun i _ => m - (intOf i).toNat)
  case atStart => exact ⟨0, Nat.zero_le _, rfl, (show Hid _ from fun j _ hj => absurd hj (Nat.not_lt_zero _)), Lib.hid (by simp), Below.refl _ _⟩
  case round =>
    obtain ⟨k, hk, rfl, HB, HN, hb⟩ := hrel
    have Hb := Lib.hid hb
    clear hb
    by_cases hlt : k < m
    · obtain ⟨b, o, x, hA, hbl, hx, hc⟩ := H.out.int hlt
      subst hA
      have c1 := (Hb.out.cell (p := ⟨b, o + k, none⟩) hbl).trans hc
      have HX := Lib.hid hx
      have hk0 : (0 : Int) ≤ (k : Int) := by omega
      have hk1 : (k : Int) < (m : Int) := by omega
      have hkd : decide ((k : Int) < (m : Int)) = true := decide_eq_true hk1
      have hin := fun W => l00In_any x 0 ((n : Int) - 1) W
      have hsl := slice_head b o m d k k rfl (by omega)
      have hrd := (H.out.takeI (j := k) (by omega))
      have hhas := fun q => l00Has_any (some ⟨b, o, none⟩) k d (os.take k) x (wr.drewN q) (hrd.below (below_drewN Hb.out q))
      clear hx hc hrd
      cases hq : inB x 0 ((n : Int) - 1) with
      | false =>
        rw [hq] at hin
        have HI := Lib.hid hin
        have HQ := Lib.hid hq
        have HH := Lib.hid hhas
        clear hin hq hhas
        go_wp2
        go_quiet (first | (go_at_call 79; refine Calls.quiet_of_same ((HI.out _).mono fun _ _ h => ⟨h.1, h.2.symm⟩)))
        go_wp2
        go_ret
        refine ⟨ret_b ?_, below_drewN Hb.out _⟩
        rw [← HR.out]
        exact (ord_out HX.out (inB_false HQ.out)).symm
      | true =>
        rw [hq] at hin
        cases hm : hasB (os.take k) x with
        | true =>
          rw [hm] at hhas
          have HI := Lib.hid hin
          have HM := Lib.hid hm
          have HH := Lib.hid hhas
          clear hin hq hm hhas
          go_wp2
          go_quiet (first | (go_at_call 79; refine Calls.quiet_of_same ((HI.out _).mono fun _ _ h => ⟨h.1, h.2.symm⟩)) | (go_at_call 92; refine Calls.quiet_of_same ((HH.out _).mono fun _ _ h => ⟨h.1, h.2.symm⟩)))
          go_wp2
          go_ret
          refine ⟨ret_b ?_, below_drewN Hb.out _⟩
          rw [← HR.out]
          have hm := of_decide_eq_true HM.out
          obtain ⟨j, hj⟩ := List.getElem?_of_mem hm
          have hjl := (List.getElem?_eq_some_iff.1 hj).1
          rw [List.length_take] at hjl
          rw [List.getElem?_take_of_lt (by omega)] at hj
          exact (ord_twice hj HX.out (by omega)).symm
        | false =>
          rw [hm] at hhas
          have HI := Lib.hid hin
          have HM := Lib.hid hm
          have HQ := Lib.hid hq
          have HH := Lib.hid hhas
          clear hin hq hm hhas
          go_wp2
          go_quiet (first | (go_at_call 79; refine Calls.quiet_of_same ((HI.out _).mono fun _ _ h => ⟨h.1, h.2.symm⟩)) | (go_at_call 92; refine Calls.quiet_of_same ((HH.out _).mono fun _ _ h => ⟨h.1, h.2.symm⟩)))
          go_wp2
          go_roundw
          case rel =>
            refine ⟨k + 1, by omega, by go_num, (show Hid _ from fun j y hj hy => ?_), Lib.hid (nodup_snoc HX.out HN.out (of_decide_eq_false HM.out)), below_drewN Hb.out _⟩
            by_cases e : j = k
            · subst e
              have := HX.out
              rw [this] at hy
              injection hy with hy
              rw [← hy]
              exact inB_true HQ.out
            · exact HB.out j y (by omega) hy
          case measure => simp [intOf]; omega
    · have : k = m := by omega
      subst this
      by_cases hkn : k = n
      · have hd : ((k : Int) == (n : Int)) = true := by simp [hkn]
        have HK := Lib.hid hkn
        clear hkn
        go_wp2
        go_ret
        refine ⟨ret_b ?_, Hb.out⟩
        rw [← HR.out]
        have hN := HN.out
        rw [List.take_of_length_le (by rw [HL.out]; exact Nat.le_refl _)] at hN
        exact (ord_of (by rw [HL.out]; exact HK.out) (fun j y hy => HB.out j y (by have := (List.getElem?_eq_some_iff.1 hy).1; rw [HL.out] at this; exact this) hy) hN).symm
      · have hd : ((k : Int) == (n : Int)) = false := by simp; omega
        go_wp2
        go_ret
        refine ⟨ret_b ?_, Hb.out⟩
        rw [← HR.out]
        exact (ord_len (by rw [HL.out]; exact hkn)).symm
end Go.Proofs.Ytfjmohnlllbgmaa
