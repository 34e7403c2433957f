/- ValidJobs (program and reference), and its law. Printed by mkvj.py. -/
import Derived.Test.YtfjmohnlllbgmaaPrF
import Derived.Test.YtfjmohnlllbgmaaPr2
namespace Go.Proofs.Ytfjmohnlllbgmaa
open Go.RowKit Go.Shelf

def jobB (p : Int × Int) : Bool := inB p.1 1 1000 && inB p.2 1 1000
def jobsB (ps : List (Int × Int)) : Bool := decide (ps.length ≤ 7) && !(ps.any fun p => !jobB p)
theorem jobs_long {ps : List (Int × Int)} (h : 7 < ps.length) : jobsB ps = false := by
  unfold jobsB
  rw [show decide (ps.length ≤ 7) = false from by simp; omega]
  simp
theorem jobs_bad {ps : List (Int × Int)} {k : Nat} {p : Int × Int} (hx : ps[k]? = some p) (h : jobB p = false) : jobsB ps = false := by
  unfold jobsB
  have : (ps.any fun p => !jobB p) = true := by
    rw [List.any_eq_true]
    exact ⟨p, List.mem_of_getElem? hx, by rw [h]; rfl⟩
  rw [this]
  simp
theorem jobs_ok {ps : List (Int × Int)} (h : ∀ j p, j < ps.length → ps[j]? = some p → jobB p = true) : jobsB ps = decide (ps.length ≤ 7) := by
  unfold jobsB
  have : (ps.any fun p => !jobB p) = false := by
    rw [List.any_eq_false]
    intro p hp
    obtain ⟨j, hj, rfl⟩ := List.getElem_of_mem hp
    rw [h j _ hj (List.getElem?_eq_getElem hj)]
    simp
  rw [this]
  simp
/-- What valid jobs are. -/
structure JOk (ps : List (Int × Int)) : Prop where
  len : ps.length ≤ 7
  job : ∀ (j : Nat) (p : Int × Int), ps[j]? = some p → (1 ≤ p.1 ∧ p.1 ≤ 1000) ∧ (1 ≤ p.2 ∧ p.2 ≤ 1000)
theorem jok {ps : List (Int × Int)} (h : jobsB ps = true) : JOk ps := by
  unfold jobsB at h
  simp only [Bool.and_eq_true, decide_eq_true_eq, Bool.not_eq_true'] at h
  obtain ⟨h1, h2⟩ := h
  refine ⟨h1, fun j p hp => ?_⟩
  rw [List.any_eq_false] at h2
  have := h2 p (List.mem_of_getElem? hp)
  simp only [Bool.not_eq_true', Bool.not_eq_false] at this
  unfold jobB at this
  simp only [Bool.and_eq_true] at this
  exact ⟨inB_true this.1, inB_true this.2⟩

set_option maxHeartbeats 2000000 in
theorem l14Ok_any (A : Option Addr) (n c : Nat) (ps : List (Int × Int)) (w : World) (h : Rd w 2 A n c (pr ps)) :
    Calls Try.prog 55 #[.slice A n c] w fun e w' => e = .returned (.bool (jobsB ps)) ∧ w = w' := by
  have hl := h.plen
  have h1 := h.cap
  have h2 := h.max
  obtain ⟨r, hr'⟩ : ∃ r, jobsB ps = r := ⟨_, rfl⟩
  rw [hr']
  have HZ := Lib.hid hr'
  have H := Lib.hid h
  have HL := Lib.hid hl
  clear hr' h hl
  go_enter Try.func55, Try.ntmps55
  go_wp2_with fail
  go_loop [3] (fun i => ∃ k : Nat, k ≤ n ∧ i = .int .i64 k ∧ Hid (∀ j p, j < k → ps[j]? = some p → jobB p = true)) (fun i => n - (intOf i).toNat)
  case atStart => exact ⟨0, Nat.zero_le _, rfl, (show Hid _ from fun j _ hj => absurd hj (Nat.not_lt_zero _))⟩
  case round =>
    obtain ⟨k, hk, rfl, HB⟩ := hrel
    by_cases hlt : k < n
    · obtain ⟨b, o, x, y, hA, hbl, hx, hc1, hc2⟩ := H.out.pair hlt
      subst hA
      have HX := Lib.hid hx
      have hk0 : (0 : Int) ≤ (k : Int) := by omega
      have hk1 : (k : Int) < (n : Int) := by omega
      clear hx
      cases e1 : inB x 1 1000 with
      | false =>
        have E1 := Lib.hid e1
        clear e1
        go_wp2_with (go_at_call 79; refine (l00In_any _ _ _ _).mono ?_; rw [E1.out]; rintro e w' ⟨rfl, rfl⟩)
        go_ret
        exact ⟨ret_b (by rw [← HZ.out]; exact (jobs_bad HX.out (by unfold jobB; rw [E1.out]; rfl)).symm), rfl⟩
      | true =>
        have E1 := Lib.hid e1
        clear e1
        cases e2 : inB y 1 1000 with
        | false =>
          have E2 := Lib.hid e2
          clear e2
          go_wp2_with (first | (go_at_call 79; (with_reducible refine (l00In_any x 1 1000 _).mono ?_); rw [E1.out]; rintro e w' ⟨rfl, rfl⟩) | (go_at_call 79; refine (l00In_any _ _ _ _).mono ?_; rw [E2.out]; rintro e w' ⟨rfl, rfl⟩))
          go_ret
          exact ⟨ret_b (by rw [← HZ.out]; exact (jobs_bad HX.out (by unfold jobB; rw [E2.out]; simp)).symm), rfl⟩
        | true =>
          have E2 := Lib.hid e2
          clear e2
          go_wp2_with (first | (go_at_call 79; (with_reducible refine (l00In_any x 1 1000 _).mono ?_); rw [E1.out]; rintro e w' ⟨rfl, rfl⟩) | (go_at_call 79; refine (l00In_any _ _ _ _).mono ?_; rw [E2.out]; rintro e w' ⟨rfl, rfl⟩))
          go_round
          case rel =>
            refine ⟨k + 1, by omega, by go_num, (show Hid _ from fun j p hj hp => ?_)⟩
            by_cases e : j = k
            · subst e
              have := HX.out
              rw [this] at hp
              injection hp with hp
              rw [← hp]
              unfold jobB
              rw [E1.out, E2.out]
              rfl
            · exact HB.out j p (by omega) hp
          case measure => simp [intOf]; omega
    · have : k = n := by omega
      subst this
      have hz : decide ((k : Int) ≤ 7) = r := by
        rw [← HZ.out, jobs_ok (by rw [HL.out]; exact HB.out), HL.out]
        by_cases h7 : k ≤ 7
        · rw [decide_eq_true (by omega), decide_eq_true h7]
        · rw [decide_eq_false (by omega), decide_eq_false h7]
      go_wp2
      go_ret
      exact ⟨rfl, rfl⟩

set_option maxHeartbeats 1000000 in
theorem specValidJobs_any (A : Option Addr) (n c : Nat) (ps : List (Int × Int)) (w : World) (h : Rd w 2 A n c (pr ps)) :
    Calls Try.prog 17 #[.slice A n c] w fun e w' => e = .returned (.bool (jobsB ps)) ∧ w = w' := by
  have H := Lib.hid h
  clear h
  go_enter Try.func17, Try.ntmps17
  go_wp2_with fail
  refine (l14Ok_any _ _ _ ps _ H.out).mono ?_
  rintro e w' ⟨rfl, rfl⟩
  go_wp2_with fail
  go_ret
  exact ⟨rfl, rfl⟩

set_option maxHeartbeats 1000000 in
theorem validJobs_pred (ps : List (Int × Int)) (w : World) :
    PredB Try.prog 58 #[] prV (fun p => !jobB p) ps w := fun W p _ hb => by
  obtain ⟨x, y⟩ := p
  clear hb
  show Calls Try.prog 58 #[.agg #[.int .i64 x, .int .i64 y]] W fun e w' => e = .returned (.bool (!(inB x 1 1000 && inB y 1 1000))) ∧ Below W.heap.size W w'
  cases e1 : inB x 1 1000 with
  | false =>
    go_enter Try.func58, Try.ntmps58
    go_wp2_with (go_at_call 59; refine (within_any _ _ _ _).mono ?_; rw [e1]; rintro e w' ⟨rfl, rfl⟩)
    go_ret
    exact ⟨rfl, (by go_grown)⟩
  | true =>
    go_enter Try.func58, Try.ntmps58
    go_wp2_with (first | (go_at_call 59; (with_reducible refine (within_any x 1 1000 _).mono ?_); rw [e1]; rintro e w' ⟨rfl, rfl⟩) | (go_at_call 59; refine (within_any _ _ _ _).mono ?_; rintro e w' ⟨rfl, rfl⟩))
    go_ret
    exact ⟨by simp, (by go_grown)⟩

set_option maxHeartbeats 1000000 in
theorem implValidJobs_any (A : Option Addr) (n c : Nat) (ps : List (Int × Int)) (w : World) (h : Rd w 2 A n c (pr ps)) :
    Calls Try.prog 19 #[.slice A n c] w fun e w' => e = .returned (.bool (jobsB ps)) ∧ Below w.heap.size w w' := by
  have hl := h.plen
  have h1 := h.cap
  have h2 := h.max
  have eg : ∀ args w, (callFunc 58 args).run Try.prog w = .ok (.enter 58 args) w := enters_of Try.func58 (by kernel_rfl) rfl
  have hcall := containsFunc_pr 58 #[] eg (fun p => !jobB p) A n c ps w h (validJobs_pred ps w)
  have hz : jobsB ps = (decide (n ≤ 7) && !(ps.any fun p => !jobB p)) := by rw [← hl]; rfl
  rw [hz]
  generalize (ps.any fun p => !jobB p) = r at *
  have HC := Lib.hid hcall
  clear hcall h hz eg hl
  by_cases hn : n ≤ 7
  · have hn' : (n : Int) ≤ 7 := by omega
    go_enter Try.func19, Try.ntmps19
    go_wp2_with fail
    refine (HC.out).mono ?_
    rintro e w' ⟨rfl, hb⟩
    go_wp2_with fail
    go_ret
    exact ⟨ret_b (by simp [hn]), hb⟩
  · have hn' : ¬ (n : Int) ≤ 7 := by omega
    go_enter Try.func19, Try.ntmps19
    go_wp2
    go_ret
    exact ⟨ret_b (by simp), Below.refl _ _⟩

set_option maxHeartbeats 4000000 in
theorem law_ValidJobs (A : Option Addr) (n c : Nat) (ps : List (Int × Int)) (w : World) (h : Rd w 2 A n c (pr ps)) :
    Calls Try.prog 3 #[.slice A n c] w fun e w' => e = .returned (.bool true) ∧ Below w.heap.size w w' := by
  have h1 := h.cap
  have h2 := h.max
  have HA := Lib.hid h
  clear h
  by_cases hn : (1048576 : Int) < (n : Int)
  · go_enter Try.func3, Try.ntmps3
    go_wp2_with fail
    refine (szPrS_any _ _ _ _ _ (by omega) (by omega) (by omega)).mono ?_
    rw [if_pos (by omega)]
    rintro e w' ⟨rfl, rfl⟩
    go_wp2
    go_ret
    exact ⟨rfl, Below.refl _ _⟩
  have b0 : Below w.heap.size w w := Below.refl _ _
  go_enter Try.func3, Try.ntmps3
  go_wp2_with fail
  refine (szPrS_any _ _ _ _ _ (by omega) (by omega) (by omega)).mono ?_
  rw [if_neg (by omega)]
  rintro e w' ⟨rfl, rfl⟩
  have h5 : ¬ 1048576 - (n : Int) < 0 := by omega
  go_wp2_with fail
  refine (toPrS_any A n c ps _ (HA.out.below b0) (by omega)).mono ?_
  rintro e w1 ⟨gp, rfl, ho, hb⟩
  have b1 : Below w.heap.size w w1 := b0.trans (hb.mono b0.size)
  have Rp1 := Lib.hid (Rd.of_own ho)
  clear hb b0 ho
  go_wp2_with fail
  refine (specValidJobs_any _ _ _ ps _ Rp1.out).mono ?_
  rintro e wz ⟨rfl, rfl⟩
  go_wp2_with fail
  refine (toPrS_any A n c ps _ (HA.out.below b1) (by omega)).mono ?_
  rintro e w2 ⟨gx, rfl, ho, hb⟩
  have b2 : Below w.heap.size w w2 := b1.trans (hb.mono b1.size)
  have Rp2 := Lib.hid (Rp1.out.below hb)
  have Rx2 := Lib.hid (Rd.of_own ho)
  clear hb b1 Rp1 ho
  go_wp2_with fail
  refine (implValidJobs_any _ _ _ ps _ Rx2.out).mono ?_
  rintro e w3 ⟨rfl, hb⟩
  have b3 : Below w.heap.size w w3 := b2.trans (hb.mono b2.size)
  have Rp3 := Lib.hid (Rp2.out.below hb)
  have Rx3 := Lib.hid (Rx2.out.below hb)
  clear hb b2 Rp2 Rx2
  go_wp2_with fail
  refine (toPrS_any A n c ps _ (HA.out.below b3) (by omega)).mono ?_
  rintro e w4 ⟨gz, rfl, ho, hb⟩
  have b4 : Below w.heap.size w w4 := b3.trans (hb.mono b3.size)
  have Rp4 := Lib.hid (Rp3.out.below hb)
  have Rx4 := Lib.hid (Rx3.out.below hb)
  have Rz4 := Lib.hid (Rd.of_own ho)
  clear hb b3 Rp3 Rx3 ho
  go_wp2_with fail
  refine (eqPrS_any _ _ _ ps _ _ _ ps _ Rx4.out Rz4.out).mono ?_
  rw [eqG_self]
  rintro e w5 ⟨rfl, hb⟩
  have b5 : Below w.heap.size w w5 := b4.trans (hb.mono b4.size)
  have Rp5 := Lib.hid (Rp4.out.below hb)
  have Rx5 := Lib.hid (Rx4.out.below hb)
  have Rz5 := Lib.hid (Rz4.out.below hb)
  clear hb b4 Rp4 Rx4 Rz4
  go_wp2_with fail
  go_ret
  exact ⟨rfl, b5⟩

end Go.Proofs.Ytfjmohnlllbgmaa
