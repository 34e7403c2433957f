/- isIncreasing; the codes of jobs and an order (l14Code, jobsCode). -/
import Derived.Test.YtfjmohnlllbgmaaOd
import Derived.Test.YtfjmohnlllbgmaaTi
namespace Go.Proofs.Ytfjmohnlllbgmaa
open Go.RowKit Go.Shelf

set_option maxHeartbeats 2000000 in
theorem isIncreasing_any (A : Option Addr) (n c : Nat) (xs : List Int) (lo hi : Int) (w : World) (h : Rd w 1 A n c (ints xs)) :
    Calls Try.prog 90 #[.slice A n c, .int .i64 lo, .int .i64 hi] w fun e w' => e = .returned (.bool (incB xs lo hi)) ∧ w = w' := by
  have hl := h.ilen
  have h1 := h.cap
  have h2 := h.max
  have H := Lib.hid h
  have HL := Lib.hid hl
  obtain ⟨r, hr⟩ : ∃ r, incB xs lo hi = r := ⟨_, rfl⟩
  rw [hr]
  have HR := Lib.hid hr
  clear h hl hr
  go_enter Try.func90, Try.ntmps90
  go_wp2
  go_loop [11] (fun i => ∃ k : Nat, k ≤ n ∧ i = .int .i64 k ∧ Hid (∀ j, j < k → okI xs lo hi j = true)) (fun i => n - (intOf i).toNat)
  case atStart => exact ⟨0, Nat.zero_le _, rfl, (show Hid _ from fun j hj => absurd hj (Nat.not_lt_zero _))⟩
  case round =>
    obtain ⟨k, hk, rfl, HB⟩ := hrel
    by_cases hlt : k < n
    · obtain ⟨b, o, x, hA, hbl, hx, hc⟩ := H.out.int hlt
      subst hA
      have hxd : xs.getD k 0 = x := by simp [List.getD, hx]
      have HXD := Lib.hid hxd
      have hk0 : (0 : Int) ≤ (k : Int) := by omega
      have hk1 : (k : Int) < (n : Int) := by omega
      have hin := fun W => within_any x lo hi W
      clear hxd hx
      cases hq : inB x lo hi with
      | false =>
        rw [hq] at hin
        have HI := Lib.hid hin
        have HQ := Lib.hid hq
        clear hin hq
        go_wp2_with (go_at_call 59; refine (HI.out _).mono ?_; rintro e w' ⟨rfl, rfl⟩)
        go_ret
        refine ⟨ret_b ?_, rfl⟩
        rw [← HR.out]
        exact (incB_not (i := k) (by rw [HL.out]; exact hlt) (by unfold okI; rw [HXD.out, HQ.out]; rfl)).symm
      | true =>
        rw [hq] at hin
        have HI := Lib.hid hin
        have HQ := Lib.hid hq
        clear hin hq
        cases k with
        | zero =>
          have hc0 : w.cell? ⟨b, o, none⟩ = some (.int .i64 x) := by simpa using hc
          go_wp2_with (go_at_call 59; refine (HI.out _).mono ?_; rintro e w' ⟨rfl, rfl⟩)
          go_round
          case rel => exact ⟨1, by omega, by go_num, (show Hid _ from fun j hj => by
            have : j = 0 := by omega
            subst this
            unfold okI
            rw [HXD.out, HQ.out]
            rfl)⟩
          case measure => simp [intOf]; omega
        | succ k =>
          obtain ⟨b2, o2, y, hA, _, hy, hc2⟩ := H.out.int (show k < n by omega)
          injection hA with hA
          injection hA with e1 e2
          subst e1
          subst e2
          have hyd : xs.getD k 0 = y := by simp [List.getD, hy]
          have HYD := Lib.hid hyd
          have hkp : decide ((0 : Int) < ((k + 1 : Nat) : Int)) = true := decide_eq_true (by omega)
          have hk2 : (0 : Int) ≤ (k : Int) := by omega
          have hk3 : (k : Int) < (n : Int) := by omega
          clear hyd hy
          by_cases hxy : y < x
          · have hd : ¬ x ≤ y := by omega
            go_wp2_with (go_at_call 59; refine (HI.out _).mono ?_; rintro e w' ⟨rfl, rfl⟩)
            go_round
            case rel => exact ⟨k + 2, by omega, by go_num, (show Hid _ from fun j hj => by
              by_cases e : j = k + 1
              · subst e
                unfold okI
                rw [HXD.out, HQ.out, Nat.add_sub_cancel, HYD.out]
                simp [hxy]
              · exact HB.out j (by omega))⟩
            case measure => simp [intOf]; omega
          · have hd : x ≤ y := by omega
            go_wp2_with (go_at_call 59; refine (HI.out _).mono ?_; rintro e w' ⟨rfl, rfl⟩)
            go_ret
            refine ⟨ret_b ?_, rfl⟩
            rw [← HR.out]
            refine (incB_not (i := k + 1) (by rw [HL.out]; exact hlt) ?_).symm
            unfold okI
            rw [HXD.out, HQ.out, Nat.add_sub_cancel, HYD.out]
            simp [hxy]
    · have : k = n := by omega
      subst this
      go_wp2
      go_ret
      refine ⟨ret_b ?_, rfl⟩
      rw [← HR.out]
      exact (incB_of (by rw [HL.out]; exact HB.out)).symm

/-- The code of jobs and an order. -/
def codeJ (ps : List (Int × Int)) (os : List Int) : Int := if jobsB ps = false then 1 else if ordB ps.length os = false then 2 else 0
theorem codeJ_ok {ps : List (Int × Int)} {os : List Int} (h : codeJ ps os = 0) : JOk ps ∧ os.Perm (upto ps.length) := by
  unfold codeJ at h
  split at h
  · omega
  · rename_i h1
    split at h
    · omega
    · rename_i h2
      simp only [Bool.not_eq_false] at h1 h2
      exact ⟨jok h1, ordB_true h2⟩
theorem codeJ_bd (ps : List (Int × Int)) (os : List Int) : 0 ≤ codeJ ps os ∧ codeJ ps os ≤ 2 := by
  unfold codeJ
  split
  · omega
  · split <;> omega

set_option maxHeartbeats 2000000 in
theorem l14Code_any (A : Option Addr) (n c : Nat) (ps : List (Int × Int)) (B : Option Addr) (m d : Nat) (os : List Int) (w : World) (h : Rd w 2 A n c (pr ps)) (hB : Rd w 1 B m d (ints os)) :
    Calls Try.prog 75 #[.slice A n c, .slice B m d] w fun e w' => e = .returned (.int .i64 (codeJ ps os)) ∧ Below w.heap.size w w' := by
  have hl := h.plen
  have hcall := fun W h => l14Ok_any A n c ps W h
  unfold codeJ
  cases hz : jobsB ps with
  | false =>
    rw [hz] at hcall
    rw [if_pos rfl]
    have HC := Lib.hid hcall
    have H := Lib.hid h
    clear hcall h hz
    go_enter Try.func75, Try.ntmps75
    go_wp2_with fail
    refine (HC.out _ H.out).mono ?_
    rintro e w1 ⟨rfl, rfl⟩
    go_wp2
    go_ret
    exact ⟨rfl, Below.refl _ _⟩
  | true =>
    rw [hz] at hcall
    rw [if_neg (by simp)]
    have hn7 := (jok hz).len
    have hord := fun W hB => l14Order_any n B m d os W (by omega) hB
    rw [hl]
    generalize ordB n os = r at *
    have HC := Lib.hid hcall
    have HO := Lib.hid hord
    have H := Lib.hid h
    have HB := Lib.hid hB
    clear hcall hord h hB hz hl
    cases r
    all_goals
      go_enter Try.func75, Try.ntmps75
      go_wp2_with fail
      refine (HC.out _ H.out).mono ?_
      rintro e w1 ⟨rfl, rfl⟩
      go_wp2_with fail
      refine (HO.out _ HB.out).mono ?_
      rintro e w1 ⟨rfl, hb⟩
      go_wp2
      go_ret
      exact ⟨rfl, hb⟩

set_option maxHeartbeats 2000000 in
theorem jobsCode_any (A : Option Addr) (n c : Nat) (ps : List (Int × Int)) (B : Option Addr) (m d : Nat) (os : List Int) (w : World) (h : Rd w 2 A n c (pr ps)) (hB : Rd w 1 B m d (ints os)) (hm : m ≤ 1048576) :
    Calls Try.prog 71 #[.slice A n c, .slice B m d] w fun e w' => e = .returned (.int .i64 (codeJ ps os)) ∧ Below w.heap.size w w' := by
  have hl := h.plen
  have hlo := hB.ilen
  have h1 := hB.cap
  have h2 := hB.max
  have hcall := fun W h => implValidJobs_any A n c ps W h
  unfold codeJ
  cases hz : jobsB ps with
  | false =>
    rw [hz] at hcall
    rw [if_pos rfl]
    have HC := Lib.hid hcall
    have H := Lib.hid h
    clear hcall h hz hlo hl
    go_enter Try.func71, Try.ntmps71
    go_wp2_with fail
    refine (HC.out _ H.out).mono ?_
    rintro e w1 ⟨rfl, hb⟩
    go_wp2
    go_ret
    exact ⟨rfl, hb⟩
  | true =>
    rw [hz] at hcall
    rw [if_neg (by simp)]
    have hn7 := (jok hz).len
    have hn7' : n ≤ 7 := by omega
    have hord := ord_sorted (n := n) (os := os) (s := os.mergeSort leZ) (List.mergeSort_perm _ _) (sorted_leZ os)
    rw [hl]
    rw [hlo] at hord
    have hinc := fun W X e h => isIncreasing_any X m e (os.mergeSort leZ) 0 ((n : Int) - 1) W h
    generalize ordB n os = r at *
    generalize hsr : os.mergeSort leZ = so at *
    generalize incB so 0 ((n : Int) - 1) = z at *
    have HC := Lib.hid hcall
    have HO := Lib.hid hord
    have HI := Lib.hid hinc
    have HS := Lib.hid hsr
    have H := Lib.hid h
    have HB := Lib.hid hB
    clear hcall hord h hB hz hl hinc hsr hlo
    by_cases hmn : m = n
    · have hne : ((m : Int) != (n : Int)) = false := by simp [hmn]
      have hr := HO.out
      rw [decide_eq_true hmn, Bool.true_and] at hr
      subst hr
      have HMN := Lib.hid hmn
      clear hmn HO
      cases z
      all_goals
        go_enter Try.func71, Try.ntmps71
        go_wp2_with fail
        refine (HC.out _ H.out).mono ?_
        rintro e w1 ⟨rfl, hb1⟩
        have HB1 := Lib.hid (HB.out.below hb1)
        have Hb1 := Lib.hid hb1
        clear hb1
        go_wp2_with fail
        refine (clone_any _ _ _ os _ HB1.out hm).mono ?_
        rintro e w2 ⟨X, e2, rfl, hown, hb2⟩
        have Hb2 := Lib.hid (Hb1.out.trans (hb2.mono Hb1.out.size))
        have hs := hb2.size
        have HOW := Lib.hid hown
        clear hown hb2
        go_wp2_with fail
        refine (sort_any _ _ _ _ os _ HOW.out hm hs).mono ?_
        rintro e w3 ⟨rfl, hown, hb3⟩
        have Hb3 := Lib.hid (Hb2.out.trans (hb3.mono Hb1.out.size))
        rw [HS.out] at hown
        have HR := Lib.hid (Rd.of_own hown)
        clear hown hb3
        go_wp2_with (go_at_call 90; refine (HI.out _ _ _ HR.out).mono ?_; rintro e w' ⟨rfl, rfl⟩)
        go_ret
        exact ⟨rfl, Hb3.out⟩
    · have hne : ((m : Int) != (n : Int)) = true := by simp; omega
      have hr := HO.out
      rw [decide_eq_false hmn, Bool.false_and] at hr
      subst hr
      clear HO
      go_enter Try.func71, Try.ntmps71
      go_wp2_with fail
      refine (HC.out _ H.out).mono ?_
      rintro e w1 ⟨rfl, hb1⟩
      have HB1 := Lib.hid (HB.out.below hb1)
      have Hb1 := Lib.hid hb1
      clear hb1
      go_wp2_with fail
      refine (clone_any _ _ _ os _ HB1.out hm).mono ?_
      rintro e w2 ⟨X, e2, rfl, hown, hb2⟩
      have Hb2 := Lib.hid (Hb1.out.trans (hb2.mono Hb1.out.size))
      have hs := hb2.size
      have HOW := Lib.hid hown
      clear hown hb2
      go_wp2_with fail
      refine (sort_any _ _ _ _ os _ HOW.out hm hs).mono ?_
      rintro e w3 ⟨rfl, hown, hb3⟩
      have Hb3 := Lib.hid (Hb2.out.trans (hb3.mono Hb1.out.size))
      clear hown hb3
      go_wp2
      go_ret
      exact ⟨rfl, Hb3.out⟩
end Go.Proofs.Ytfjmohnlllbgmaa
