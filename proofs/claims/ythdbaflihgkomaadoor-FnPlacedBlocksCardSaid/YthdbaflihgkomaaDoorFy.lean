/- The laws' helpers f6big, f6ints, f6lists (for the seat of the blocks). -/
import Derived.Test.YthdbaflihgkomaaDoorSsR
import Derived.Test.YthdbaflihgkomaaDoorSrc
import Derived.BigQuiet
namespace Go.Proofs.YthdbaflihgkomaaDoor
open Go.RowKit

set_option maxHeartbeats 400000 in
theorem f6big_any (A : Option Addr) (n c : Nat) (w : World) (hn : n ≤ 9223372036854775807) :
    Calls Tryd.prog 10 #[.slice A n c] w fun e w' => e = .returned (.bool (decide (4096 < n))) ∧ w = w' := by
  by_cases h : 4096 < n
  · have h1 : (4096 : Int) < (n : Int) := by omega
    go_enter Tryd.func10, Tryd.ntmps10
    go_wp2
    go_ret
    exact ⟨ret_b (decide_eq_true h).symm, rfl⟩
  · have h1 : ¬ (4096 : Int) < (n : Int) := by omega
    go_enter Tryd.func10, Tryd.ntmps10
    go_wp2
    go_ret
    exact ⟨by first | exact ret_b (by simp) | exact ret_b (decide_eq_false h).symm, rfl⟩
set_option maxRecDepth 100000 in
set_option maxHeartbeats 1000000 in
theorem f6ints_any (A : Option Addr) (n c : Nat) (xs : List Int) (B : Option Addr) (m d : Nat) (ys : List Int) (w : World) (hA : Rd w 1 A n c (ints xs)) (hB : Rd w 1 B m d (ints ys)) :
    Calls Tryd.prog 52 #[.slice A n c, .slice B m d] w fun e w' => e = .returned (.bool (eqL xs ys)) ∧ ∃ q, w' = w.drewN q := by
  have hlx := hA.ilen
  have hly := hB.ilen
  have h1 := hA.cap
  have h2 := hA.max
  have h3 := hB.cap
  have h4 := hB.max
  by_cases hnm : n = m
  · subst hnm
    have HA := Lib.hid hA
    have HB := Lib.hid hB
    have HX := Lib.hid hlx
    have HY := Lib.hid hly
    clear hA hB hlx hly
    go_enter Tryd.func52, Tryd.ntmps52
    go_wp2
    go_loopw [5] (fun i wr => ∃ k : Nat, k ≤ n ∧ i = .int .i64 k ∧ Hid (xs.take k = ys.take k) ∧ ∃ q, wr = w.drewN q) (fun i _ => n - (intOf i).toNat)
    case atStart => exact ⟨0, Nat.zero_le _, rfl, (show Hid _ from rfl), 0, rfl⟩
    case round =>
      obtain ⟨k, hk, rfl, HT, q0, hq0⟩ := hrel
      have hb : Below w.heap.size w wr := by rw [hq0]; exact below_drewN (Below.refl _ _) _
      have HQ := Lib.hid hq0
      by_cases hlt : k < n
      · obtain ⟨b, o, x, hA, hbl, hx, hc⟩ := HA.out.int hlt
        obtain ⟨b', o', y, hB, hbl', hy, hc'⟩ := HB.out.int hlt
        subst hA
        subst hB
        have hcx := cell_bel hc hb
        have hcy := cell_bel hc' hb
        have HX' := Lib.hid hx
        have HY' := Lib.hid hy
        clear hx hy hc hc' hb hq0
        have hk0 : (0 : Int) ≤ (k : Int) := by omega
        have hk1 : (k : Int) < (n : Int) := by omega
        by_cases hxy : x = y
        · subst hxy
          go_wp2
          go_quiet (fail)
          go_wp2
          go_roundw
          case rel => exact ⟨k + 1, by omega, by go_num, Lib.hid (take_eq_succ HT.out HX'.out HY'.out), q0 + nq, by rw [HQ.out]; simp⟩
          case measure => simp [intOf]; omega
        · have hne : (x != y) = true := by simpa using hxy
          go_wp2
          go_quiet (fail)
          go_wp2
          go_ret
          exact ⟨ret_b (ne_of_at HX'.out HY'.out hxy).symm, q0 + nq, by rw [HQ.out]; simp⟩
      · clear hb hq0
        go_wp2
        go_ret
        refine ⟨ret_b ?_, q0, HQ.out⟩
        have e1 := HX.out
        have e2 := HY.out
        have e3 := HT.out
        rw [List.take_of_length_le (by omega), List.take_of_length_le (by omega)] at e3
        rw [e3, eqL_self]
  · go_enter Tryd.func52, Tryd.ntmps52
    go_wp2
    go_ret
    refine ⟨ret_b ?_, 0, rfl⟩
    unfold eqL
    rw [eq_comm, decide_eq_false_iff_not]
    intro e
    rw [e] at hlx
    omega

theorem f6ints_bel (A : Option Addr) (n c : Nat) (xs : List Int) (B : Option Addr) (m d : Nat) (w : World) (hA : Rd w 1 A n c (ints xs)) (hB : Rd w 1 B m d (ints xs)) :
    Calls Tryd.prog 52 #[.slice A n c, .slice B m d] w fun e w' => e = .returned (.bool true) ∧ Below w.heap.size w w' :=
  (f6ints_any A n c xs B m d xs w hA hB).mono fun e w' h => by
    obtain ⟨h1, q, h2⟩ := h
    rw [eqL_self] at h1
    exact ⟨h1, by rw [h2]; exact below_drewN (Below.refl _ _) q⟩
set_option maxRecDepth 100000 in
set_option maxHeartbeats 2000000 in
theorem f6lists_self (A : Option Addr) (n c : Nat) (B : Option Addr) (n' d : Nat) (L : List (List Int)) (w : World) (hA : RdL w A n c L) (hB : RdL w B n' d L) :
    Calls Tryd.prog 23 #[.slice A n c, .slice B n' d] w fun e w' => e = .returned (.bool true) ∧ Below w.heap.size w w' := by
  have h1 := hA.cap
  have h2 := hA.max
  have h3 := hB.cap
  have h4 := hB.max
  obtain rfl : n = n' := by rw [← hA.len, hB.len]
  have HA := Lib.hid hA
  have HB := Lib.hid hB
  clear hA hB
  go_enter Tryd.func23, Tryd.ntmps23
  go_wp2
  go_loopw [5] (fun i wr => ∃ k : Nat, k ≤ n ∧ i = .int .i64 k ∧ Below w.heap.size w wr) (fun i _ => n - (intOf i).toNat)
  case atStart => exact ⟨0, Nat.zero_le _, rfl, Below.refl _ _⟩
  case round =>
    obtain ⟨k, hk, rfl, hb⟩ := hrel
    by_cases hlt : k < n
    · obtain ⟨xs, b, o, C, m, e, hp, hA, hbl, hc0, hr⟩ := (HA.out.below hb).row hlt
      obtain ⟨ys, b', o', D, m', e', hp', hB, hbl', hd0, hr'⟩ := (HB.out.below hb).row hlt
      rw [hp] at hp'
      injection hp' with hp'
      subst hp'
      subst hA
      subst hB
      have hcall := fun W hb => f6ints_bel C m e xs D m' e' W (hr.below hb) (hr'.below hb)
      have HC := Lib.hid hcall
      have Hb := Lib.hid hb
      clear hr hr' hb hp hcall
      have hk0 : (0 : Int) ≤ (k : Int) := by omega
      have hk1 : (k : Int) < (n : Int) := by omega
      go_wp2
      go_region_held3 (fun w' => w'.cell? ⟨b, o + k, none⟩ = some (.slice C m e) ∧ w'.cell? ⟨b', o' + k, none⟩ = some (.slice D m' e') ∧ Below wr.heap.size wr w')
        (first | exact ⟨hc0, hd0, (Below.refl _ _).drew⟩ | exact ⟨cell_bel (‹_ ∧ _ ∧ Below wr.heap.size wr _›).1 hb, cell_bel (‹_ ∧ _ ∧ Below wr.heap.size wr _›).2.1 hb, (‹_ ∧ _ ∧ Below wr.heap.size wr _›).2.2.trans (hb.mono (‹_ ∧ _ ∧ Below wr.heap.size wr _›).2.2.size)⟩ | go_keep)
        (first | (go_at_call 52; refine (HC.out _ (‹_ ∧ _ ∧ Below wr.heap.size wr _›).2.2).mono ?_; rintro e w' ⟨rfl, hb⟩))
      have hbb : Below wr.heap.size wr w' := (‹_ ∧ _ ∧ Below wr.heap.size wr w'›).2.2
      have b3 := Hb.out.trans (hbb.mono Hb.out.size)
      go_wp2
      go_roundw
      case rel => exact ⟨k + 1, by omega, by go_num, b3⟩
      case measure => simp [intOf]; omega
    · go_wp2
      go_ret
      exact ⟨rfl, hb⟩

end Go.Proofs.YthdbaflihgkomaaDoor
