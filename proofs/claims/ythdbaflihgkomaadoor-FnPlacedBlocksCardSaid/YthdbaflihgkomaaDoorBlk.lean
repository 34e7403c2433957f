/- SameBlocks (program and reference), and its law. Printed by mkblk.py. -/
import Derived.Test.YthdbaflihgkomaaDoorMa
import Derived.Laws.StructEq
namespace Go.Proofs.YthdbaflihgkomaaDoor
open Go.RowKit

set_option maxRecDepth 100000 in
set_option maxHeartbeats 2000000 in
theorem specSameBlocks_any (A : Option Addr) (n c : Nat) (ps : List (Int × Int)) (B : Option Addr) (m d : Nat) (qs : List (Int × Int)) (w : World) (hA : Rd w 2 A n c (pr ps)) (hB : Rd w 2 B m d (pr qs)) :
    Calls Tryd.prog 24 #[.slice A n c, .slice B m d] w fun e w' => e = .returned (.bool (eqG ps qs)) ∧ Below w.heap.size w w' := by
  have hlx := hA.plen
  have hly := hB.plen
  have h1 := hA.cap
  have h2 := hA.max
  have h3 := hB.cap
  have h4 := hB.max
  by_cases hnm : n = m
  · subst hnm
    have HA := Lib.hid hA
    have HB := Lib.hid hB
    have HX := Lib.hid hlx
    have HY := Lib.hid hly
    clear hA hB hlx hly
    go_enter Tryd.func24, Tryd.ntmps24
    go_wp2
    go_loopw [5] (fun i wr => ∃ k : Nat, k ≤ n ∧ i = .int .i64 k ∧ ps.take k = qs.take k ∧ Below w.heap.size w wr) (fun i _ => n - (intOf i).toNat)
    case atStart => exact ⟨0, Nat.zero_le _, rfl, rfl, Below.refl _ _⟩
    case round =>
      obtain ⟨k, hk, rfl, hT, hb⟩ := hrel
      have HT := Lib.hid hT
      clear hT
      by_cases hlt : k < n
      · obtain ⟨b, o, x, y, hA, hbl, hx, hc1, hc2⟩ := (HA.out.below hb).pair hlt
        obtain ⟨b', o', x', y', hB, hbl', hx', hd1, hd2⟩ := (HB.out.below hb).pair hlt
        subst hA
        subst hB
        have HX' := Lib.hid hx
        have HY' := Lib.hid hx'
        have Hb := Lib.hid hb
        clear hx hx' hb
        have hk0 : (0 : Int) ≤ (k : Int) := by omega
        have hk1 : (k : Int) < (n : Int) := by omega
        by_cases e1 : x = x'
        · subst e1
          by_cases e2 : y = y'
          · subst e2
            go_wp2
            go_quiet (fail)
            go_wp2
            go_roundw
            case rel => exact ⟨k + 1, by omega, by go_num, takeG_succ HT.out HX'.out HY'.out, below_drewN Hb.out _⟩
            case measure => simp [intOf]; omega
          · have hne : (y == y') = false := by simpa using e2
            go_wp2
            go_quiet (fail)
            go_wp2
            go_ret
            exact ⟨ret_b (neG_at HX'.out HY'.out (by simpa using e2)).symm, below_drewN Hb.out _⟩
        · have hne : (x == x') = false := by simpa using e1
          go_wp2
          go_quiet (fail)
          go_wp2
          go_ret
          exact ⟨ret_b (neG_at HX'.out HY'.out (by simp [e1])).symm, below_drewN Hb.out _⟩
      · go_wp2
        go_ret
        have : k = n := by omega
        subst this
        exact ⟨ret_b (eqG_end HT.out HX.out HY.out).symm, hb⟩
  · go_enter Tryd.func24, Tryd.ntmps24
    go_wp2
    go_ret
    exact ⟨ret_b (neG_len (by omega)).symm, Below.refl _ _⟩

set_option maxRecDepth 100000 in
set_option maxHeartbeats 2000000 in
theorem slEqBlk_any (A : Option Addr) (n c : Nat) (ps : List (Int × Int)) (B : Option Addr) (m d : Nat) (qs : List (Int × Int)) (w : World) (hA : Rd w 2 A n c (pr ps)) (hB : Rd w 2 B m d (pr qs)) :
    Calls Tryd.prog 53 #[.slice A n c, .slice B m d] w fun e w' => e = .returned (.bool (eqG ps qs)) ∧ Below w.heap.size w w' := by
  have hlx := hA.plen
  have hly := hB.plen
  have h1 := hA.cap
  have h2 := hA.max
  have h3 := hB.cap
  have h4 := hB.max
  by_cases hnm : n = m
  · subst hnm
    have HA := Lib.hid hA
    have HB := Lib.hid hB
    have HX := Lib.hid hlx
    have HY := Lib.hid hly
    clear hA hB hlx hly
    go_enter Tryd.func53, Tryd.ntmps53
    go_wp2
    go_loopw [13] (fun i wr => ∃ k : Nat, k ≤ n ∧ i = .int .i64 k ∧ ps.take k = qs.take k ∧ Below w.heap.size w wr) (fun i _ => n - (intOf i).toNat)
    case atStart => exact ⟨0, Nat.zero_le _, rfl, rfl, Below.refl _ _⟩
    case round =>
      obtain ⟨k, hk, rfl, hT, hb⟩ := hrel
      have HT := Lib.hid hT
      clear hT
      by_cases hlt : k < n
      · obtain ⟨b, o, x, y, hA, hbl, hx, hc1, hc2⟩ := (HA.out.below hb).pair hlt
        obtain ⟨b', o', x', y', hB, hbl', hx', hd1, hd2⟩ := (HB.out.below hb).pair hlt
        subst hA
        subst hB
        have HX' := Lib.hid hx
        have HY' := Lib.hid hx'
        have Hb := Lib.hid hb
        clear hx hx' hb
        have hk0 : (0 : Int) ≤ (k : Int) := by omega
        have hk1 : (k : Int) < (n : Int) := by omega
        by_cases e1 : x = x'
        · subst e1
          by_cases e2 : y = y'
          · subst e2
            go_wp2
            go_quiet (fail)
            go_wp2
            go_roundw
            case rel => exact ⟨k + 1, by omega, by go_num, takeG_succ HT.out HX'.out HY'.out, below_drewN Hb.out _⟩
            case measure => simp [intOf]; omega
          · have hne : (y == y') = false := by simpa using e2
            go_wp2
            go_quiet (fail)
            go_wp2
            go_ret
            exact ⟨ret_b (neG_at HX'.out HY'.out (by simpa using e2)).symm, below_drewN Hb.out _⟩
        · have hne : (x == x') = false := by simpa using e1
          go_wp2
          go_quiet (fail)
          go_wp2
          go_ret
          exact ⟨ret_b (neG_at HX'.out HY'.out (by simp [e1])).symm, below_drewN Hb.out _⟩
      · go_wp2
        go_ret
        have : k = n := by omega
        subst this
        exact ⟨ret_b (eqG_end HT.out HX.out HY.out).symm, hb⟩
  · go_enter Tryd.func53, Tryd.ntmps53
    go_wp2
    go_ret
    exact ⟨ret_b (neG_len (by omega)).symm, Below.refl _ _⟩

set_option maxHeartbeats 400000 in
theorem implSameBlocks_any (A : Option Addr) (n c : Nat) (ps : List (Int × Int)) (B : Option Addr) (m d : Nat) (qs : List (Int × Int)) (w : World) (hA : Rd w 2 A n c (pr ps)) (hB : Rd w 2 B m d (pr qs)) :
    Calls Tryd.prog 25 #[.slice A n c, .slice B m d] w fun e w' => e = .returned (.bool (eqG ps qs)) ∧ Below w.heap.size w w' := by
  have HA := Lib.hid hA
  have HB := Lib.hid hB
  clear hA hB
  go_enter Tryd.func25, Tryd.ntmps25
  go_wp2_with fail
  refine (slEqBlk_any _ _ _ _ _ _ _ _ _ HA.out HB.out).mono ?_
  rintro e w' ⟨rfl, hb⟩
  go_wp2_with fail
  go_ret
  exact ⟨rfl, hb⟩

end Go.Proofs.YthdbaflihgkomaaDoor
