/- The contracts of the laws' own helpers: toInt64S, eqInt64S, markInt64S, heldInt64S; and of within and l00In. -/
import Derived.Test.YtiibhejjeijdaaaDoorCore
import Derived.Deep.QuietTactic
import Derived.BigQuiet
namespace Go.Proofs.YtiibhejjeijdaaaDoor
open Go.RowKit

set_option maxHeartbeats 400000 in
theorem within_any (a b c : Int) (w : World) :
    Calls Tryd.prog 57 #[.int .i64 a, .int .i64 b, .int .i64 c] w fun e w' => e = .returned (.bool (inB a b c)) ∧ w = w' := by
  go_enter Tryd.func57, Tryd.ntmps57
  go_wp2
  all_goals go_ret
  · have h : b ≤ a := by assumption
    exact ⟨by simp [inB, h], rfl⟩
  · have h : a < b := by assumption
    exact ⟨by simp [inB, show ¬ b ≤ a by omega], rfl⟩

set_option maxHeartbeats 400000 in
theorem l00In_any (a b c : Int) (w : World) :
    Calls Tryd.prog 59 #[.int .i64 a, .int .i64 b, .int .i64 c] w fun e w' => e = .returned (.bool (inB a b c)) ∧ w = w' := by
  go_enter Tryd.func59, Tryd.ntmps59
  go_wp2
  all_goals go_ret
  · have h : b ≤ a := by assumption
    exact ⟨by simp [inB, h], rfl⟩
  · have h : a < b := by assumption
    exact ⟨by simp [inB, show ¬ b ≤ a by omega], rfl⟩

theorem info_i64 : (Tryd.prog.info? 2).map (fun i => (i.zero, i.size, i.bytes)) = some (some (.int .i64 0), 1, 8) := by kernel_rfl

theorem set_grow {xs : List Int} {k : Nat} {x : Int} (hx : xs[k]? = some x) (n : Nat) (hn : xs.length = n) :
    (ints (xs.take k ++ List.replicate (n - k) 0)).set k (.int .i64 x) = ints (xs.take (k + 1) ++ List.replicate (n - (k + 1)) 0) := by
  have hk : k < xs.length := (List.getElem?_eq_some_iff.1 hx).1
  apply List.ext_getElem?
  intro j
  rw [List.getElem?_set, ints_get, ints_get]
  rw [ints_len]
  rcases Nat.lt_trichotomy j k with h | h | h
  · rw [if_neg (by omega), List.getElem?_append_left (by simp; omega), List.getElem?_append_left (by simp; omega), List.getElem?_take_of_lt h, List.getElem?_take_of_lt (by omega)]
  · subst h
    rw [if_pos rfl, if_pos (by simp; omega), List.getElem?_append_left (by simp; omega), List.getElem?_take_of_lt (by omega), hx]; rfl
  · rw [if_neg (by omega), List.getElem?_append_right (by simp; omega), List.getElem?_append_right (by simp; omega)]
    simp only [List.length_take, List.getElem?_replicate]
    by_cases hj : j < n
    · rw [if_pos (by omega), if_pos (by omega)]
    · rw [if_neg (by omega), if_neg (by omega)]

theorem get_grow {xs : List Int} {k n : Nat} (hn : xs.length = n) (hk : k < n) : (ints (xs.take k ++ List.replicate (n - k) 0))[k]? = some (.int .i64 0) := by
  rw [ints_get, List.getElem?_append_right (by simp; omega), List.getElem?_replicate, if_pos (by simp; omega)]; rfl

set_option maxHeartbeats 1000000 in
theorem toInt64S_any (A : Option Addr) (n c : Nat) (xs : List Int) (w : World) (h : Rd w 1 A n c (ints xs)) (hn : n ≤ 1048576) :
    Calls Tryd.prog 35 #[.slice A n c] w fun e w' => ∃ g, e = .returned (.slice (some ⟨g, 0, none⟩) n n) ∧ w'.ownsRow w.heap.size 2 1 (.slice (some ⟨g, 0, none⟩) n n) n (ints xs) ∧ Below w.heap.size w w' := by
  obtain ⟨i0, hi, hz0, hz1, hz2⟩ := info_parts info_i64
  have hl := h.ilen
  have H := Lib.hid h
  have HL := Lib.hid hl
  clear h hl
  go_enter Tryd.func35, Tryd.ntmps35
  go_wp2_with (refine wpList_make_full _ rfl (.tmp 6) (.tmp 6) _ rfl w.heap.size 2 i0 (.int .i64 0) 1 Tryd.underlying36 hi hz0 hz1 .i64 .i64 n n n rfl rfl rfl rfl (by rw [hz2]; omega) (by unfold maxLen; omega) (Nat.le_refl _) ?_; intro w1 hown1 hg1)
  have hb1 : Below w.heap.size w w1 := (Below.refl _ _).grown hg1 (Nat.le_refl _) (by simp)
  have hown1' : w1.ownsRow w.heap.size 2 1 (.slice (some ⟨w.heap.size, 0, none⟩) n n) n (ints (xs.take 0 ++ List.replicate (n - 0) 0)) := by
    simpa [ints, toList_madeCells_one, Value.cells] using hown1
  clear hown1 hg1
  go_wp2_with fail
  go_loopw [4] (fun i wr => ∃ k : Nat, k ≤ n ∧ i = .int .i64 k ∧ wr.ownsRow w.heap.size 2 1 (.slice (some ⟨w.heap.size, 0, none⟩) n n) n (ints (xs.take k ++ List.replicate (n - k) 0)) ∧ Below w.heap.size w wr)
    (fun i _ => n - (intOf i).toNat)
  case atStart => exact ⟨0, Nat.zero_le _, rfl, hown1', hb1⟩
  case round =>
    obtain ⟨k, hk, rfl, hown, hb⟩ := hrel
    by_cases hlt : k < n
    · obtain ⟨b, o, x, hA, hbl, hx, hc⟩ := H.out.int hlt
      subst hA
      have hcx : wr.cell? ⟨b, o + k, none⟩ = some (.int .i64 x) := (hb.cell (p := ⟨b, o + k, none⟩) hbl).trans hc
      have hold : wr.cell? ⟨w.heap.size, k, none⟩ = some (.int .i64 0) := by
        rw [hown.cellAt k (by omega)]; exact get_grow HL.out hlt
      have hfr := hown.frozenAt
      have HX := Lib.hid hx
      have S := (hown.stored k (.int .i64 x)).1
      rw [set_grow hx n HL.out] at S
      have HS := Lib.hid S
      have HB : Hid (Below w.heap.size w (wr.setCell ⟨w.heap.size, k, none⟩ (.int .i64 x))) := hb.setCell (Nat.le_refl _) _
      clear hx S hc hown hb
      go_wp2
      go_roundw
      case rel => exact ⟨k + 1, by omega, by go_num, HS.out, HB.out⟩
      case measure => simp [intOf]; omega
    · go_wp2
      go_ret
      have : k = n := by omega
      subst this
      refine ⟨_, rfl, ?_, hb⟩
      have e : xs.take k ++ List.replicate (k - k) 0 = xs := by rw [List.take_of_length_le (by rw [HL.out]; exact Nat.le_refl _)]; simp
      rw [e] at hown
      exact hown

/-- Are two lists equal? As a Bool that no simp opens. -/
def eqL (xs ys : List Int) : Bool := decide (xs = ys)
theorem eqL_self (xs : List Int) : eqL xs xs = true := by simp [eqL]
theorem take_eq_succ {xs ys : List Int} {k : Nat} {x : Int} (h : xs.take k = ys.take k) (hx : xs[k]? = some x) (hy : ys[k]? = some x) : xs.take (k + 1) = ys.take (k + 1) := by
  rw [List.take_add_one, List.take_add_one, h, hx, hy]
theorem ne_of_at {xs ys : List Int} {k : Nat} {x y : Int} (hx : xs[k]? = some x) (hy : ys[k]? = some y) (h : x ≠ y) : eqL xs ys = false := by
  unfold eqL
  rw [decide_eq_false_iff_not]
  intro e
  subst e
  rw [hx] at hy
  injection hy with hy
  exact h hy

set_option maxHeartbeats 1000000 in
theorem eqInt64S_any (A : Option Addr) (n c : Nat) (xs : List Int) (B : Option Addr) (m d : Nat) (ys : List Int) (w : World) (hA : Rd w 1 A n c (ints xs)) (hB : Rd w 1 B m d (ints ys)) :
    Calls Tryd.prog 29 #[.slice A n c, .slice B m d] w fun e w' => e = .returned (.bool (eqL xs ys)) ∧ Below w.heap.size w w' := by
  have hlx := hA.ilen
  have hly := hB.ilen
  have h1 := hA.cap
  have h2 := hA.max
  have h3 := hB.cap
  have h4 := hB.max
  by_cases hnm : n = m
  · subst hnm
    have HA := Lib.hid hA
    have HB := Lib.hid hB
    have HX := Lib.hid hlx
    have HY := Lib.hid hly
    clear hA hB hlx hly
    go_enter Tryd.func29, Tryd.ntmps29
    go_wp2
    go_loopw [5] (fun i wr => ∃ k : Nat, k ≤ n ∧ i = .int .i64 k ∧ xs.take k = ys.take k ∧ Below w.heap.size w wr) (fun i _ => n - (intOf i).toNat)
    case atStart => exact ⟨0, Nat.zero_le _, rfl, rfl, Below.refl _ _⟩
    case round =>
      obtain ⟨k, hk, rfl, hT, hb⟩ := hrel
      have HT := Lib.hid hT
      clear hT
      by_cases hlt : k < n
      · obtain ⟨b, o, x, hA, hbl, hx, hc⟩ := HA.out.int hlt
        obtain ⟨b', o', y, hB, hbl', hy, hc'⟩ := HB.out.int hlt
        subst hA
        subst hB
        have hcx : wr.cell? ⟨b, o + k, none⟩ = some (.int .i64 x) := (hb.cell (p := ⟨b, o + k, none⟩) hbl).trans hc
        have hcy : wr.cell? ⟨b', o' + k, none⟩ = some (.int .i64 y) := (hb.cell (p := ⟨b', o' + k, none⟩) hbl').trans hc'
        have HX' := Lib.hid hx
        have HY' := Lib.hid hy
        have Hb := Lib.hid hb
        clear hx hy hc hc' hb
        have hk0 : (0 : Int) ≤ (k : Int) := by omega
        have hk1 : (k : Int) < (n : Int) := by omega
        by_cases hxy : x = y
        · subst hxy
          go_wp2
          go_quiet (fail)
          go_wp2
          go_roundw
          case rel => exact ⟨k + 1, by omega, by go_num, take_eq_succ HT.out HX'.out HY'.out, below_drewN Hb.out _⟩
          case measure => simp [intOf]; omega
        · have hne : (x != y) = true := by simpa using hxy
          go_wp2
          go_quiet (fail)
          go_wp2
          go_ret
          exact ⟨ret_b (ne_of_at HX'.out HY'.out hxy).symm, below_drewN Hb.out _⟩
      · go_wp2
        go_ret
        refine ⟨ret_b ?_, hb⟩
        have e1 := HX.out
        have e2 := HY.out
        have e3 := HT.out
        rw [List.take_of_length_le (by omega), List.take_of_length_le (by omega)] at e3
        rw [e3, eqL_self]
  · go_enter Tryd.func29, Tryd.ntmps29
    go_wp2
    go_ret
    refine ⟨ret_b ?_, Below.refl _ _⟩
    unfold eqL
    rw [eq_comm, decide_eq_false_iff_not]
    intro e
    rw [e] at hlx
    omega

/-- k, k + 1, .., n of them. -/
def marks (k : Int) (n : Nat) : List Int := (List.range n).map fun i : Nat => k + (i : Int)
theorem marks_len (k : Int) (n : Nat) : (marks k n).length = n := by simp [marks]
theorem marks_get (k : Int) (n j : Nat) (h : j < n) : (marks k n)[j]? = some (k + (j : Int)) := by simp [marks, h]
theorem mark_set (k : Int) (xs : List Int) (j : Nat) (hj : j < xs.length) : (ints (marks k j ++ xs.drop j)).set j (.int .i64 (k + j)) = ints (marks k (j + 1) ++ xs.drop (j + 1)) := by
  apply List.ext_getElem?
  intro i
  rw [List.getElem?_set, ints_get, ints_get, ints_len]
  have hlen : (marks k j ++ xs.drop j).length = xs.length := by simp [marks_len]; omega
  rw [hlen]
  rcases Nat.lt_trichotomy i j with h | h | h
  · rw [if_neg (by omega), List.getElem?_append_left (by rw [marks_len]; exact h), List.getElem?_append_left (by rw [marks_len]; omega), marks_get _ _ _ h, marks_get _ _ _ (by omega)]
  · subst h
    rw [if_pos rfl, if_pos hj, List.getElem?_append_left (by rw [marks_len]; omega), marks_get _ _ _ (by omega)]; rfl
  · rw [if_neg (by omega), List.getElem?_append_right (by rw [marks_len]; omega), List.getElem?_append_right (by rw [marks_len]; omega), marks_len, marks_len, List.getElem?_drop, List.getElem?_drop]
    congr 2
    omega

set_option maxHeartbeats 1000000 in
theorem markInt64S_any (base : Nat) (A : Option Addr) (n c : Nat) (xs : List Int) (k0 : Int) (w : World) (h : w.ownsRow base 2 1 (.slice A n c) n (ints xs)) (hk0 : 0 ≤ k0) (hkn : k0 + n ≤ 4611686018427387904) :
    Calls Tryd.prog 30 #[.slice A n c, .int .i64 k0] w fun e w' => e = .returned (.int .i64 (k0 + n)) ∧ w'.ownsRow base 2 1 (.slice A n c) n (ints (marks k0 n)) ∧ w.grownBy w' (Value.slice A n c).ownBlock := by
  have hl : xs.length = n := by have := h.1; rw [ints_len] at this; omega
  have H := Lib.hid h
  have HL := Lib.hid hl
  clear h hl
  go_enter Tryd.func30, Tryd.ntmps30
  go_wp2
  go_loopw [1, 5] (fun kk i wr => ∃ j : Nat, j ≤ n ∧ i = .int .i64 j ∧ kk = .int .i64 (k0 + j) ∧ wr.ownsRow base 2 1 (.slice A n c) n (ints (marks k0 j ++ xs.drop j)) ∧ w.grownBy wr (Value.slice A n c).ownBlock)
    (fun _ i _ => n - (intOf i).toNat)
  case atStart => exact ⟨0, Nat.zero_le _, rfl, by simp, by simpa [marks] using H.out, World.grownBy.refl _ _⟩
  case round =>
    obtain ⟨j, hj, rfl, rfl, hown, hg⟩ := hrel
    by_cases hlt : j < n
    · obtain ⟨g, hA, hbg, hgl⟩ := own_at hown (by omega)
      subst hA
      have hold : ∃ v, wr.cell? ⟨g, j, none⟩ = some v := by
        rw [hown.cellAt j (by omega)]
        have hjl : j < (ints (marks k0 j ++ xs.drop j)).length := by rw [hown.1]; omega
        exact ⟨_, List.getElem?_eq_getElem hjl⟩
      obtain ⟨v, hv⟩ := hold
      have hfr := hown.frozenAt
      have S := hown.stored j (.int .i64 (k0 + j))
      rw [mark_set k0 xs j (by rw [HL.out]; exact hlt)] at S
      have HS := Lib.hid S.1
      have HG : Hid (w.grownBy (wr.setCell ⟨g, j, none⟩ (.int .i64 (k0 + j))) (Value.slice (some ⟨g, 0, none⟩) n c).ownBlock) := World.grownBy.trans hg S.2
      clear S hown hg
      go_wp2
      go_roundw
      case rel => exact ⟨j + 1, by omega, by go_num, by go_num, HS.out, HG.out⟩
      case measure => simp [intOf]; omega
    · go_wp2
      go_ret
      have : j = n := by omega
      subst this
      refine ⟨rfl, ?_, hg⟩
      have e : marks k0 j ++ xs.drop j = marks k0 j := by rw [List.drop_of_length_le (by rw [HL.out]; exact Nat.le_refl _), List.append_nil]
      rw [e] at hown
      exact hown

set_option maxHeartbeats 1000000 in
theorem heldInt64S_any (A : Option Addr) (n c : Nat) (k0 : Int) (w : World) (h : Rd w 1 A n c (ints (marks k0 n))) (hk0 : 0 ≤ k0) (hkn : k0 + n ≤ 4611686018427387904) :
    Calls Tryd.prog 31 #[.slice A n c, .int .i64 k0] w fun e w' => e = .returned (.int .i64 (k0 + n)) ∧ w = w' := by
  have H := Lib.hid h
  clear h
  go_enter Tryd.func31, Tryd.ntmps31
  go_wp2
  go_loop [1, 5] (fun kk i => ∃ j : Nat, j ≤ n ∧ i = .int .i64 j ∧ kk = .int .i64 (k0 + j)) (fun _ i => n - (intOf i).toNat)
  case atStart => exact ⟨0, Nat.zero_le _, rfl, by simp⟩
  case round =>
    obtain ⟨j, hj, rfl, rfl⟩ := hrel
    by_cases hlt : j < n
    · obtain ⟨b, o, x, hA, hbl, hx, hc⟩ := H.out.int hlt
      rw [marks_get _ _ _ hlt] at hx
      injection hx with hx
      subst hx
      subst hA
      go_wp2
      go_round
      case rel => exact ⟨j + 1, by omega, by go_num, by go_num⟩
      case measure => simp [intOf]; omega
    · go_wp2
      go_ret
      have : j = n := by omega
      subst this
      exact ⟨rfl, rfl⟩
end Go.Proofs.YtiibhejjeijdaaaDoor
