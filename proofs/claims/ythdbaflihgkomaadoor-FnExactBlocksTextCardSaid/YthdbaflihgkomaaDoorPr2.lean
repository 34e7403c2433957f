/- eqBlock, eqBlockS: two lists of pairs are equal. -/
import Derived.Test.YthdbaflihgkomaaDoorPr
import Derived.Deep.RegionHeld3

namespace Go.Proofs.YthdbaflihgkomaaDoor
open Go.RowKit

/-- Are two lists equal? As a Bool that no simp opens. -/
def eqG (ps qs : List (Int × Int)) : Bool := decide (ps = qs)
theorem eqG_self (ps : List (Int × Int)) : eqG ps ps = true := by simp [eqG]
theorem takeG_succ {α : Type} {xs ys : List α} {k : Nat} {x : α} (h : xs.take k = ys.take k) (hx : xs[k]? = some x) (hy : ys[k]? = some x) : xs.take (k + 1) = ys.take (k + 1) := by
  rw [List.take_add_one, List.take_add_one, h, hx, hy]
theorem neG_at {ps qs : List (Int × Int)} {k : Nat} {x y : Int × Int} (hx : ps[k]? = some x) (hy : qs[k]? = some y) (h : x ≠ y) : eqG ps qs = false := by
  unfold eqG
  rw [decide_eq_false_iff_not]
  intro e
  subst e
  rw [hx] at hy
  injection hy with hy
  exact h hy
theorem neG_len {ps qs : List (Int × Int)} (h : ps.length ≠ qs.length) : eqG ps qs = false := by
  unfold eqG
  rw [decide_eq_false_iff_not]
  intro e
  exact h (by rw [e])
theorem eqG_end {ps qs : List (Int × Int)} {n : Nat} (h : ps.take n = qs.take n) (h1 : ps.length = n) (h2 : qs.length = n) : eqG ps qs = true := by
  rw [List.take_of_length_le (by omega), List.take_of_length_le (by omega)] at h
  rw [h, eqG_self]
def eqP (a b c d : Int) : Bool := decide (a = c) && decide (b = d)
theorem eqP_self (a b : Int) : eqP a b a b = true := by simp [eqP]
theorem eqP_no {a b c d : Int} (h : eqP a b c d = false) : (a, b) ≠ (c, d) := by
  intro e
  injection e with h1 h2
  subst h1
  subst h2
  rw [eqP_self] at h
  cases h
theorem eqP_yes {a b c d : Int} (h : eqP a b c d = true) : a = c ∧ b = d := by simpa [eqP] using h

set_option maxHeartbeats 400000 in
theorem eqPr_any (a b c d : Int) (w : World) :
    Calls Tryd.prog 33 #[.agg #[.int .i64 a, .int .i64 b], .agg #[.int .i64 c, .int .i64 d]] w fun e w' => e = .returned (.bool (eqP a b c d)) ∧ Below w.heap.size w w' := by
  by_cases h1 : a = c
  · subst h1
    by_cases h2 : b = d
    · subst h2
      go_enter Tryd.func33, Tryd.ntmps33
      go_wp2
      go_ret
      exact ⟨ret_b (eqP_self _ _).symm, (by go_grown)⟩
    · have h2' : (b != d) = true := by simpa using h2
      go_enter Tryd.func33, Tryd.ntmps33
      go_wp2
      go_ret
      exact ⟨ret_b (by simp [eqP, h2]), (by go_grown)⟩
  · have h1' : (a != c) = true := by simpa using h1
    go_enter Tryd.func33, Tryd.ntmps33
    go_wp2
    go_ret
    exact ⟨ret_b (by simp [eqP, h1]), (by go_grown)⟩

theorem keepP {V W w' : World} {b o b' o' : Nat} {v0 v1 v2 v3 : Value} (e : W.cell? ⟨b, o, none⟩ = some v0 ∧ W.cell? ⟨b, o + 1, none⟩ = some v1 ∧ W.cell? ⟨b', o', none⟩ = some v2 ∧ W.cell? ⟨b', o' + 1, none⟩ = some v3 ∧ Below V.heap.size V W) (hb : Below W.heap.size W w') :
    w'.cell? ⟨b, o, none⟩ = some v0 ∧ w'.cell? ⟨b, o + 1, none⟩ = some v1 ∧ w'.cell? ⟨b', o', none⟩ = some v2 ∧ w'.cell? ⟨b', o' + 1, none⟩ = some v3 ∧ Below V.heap.size V w' := by
  obtain ⟨e0, e1, e2, e3, eb⟩ := e
  exact ⟨(hb.cell (p := ⟨b, o, none⟩) (World.block_lt_of_cell? _ _ e0)).trans e0, (hb.cell (p := ⟨b, o + 1, none⟩) (World.block_lt_of_cell? _ _ e1)).trans e1,
    (hb.cell (p := ⟨b', o', none⟩) (World.block_lt_of_cell? _ _ e2)).trans e2, (hb.cell (p := ⟨b', o' + 1, none⟩) (World.block_lt_of_cell? _ _ e3)).trans e3, eb.trans (hb.mono eb.size)⟩

set_option maxRecDepth 100000 in
set_option maxHeartbeats 2000000 in
theorem eqPrS_any (A : Option Addr) (n c : Nat) (ps : List (Int × Int)) (B : Option Addr) (m d : Nat) (qs : List (Int × Int)) (w : World) (hA : Rd w 2 A n c (pr ps)) (hB : Rd w 2 B m d (pr qs)) :
    Calls Tryd.prog 9 #[.slice A n c, .slice B m d] w fun e w' => e = .returned (.bool (eqG ps qs)) ∧ Below w.heap.size w w' := by
  have hlx := hA.plen
  have hly := hB.plen
  have h1 := hA.cap
  have h2 := hA.max
  have h3 := hB.cap
  have h4 := hB.max
  by_cases hnm : n = m
  · subst hnm
    have HA := Lib.hid hA
    have HB := Lib.hid hB
    have HX := Lib.hid hlx
    have HY := Lib.hid hly
    clear hA hB hlx hly
    go_enter Tryd.func9, Tryd.ntmps9
    go_wp2
    go_loopw [5] (fun i wr => ∃ k : Nat, k ≤ n ∧ i = .int .i64 k ∧ ps.take k = qs.take k ∧ Below w.heap.size w wr) (fun i _ => n - (intOf i).toNat)
    case atStart => exact ⟨0, Nat.zero_le _, rfl, rfl, Below.refl _ _⟩
    case round =>
      obtain ⟨k, hk, rfl, hT, hb⟩ := hrel
      have HT := Lib.hid hT
      clear hT
      by_cases hlt : k < n
      · obtain ⟨b, o, x, y, hA, hbl, hx, hc1, hc2⟩ := (HA.out.below hb).pair hlt
        obtain ⟨b', o', x', y', hB, hbl', hx', hd1, hd2⟩ := (HB.out.below hb).pair hlt
        subst hA
        subst hB
        have HX' := Lib.hid hx
        have HY' := Lib.hid hx'
        have Hb := Lib.hid hb
        clear hx hx' hb
        have hk0 : (0 : Int) ≤ (k : Int) := by omega
        have hk1 : (k : Int) < (n : Int) := by omega
        cases hxy : eqP x y x' y' with
        | true =>
          obtain ⟨rfl, rfl⟩ := eqP_yes hxy
          go_wp2
          go_region_held3 (fun w' => w'.cell? ⟨b, o + k * 2, none⟩ = some (.int .i64 x) ∧ w'.cell? ⟨b, o + k * 2 + 1, none⟩ = some (.int .i64 y) ∧ w'.cell? ⟨b', o' + k * 2, none⟩ = some (.int .i64 x) ∧ w'.cell? ⟨b', o' + k * 2 + 1, none⟩ = some (.int .i64 y) ∧ Below wr.heap.size wr w')
            (first | exact ⟨hc1, hc2, hd1, hd2, (Below.refl _ _).drew⟩ | exact keepP (by assumption) hb | go_keep)
            (first | (go_at_call 33; refine (eqPr_any _ _ _ _ _).mono ?_; rw [hxy]; rintro e w' ⟨rfl, hb⟩))
          have hbb : Below wr.heap.size wr w' := (‹_ ∧ _ ∧ _ ∧ _ ∧ Below wr.heap.size wr w'›).2.2.2.2
          have b3 := Hb.out.trans (hbb.mono Hb.out.size)
          go_wp2
          go_roundw
          case rel => exact ⟨k + 1, by omega, by go_num, takeG_succ HT.out HX'.out HY'.out, b3⟩
          case measure => simp [intOf]; omega
        | false =>
          go_wp2
          go_region_held3 (fun w' => w'.cell? ⟨b, o + k * 2, none⟩ = some (.int .i64 x) ∧ w'.cell? ⟨b, o + k * 2 + 1, none⟩ = some (.int .i64 y) ∧ w'.cell? ⟨b', o' + k * 2, none⟩ = some (.int .i64 x') ∧ w'.cell? ⟨b', o' + k * 2 + 1, none⟩ = some (.int .i64 y') ∧ Below wr.heap.size wr w')
            (first | exact ⟨hc1, hc2, hd1, hd2, (Below.refl _ _).drew⟩ | exact keepP (by assumption) hb | go_keep)
            (first | (go_at_call 33; refine (eqPr_any _ _ _ _ _).mono ?_; rw [hxy]; rintro e w' ⟨rfl, hb⟩))
          have hbb : Below wr.heap.size wr w' := (‹_ ∧ _ ∧ _ ∧ _ ∧ Below wr.heap.size wr w'›).2.2.2.2
          have b3 := Hb.out.trans (hbb.mono Hb.out.size)
          go_wp2
          go_ret
          exact ⟨ret_b (neG_at HX'.out HY'.out (eqP_no hxy)).symm, b3⟩
      · go_wp2
        go_ret
        have : k = n := by omega
        subst this
        exact ⟨ret_b (eqG_end HT.out HX.out HY.out).symm, hb⟩
  · go_enter Tryd.func9, Tryd.ntmps9
    go_wp2
    go_ret
    exact ⟨ret_b (neG_len (by omega)).symm, Below.refl _ _⟩
end Go.Proofs.YthdbaflihgkomaaDoor
