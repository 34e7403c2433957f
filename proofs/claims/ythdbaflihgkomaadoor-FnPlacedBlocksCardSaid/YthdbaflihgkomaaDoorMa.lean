/- Several texts in one: Ma. -/
import Derived.Test.YthdbaflihgkomaaDoorLaw
import Derived.Test.YthdbaflihgkomaaDoorSl
import Derived.Deep.RegionHeld3
/- Several texts in one: Pr, PrF, Pr2, Pr3. -/
/- Slices of a struct of two int64 (Block): words, and the laws' own helpers. -/
namespace Go.Proofs.YthdbaflihgkomaaDoor
open Go.RowKit

/-- A list of pairs as cells. -/
def pr (ps : List (Int × Int)) : List Value := ps.flatMap fun p => [.int .i64 p.1, .int .i64 p.2]
theorem pr_nil : pr [] = [] := rfl
theorem pr_cons (p : Int × Int) (ps : List (Int × Int)) : pr (p :: ps) = .int .i64 p.1 :: .int .i64 p.2 :: pr ps := rfl
theorem pr_append (ps qs : List (Int × Int)) : pr (ps ++ qs) = pr ps ++ pr qs := by simp [pr]
theorem pr_len : ∀ ps : List (Int × Int), (pr ps).length = ps.length * 2
  | [] => rfl
  | p :: ps => by rw [pr_cons]; simp [pr_len ps]; omega
theorem pr_get : ∀ (ps : List (Int × Int)) (k : Nat), (pr ps)[k * 2]? = (ps[k]?).map (fun p => .int .i64 p.1) ∧ (pr ps)[k * 2 + 1]? = (ps[k]?).map (fun p => .int .i64 p.2)
  | [], k => by simp [pr_nil]
  | p :: ps, 0 => by simp [pr_cons]
  | p :: ps, k + 1 => by
    rw [pr_cons, show (k + 1) * 2 = k * 2 + 1 + 1 by omega]
    simpa using pr_get ps k
theorem pr_set : ∀ (ps : List (Int × Int)) (k : Nat) (x y : Int), ((pr ps).set (k * 2) (.int .i64 x)).set (k * 2 + 1) (.int .i64 y) = pr (ps.set k (x, y))
  | [], k, x, y => by simp [pr_nil]
  | p :: ps, 0, x, y => by simp [pr_cons]
  | p :: ps, k + 1, x, y => by
    rw [pr_cons, show (k + 1) * 2 = k * 2 + 1 + 1 by omega]
    simp only [List.set_cons_succ, pr_cons]
    rw [← pr_set ps k x y]
theorem pr_one (ps : List (Int × Int)) : ∀ u ∈ pr ps, u.oneCell' = true := by
  intro u hu
  simp only [pr, List.mem_flatMap, List.mem_cons, List.not_mem_nil, or_false] at hu
  obtain ⟨p, _, rfl | rfl⟩ := hu <;> rfl
theorem pr_inj : ∀ ps qs : List (Int × Int), pr ps = pr qs → ps = qs
  | [], [], _ => rfl
  | [], q :: qs, h => by simp [pr_nil, pr_cons] at h
  | p :: ps, [], h => by simp [pr_nil, pr_cons] at h
  | (a, b) :: ps, (c, d) :: qs, h => by
    simp only [pr_cons, List.cons.injEq, Value.int.injEq, true_and] at h
    obtain ⟨rfl, rfl, h⟩ := h
    rw [pr_inj ps qs h]

theorem Rd.plen {w : World} {A : Option Addr} {n c : Nat} {ps : List (Int × Int)} (h : Rd w 2 A n c (pr ps)) : ps.length = n := by
  have := h.len; rw [pr_len] at this; omega
/-- The k-th pair of a slice that reads as pairs. -/
theorem Rd.pair {w : World} {A : Option Addr} {n c : Nat} {ps : List (Int × Int)} (h : Rd w 2 A n c (pr ps)) {k : Nat} (hk : k < n) :
    ∃ b o x y, A = some ⟨b, o, none⟩ ∧ b < w.heap.size ∧ ps[k]? = some (x, y) ∧ w.cell? ⟨b, o + k * 2, none⟩ = some (.int .i64 x) ∧ w.cell? ⟨b, o + k * 2 + 1, none⟩ = some (.int .i64 y) := by
  have hl := h.plen
  obtain ⟨b, o, hA, hlt, hc⟩ := h.at0 (by rw [pr_len]; omega)
  have hx : ps[k]? = some (ps[k]'(by omega)) := List.getElem?_eq_getElem _
  have h0 := hc (k * 2) (by rw [pr_len]; omega)
  have h1 := hc (k * 2 + 1) (by rw [pr_len]; omega)
  rw [(pr_get ps k).1, hx] at h0
  rw [(pr_get ps k).2, hx] at h1
  exact ⟨b, o, _, _, hA, hlt, hx, h0, h1⟩

/-- Filling a list from the left. -/
theorem set_growG {α : Type} {xs : List α} {k : Nat} {x : α} (hx : xs[k]? = some x) (n : Nat) (hn : xs.length = n) (z : α) :
    (xs.take k ++ List.replicate (n - k) z).set k x = xs.take (k + 1) ++ List.replicate (n - (k + 1)) z := by
  have hk : k < xs.length := (List.getElem?_eq_some_iff.1 hx).1
  apply List.ext_getElem?
  intro j
  rw [List.getElem?_set]
  rcases Nat.lt_trichotomy j k with h | h | h
  · rw [if_neg (by omega), List.getElem?_append_left (by simp; omega), List.getElem?_append_left (by simp; omega), List.getElem?_take_of_lt h, List.getElem?_take_of_lt (by omega)]
  · subst h
    rw [if_pos rfl, if_pos (by simp; omega), List.getElem?_append_left (by simp; omega), List.getElem?_take_of_lt (by omega), hx]
  · rw [if_neg (by omega), List.getElem?_append_right (by simp; omega), List.getElem?_append_right (by simp; omega)]
    simp only [List.length_take, List.getElem?_replicate]
    by_cases hj : j < n
    · rw [if_pos (by omega), if_pos (by omega)]
    · rw [if_neg (by omega), if_neg (by omega)]
theorem get_growG {α : Type} {xs : List α} {k n : Nat} (hn : xs.length = n) (hk : k < n) (z : α) : (xs.take k ++ List.replicate (n - k) z)[k]? = some z := by
  rw [List.getElem?_append_right (by simp; omega), List.getElem?_replicate, if_pos (by simp; omega)]

/-- Where a slice of pairs that the call owns has its k-th pair. -/
theorem own_pair {w : World} {base : Nat} {e : TypeId} {g n c : Nat} {ps : List (Int × Int)} (h : w.ownsRow base e 2 (.slice (some ⟨g, 0, none⟩) n c) n (pr ps)) {k : Nat} {x y : Int} (hx : ps[k]? = some (x, y)) (hk : k < n) :
    w.cell? ⟨g, k * 2, none⟩ = some (.int .i64 x) ∧ w.cell? ⟨g, k * 2 + 1, none⟩ = some (.int .i64 y) := by
  rw [h.cellAt (k * 2) (by omega), h.cellAt (k * 2 + 1) (by omega), (pr_get ps k).1, (pr_get ps k).2, hx]
  exact ⟨rfl, rfl⟩
theorem own_set2 {w : World} {base : Nat} {e : TypeId} {g n c : Nat} {ps : List (Int × Int)} (h : w.ownsRow base e 2 (.slice (some ⟨g, 0, none⟩) n c) n (pr ps)) (k : Nat) (x y : Int) :
    ((w.setCell ⟨g, k * 2, none⟩ (.int .i64 x)).setCell ⟨g, k * 2 + 1, none⟩ (.int .i64 y)).ownsRow base e 2 (.slice (some ⟨g, 0, none⟩) n c) n (pr (ps.set k (x, y))) ∧
    w.grownBy ((w.setCell ⟨g, k * 2, none⟩ (.int .i64 x)).setCell ⟨g, k * 2 + 1, none⟩ (.int .i64 y)) (some g) := by
  have S1 := h.stored (k * 2) (.int .i64 x)
  have S2 := S1.1.stored (k * 2 + 1) (.int .i64 y)
  rw [pr_set] at S2
  exact ⟨S2.1, World.grownBy.trans S1.2 S2.2⟩

set_option maxHeartbeats 400000 in
theorem toPr_any (a b : Int) (w : World) :
    Calls Tryd.prog 28 #[.agg #[.int .i64 a, .int .i64 b]] w fun e w' => e = .returned (.agg #[.int .i64 a, .int .i64 b]) ∧ Below w.heap.size w w' := by
  go_enter Tryd.func28, Tryd.ntmps28
  go_wp2
  go_returns
  exact ⟨rfl, (by go_grown)⟩

set_option maxHeartbeats 400000 in
theorem szPrS_any (A : Option Addr) (n c : Nat) (L : Int) (w : World) (hn : n ≤ 9223372036854775807) (h0 : 0 ≤ L) (h1 : L ≤ 1048576) :
    Calls Tryd.prog 5 #[.slice A n c, .int .i64 L] w fun e w' => e = .returned (.int .i64 (if L < n then -1 else L - n)) ∧ w = w' := by
  by_cases h : L < n
  · rw [if_pos h]
    have h' : L - n < 0 := by omega
    go_enter Tryd.func5, Tryd.ntmps5
    go_wp2
    go_ret
    exact ⟨rfl, rfl⟩
  · rw [if_neg h]
    have h' : ¬ L - n < 0 := by omega
    go_enter Tryd.func5, Tryd.ntmps5
    go_wp2
    go_ret
    exact ⟨rfl, rfl⟩

theorem info_pr : (Tryd.prog.info? 49).map (fun i => (i.zero, i.size, i.bytes)) = some (some (.agg #[.int .i64 0, .int .i64 0]), 2, 16) := by kernel_rfl

theorem pr_rep : ∀ n : Nat, pr (List.replicate n (0, 0)) = List.replicate (n * 2) (.int .i64 0)
  | 0 => rfl
  | n + 1 => by rw [List.replicate_succ, pr_cons, pr_rep n, show (n + 1) * 2 = n * 2 + 1 + 1 by omega, List.replicate_succ, List.replicate_succ]
theorem made_pr (n : Nat) : (madeCells (Value.agg #[Value.int .i64 0, Value.int .i64 0]).cells (n * 2)).toList = pr (List.replicate n (0, 0)) := by
  rw [pr_rep]
  have e : (Value.agg #[Value.int .i64 0, Value.int .i64 0]).cells = #[Value.int .i64 0, Value.int .i64 0] := rfl
  rw [e]
  apply List.ext_getElem?
  intro j
  by_cases hj : j < n * 2
  · rcases Nat.mod_two_eq_zero_or_one j with h | h <;> simp [madeCells, hj, h]
  · simp [madeCells, hj]

set_option maxHeartbeats 1000000 in
theorem toPrS_any (A : Option Addr) (n c : Nat) (ps : List (Int × Int)) (w : World) (h : Rd w 2 A n c (pr ps)) (hn : n ≤ 1048576) :
    Calls Tryd.prog 7 #[.slice A n c] w fun e w' => ∃ g, e = .returned (.slice (some ⟨g, 0, none⟩) n n) ∧ w'.ownsRow w.heap.size 49 2 (.slice (some ⟨g, 0, none⟩) n n) n (pr ps) ∧ Below w.heap.size w w' := by
  obtain ⟨i0, hi, hz0, hz1, hz2⟩ := info_parts info_pr
  have hl := h.plen
  have H := Lib.hid h
  have HL := Lib.hid hl
  clear h hl
  go_enter Tryd.func7, Tryd.ntmps7
  go_wp2_with (refine wpList_make_full _ rfl (.tmp 6) (.tmp 6) _ rfl w.heap.size 49 i0 (.agg #[.int .i64 0, .int .i64 0]) 2 Tryd.underlying25 hi hz0 hz1 .i64 .i64 n n n rfl rfl rfl rfl (by rw [hz2]; omega) (by unfold maxLen; omega) (Nat.le_refl _) ?_; intro w1 hown1 hg1)
  have hb1 : Below w.heap.size w w1 := (Below.refl _ _).grown hg1 (Nat.le_refl _) (by simp)
  have hown1' : w1.ownsRow w.heap.size 49 2 (.slice (some ⟨w.heap.size, 0, none⟩) n n) n (pr (ps.take 0 ++ List.replicate (n - 0) (0, 0))) := by
    rw [made_pr] at hown1
    simpa using hown1
  clear hown1 hg1
  go_loopw [4] (fun i wr => ∃ k : Nat, k ≤ n ∧ i = .int .i64 k ∧ wr.ownsRow w.heap.size 49 2 (.slice (some ⟨w.heap.size, 0, none⟩) n n) n (pr (ps.take k ++ List.replicate (n - k) (0, 0))) ∧ Below w.heap.size w wr)
    (fun i _ => n - (intOf i).toNat)
  case atStart => exact ⟨0, Nat.zero_le _, rfl, hown1', hb1⟩
  case round =>
    obtain ⟨k, hk, rfl, hown, hb⟩ := hrel
    by_cases hlt : k < n
    · obtain ⟨b, o, x, y, hA, hbl, hx, hc, hc'⟩ := H.out.pair hlt
      subst hA
      have hcx : wr.cell? ⟨b, o + k * 2, none⟩ = some (.int .i64 x) := (hb.cell (p := ⟨b, o + k * 2, none⟩) hbl).trans hc
      have hcy : wr.cell? ⟨b, o + k * 2 + 1, none⟩ = some (.int .i64 y) := (hb.cell (p := ⟨b, o + k * 2 + 1, none⟩) hbl).trans hc'
      have HX := Lib.hid hx
      have HB := Lib.hid hb
      have HO := Lib.hid hown
      clear hx hc hc' hb hown
      go_wp2_with fail
      refine (toPr_any x y _).mono ?_
      rintro e w2 ⟨rfl, hb2⟩
      have hown := own_below HO.out hb2
      have hb3 := HB.out.trans (hb2.mono HB.out.size)
      have hold := own_pair hown (get_growG HL.out hlt (0, 0)) hlt
      obtain ⟨ho1, ho2⟩ := hold
      have hfr := hown.frozenAt
      have S := (own_set2 hown k x y).1
      rw [set_growG HX.out n HL.out] at S
      have HS := Lib.hid S
      have HB3 : Hid (Below w.heap.size w ((w2.setCell ⟨w.heap.size, k * 2, none⟩ (.int .i64 x)).setCell ⟨w.heap.size, k * 2 + 1, none⟩ (.int .i64 y))) := (hb3.setCell (Nat.le_refl _) _).setCell (Nat.le_refl _) _
      clear S hown hb3 HB HO hb2
      go_wp2
      go_roundw
      case rel => exact ⟨k + 1, by omega, by go_num, HS.out, HB3.out⟩
      case measure => simp [intOf]; omega
    · go_wp2
      go_ret
      have : k = n := by omega
      subst this
      refine ⟨_, rfl, ?_, hb⟩
      have e : ps.take k ++ List.replicate (k - k) (0, 0) = ps := by rw [List.take_of_length_le (by rw [HL.out]; exact Nat.le_refl _)]; simp
      rw [e] at hown
      exact hown
end Go.Proofs.YthdbaflihgkomaaDoor
/- slices.IndexFunc, slices.ContainsFunc over a slice of pairs at any predicate that reads. -/
namespace Go.Proofs.YthdbaflihgkomaaDoor
open Go.RowKit Go.Shelf

def prV (p : Int × Int) : Value := .agg #[.int .i64 p.1, .int .i64 p.2]

set_option maxHeartbeats 1000000 in
theorem indexFunc_pr (g : Nat) (lb : Array Value) (eg : ∀ args w, (callFunc g args).run Tryd.prog w = .ok (.enter g args) w) (p : Int × Int → Bool) (A : Option Addr) (n c : Nat) (xs : List (Int × Int)) (w : World) (h : Rd w 2 A n c (pr xs)) (hp : PredB Tryd.prog g lb prV p xs w) :
    Calls Tryd.prog 70 #[.slice A n c, .func (.func g) #[] lb] w fun e w' => e = .returned (.int .i64 (idxF p xs)) ∧ Below w.heap.size w w' := by
  have hl := h.plen
  have h1 := h.cap
  have h2 := h.max
  have H := Lib.hid h
  have HP := Lib.hid hp
  have HL := Lib.hid hl
  obtain ⟨R, hR⟩ : ∃ R, idxF p xs = R := ⟨_, rfl⟩
  rw [hR]
  have HR := Lib.hid hR
  clear h hp hl hR
  go_enter Tryd.func70, Tryd.ntmps70
  go_wp2
  go_loopg [8] n (fun gg i wr => ∃ k : Nat, k ≤ n ∧ n - k ≤ gg ∧ i = .int .i64 k ∧ Hid (∀ j y, j < k → xs[j]? = some y → p y = false) ∧ Below w.heap.size w wr)
  case atStart => exact ⟨0, Nat.zero_le _, by omega, rfl, (show Hid _ from fun j _ hj => absurd hj (Nat.not_lt_zero _)), Below.refl _ _⟩
  case round =>
    obtain ⟨k, hk, hgg, rfl, HB, hb⟩ := hrel
    by_cases hlt : k < n
    · have hltz : (k : Int) < (n : Int) := by omega
      obtain ⟨b, o, x, y, hA, hbl, hx, hc1, hc2⟩ := (H.out.below hb).pair hlt
      subst hA
      have HX := Lib.hid hx
      have hcall := HP.out wr (x, y) (List.mem_of_getElem? hx) hb
      have hcall : Calls Tryd.prog g (#[.agg #[.int .i64 x, .int .i64 y]] ++ lb) wr fun e w' => e = .returned (.bool (p (x, y))) ∧ Below wr.heap.size wr w' := hcall
      have Hb := Lib.hid hb
      clear hx hb
      cases hq : p (x, y) with
      | true =>
        rw [hq] at hcall
        have HC := Lib.hid hcall
        have HQ := Lib.hid hq
        clear hcall hq
        go_wp2_with (go_at_fn g; refine (HC.out).mono ?_; rintro e w' ⟨rfl, hb'⟩)
        go_ret
        exact ⟨ret_i (by rw [← HR.out]; exact (idxF_hit HX.out HQ.out HB.out).symm), Hb.out.trans (hb'.mono Hb.out.size)⟩
      | false =>
        rw [hq] at hcall
        have HC := Lib.hid hcall
        have HQ := Lib.hid hq
        clear hcall hq
        go_wp2_with (go_at_fn g; refine (HC.out).mono ?_; rintro e w' ⟨rfl, hb'⟩)
        go_roundg (n - (k + 1))
        case measure => omega
        case rel =>
          refine ⟨k + 1, by omega, by omega, by go_num, (show Hid _ from fun j y hj hy => ?_), Hb.out.trans (hb'.mono Hb.out.size)⟩
          by_cases e : j = k
          · subst e
            have := HX.out
            rw [this] at hy
            injection hy with hy
            rw [← hy]
            exact HQ.out
          · exact HB.out j y (by omega) hy
    · have hltz : ¬ (k : Int) < (n : Int) := by omega
      have : k = n := by omega
      subst this
      go_wp2
      go_ret
      exact ⟨ret_i (by rw [← HR.out]; exact (idxF_miss (by rw [HL.out]; exact HB.out)).symm), hb⟩

set_option maxHeartbeats 1000000 in
theorem containsFunc_pr (g : Nat) (lb : Array Value) (eg : ∀ args w, (callFunc g args).run Tryd.prog w = .ok (.enter g args) w) (p : Int × Int → Bool) (A : Option Addr) (n c : Nat) (xs : List (Int × Int)) (w : World) (h : Rd w 2 A n c (pr xs)) (hp : PredB Tryd.prog g lb prV p xs w) :
    Calls Tryd.prog 56 #[.slice A n c, .func (.func g) #[] lb] w fun e w' => e = .returned (.bool (xs.any p)) ∧ Below w.heap.size w w' := by
  have hany := idxF_any p xs
  generalize xs.any p = r at *
  have hcall := indexFunc_pr g lb eg p A n c xs w h hp
  generalize idxF p xs = i at *
  have HC := Lib.hid hcall
  have HA := Lib.hid hany
  clear hcall hany h hp
  go_enter Tryd.func56, Tryd.ntmps56
  go_wp2_with fail
  refine (HC.out).mono ?_
  rintro e w' ⟨rfl, hb⟩
  go_wp2_with fail
  go_ret
  exact ⟨ret_b HA.out, hb⟩
end Go.Proofs.YthdbaflihgkomaaDoor
/- eqBlock, eqBlockS: two lists of pairs are equal. -/

namespace Go.Proofs.YthdbaflihgkomaaDoor
open Go.RowKit

/-- Are two lists equal? As a Bool that no simp opens. -/
def eqG (ps qs : List (Int × Int)) : Bool := decide (ps = qs)
theorem eqG_self (ps : List (Int × Int)) : eqG ps ps = true := by simp [eqG]
theorem takeG_succ {α : Type} {xs ys : List α} {k : Nat} {x : α} (h : xs.take k = ys.take k) (hx : xs[k]? = some x) (hy : ys[k]? = some x) : xs.take (k + 1) = ys.take (k + 1) := by
  rw [List.take_add_one, List.take_add_one, h, hx, hy]
theorem neG_at {ps qs : List (Int × Int)} {k : Nat} {x y : Int × Int} (hx : ps[k]? = some x) (hy : qs[k]? = some y) (h : x ≠ y) : eqG ps qs = false := by
  unfold eqG
  rw [decide_eq_false_iff_not]
  intro e
  subst e
  rw [hx] at hy
  injection hy with hy
  exact h hy
theorem neG_len {ps qs : List (Int × Int)} (h : ps.length ≠ qs.length) : eqG ps qs = false := by
  unfold eqG
  rw [decide_eq_false_iff_not]
  intro e
  exact h (by rw [e])
theorem eqG_end {ps qs : List (Int × Int)} {n : Nat} (h : ps.take n = qs.take n) (h1 : ps.length = n) (h2 : qs.length = n) : eqG ps qs = true := by
  rw [List.take_of_length_le (by omega), List.take_of_length_le (by omega)] at h
  rw [h, eqG_self]
def eqP (a b c d : Int) : Bool := decide (a = c) && decide (b = d)
theorem eqP_self (a b : Int) : eqP a b a b = true := by simp [eqP]
theorem eqP_no {a b c d : Int} (h : eqP a b c d = false) : (a, b) ≠ (c, d) := by
  intro e
  injection e with h1 h2
  subst h1
  subst h2
  rw [eqP_self] at h
  cases h
theorem eqP_yes {a b c d : Int} (h : eqP a b c d = true) : a = c ∧ b = d := by simpa [eqP] using h

set_option maxHeartbeats 400000 in
theorem eqPr_any (a b c d : Int) (w : World) :
    Calls Tryd.prog 33 #[.agg #[.int .i64 a, .int .i64 b], .agg #[.int .i64 c, .int .i64 d]] w fun e w' => e = .returned (.bool (eqP a b c d)) ∧ Below w.heap.size w w' := by
  by_cases h1 : a = c
  · subst h1
    by_cases h2 : b = d
    · subst h2
      go_enter Tryd.func33, Tryd.ntmps33
      go_wp2
      go_ret
      exact ⟨ret_b (eqP_self _ _).symm, (by go_grown)⟩
    · have h2' : (b != d) = true := by simpa using h2
      go_enter Tryd.func33, Tryd.ntmps33
      go_wp2
      go_ret
      exact ⟨ret_b (by simp [eqP, h2]), (by go_grown)⟩
  · have h1' : (a != c) = true := by simpa using h1
    go_enter Tryd.func33, Tryd.ntmps33
    go_wp2
    go_ret
    exact ⟨ret_b (by simp [eqP, h1]), (by go_grown)⟩

theorem keepP {V W w' : World} {b o b' o' : Nat} {v0 v1 v2 v3 : Value} (e : W.cell? ⟨b, o, none⟩ = some v0 ∧ W.cell? ⟨b, o + 1, none⟩ = some v1 ∧ W.cell? ⟨b', o', none⟩ = some v2 ∧ W.cell? ⟨b', o' + 1, none⟩ = some v3 ∧ Below V.heap.size V W) (hb : Below W.heap.size W w') :
    w'.cell? ⟨b, o, none⟩ = some v0 ∧ w'.cell? ⟨b, o + 1, none⟩ = some v1 ∧ w'.cell? ⟨b', o', none⟩ = some v2 ∧ w'.cell? ⟨b', o' + 1, none⟩ = some v3 ∧ Below V.heap.size V w' := by
  obtain ⟨e0, e1, e2, e3, eb⟩ := e
  exact ⟨(hb.cell (p := ⟨b, o, none⟩) (World.block_lt_of_cell? _ _ e0)).trans e0, (hb.cell (p := ⟨b, o + 1, none⟩) (World.block_lt_of_cell? _ _ e1)).trans e1,
    (hb.cell (p := ⟨b', o', none⟩) (World.block_lt_of_cell? _ _ e2)).trans e2, (hb.cell (p := ⟨b', o' + 1, none⟩) (World.block_lt_of_cell? _ _ e3)).trans e3, eb.trans (hb.mono eb.size)⟩

set_option maxRecDepth 100000 in
set_option maxHeartbeats 2000000 in
theorem eqPrS_any (A : Option Addr) (n c : Nat) (ps : List (Int × Int)) (B : Option Addr) (m d : Nat) (qs : List (Int × Int)) (w : World) (hA : Rd w 2 A n c (pr ps)) (hB : Rd w 2 B m d (pr qs)) :
    Calls Tryd.prog 9 #[.slice A n c, .slice B m d] w fun e w' => e = .returned (.bool (eqG ps qs)) ∧ Below w.heap.size w w' := by
  have hlx := hA.plen
  have hly := hB.plen
  have h1 := hA.cap
  have h2 := hA.max
  have h3 := hB.cap
  have h4 := hB.max
  by_cases hnm : n = m
  · subst hnm
    have HA := Lib.hid hA
    have HB := Lib.hid hB
    have HX := Lib.hid hlx
    have HY := Lib.hid hly
    clear hA hB hlx hly
    go_enter Tryd.func9, Tryd.ntmps9
    go_wp2
    go_loopw [5] (fun i wr => ∃ k : Nat, k ≤ n ∧ i = .int .i64 k ∧ ps.take k = qs.take k ∧ Below w.heap.size w wr) (fun i _ => n - (intOf i).toNat)
    case atStart => exact ⟨0, Nat.zero_le _, rfl, rfl, Below.refl _ _⟩
    case round =>
      obtain ⟨k, hk, rfl, hT, hb⟩ := hrel
      have HT := Lib.hid hT
      clear hT
      by_cases hlt : k < n
      · obtain ⟨b, o, x, y, hA, hbl, hx, hc1, hc2⟩ := (HA.out.below hb).pair hlt
        obtain ⟨b', o', x', y', hB, hbl', hx', hd1, hd2⟩ := (HB.out.below hb).pair hlt
        subst hA
        subst hB
        have HX' := Lib.hid hx
        have HY' := Lib.hid hx'
        have Hb := Lib.hid hb
        clear hx hx' hb
        have hk0 : (0 : Int) ≤ (k : Int) := by omega
        have hk1 : (k : Int) < (n : Int) := by omega
        cases hxy : eqP x y x' y' with
        | true =>
          obtain ⟨rfl, rfl⟩ := eqP_yes hxy
          go_wp2
          go_region_held3 (fun w' => w'.cell? ⟨b, o + k * 2, none⟩ = some (.int .i64 x) ∧ w'.cell? ⟨b, o + k * 2 + 1, none⟩ = some (.int .i64 y) ∧ w'.cell? ⟨b', o' + k * 2, none⟩ = some (.int .i64 x) ∧ w'.cell? ⟨b', o' + k * 2 + 1, none⟩ = some (.int .i64 y) ∧ Below wr.heap.size wr w')
            (first | exact ⟨hc1, hc2, hd1, hd2, (Below.refl _ _).drew⟩ | exact keepP (by assumption) hb | go_keep)
            (first | (go_at_call 33; refine (eqPr_any _ _ _ _ _).mono ?_; rw [hxy]; rintro e w' ⟨rfl, hb⟩))
          have hbb : Below wr.heap.size wr w' := (‹_ ∧ _ ∧ _ ∧ _ ∧ Below wr.heap.size wr w'›).2.2.2.2
          have b3 := Hb.out.trans (hbb.mono Hb.out.size)
          go_wp2
          go_roundw
          case rel => exact ⟨k + 1, by omega, by go_num, takeG_succ HT.out HX'.out HY'.out, b3⟩
          case measure => simp [intOf]; omega
        | false =>
          go_wp2
          go_region_held3 (fun w' => w'.cell? ⟨b, o + k * 2, none⟩ = some (.int .i64 x) ∧ w'.cell? ⟨b, o + k * 2 + 1, none⟩ = some (.int .i64 y) ∧ w'.cell? ⟨b', o' + k * 2, none⟩ = some (.int .i64 x') ∧ w'.cell? ⟨b', o' + k * 2 + 1, none⟩ = some (.int .i64 y') ∧ Below wr.heap.size wr w')
            (first | exact ⟨hc1, hc2, hd1, hd2, (Below.refl _ _).drew⟩ | exact keepP (by assumption) hb | go_keep)
            (first | (go_at_call 33; refine (eqPr_any _ _ _ _ _).mono ?_; rw [hxy]; rintro e w' ⟨rfl, hb⟩))
          have hbb : Below wr.heap.size wr w' := (‹_ ∧ _ ∧ _ ∧ _ ∧ Below wr.heap.size wr w'›).2.2.2.2
          have b3 := Hb.out.trans (hbb.mono Hb.out.size)
          go_wp2
          go_ret
          exact ⟨ret_b (neG_at HX'.out HY'.out (eqP_no hxy)).symm, b3⟩
      · go_wp2
        go_ret
        have : k = n := by omega
        subst this
        exact ⟨ret_b (eqG_end HT.out HX.out HY.out).symm, hb⟩
  · go_enter Tryd.func9, Tryd.ntmps9
    go_wp2
    go_ret
    exact ⟨ret_b (neG_len (by omega)).symm, Below.refl _ _⟩
end Go.Proofs.YthdbaflihgkomaaDoor
/- markBlockS and heldBlockS. -/
namespace Go.Proofs.YthdbaflihgkomaaDoor
open Go.RowKit

/-- (k, k + 1), (k + 2, k + 3), .., n of them. -/
def marksP (k : Int) (n : Nat) : List (Int × Int) := (List.range n).map fun i : Nat => (k + 2 * (i : Int), k + 2 * (i : Int) + 1)
theorem marksP_len (k : Int) (n : Nat) : (marksP k n).length = n := by simp [marksP]
theorem marksP_get (k : Int) (n j : Nat) (h : j < n) : (marksP k n)[j]? = some (k + 2 * (j : Int), k + 2 * (j : Int) + 1) := by simp [marksP, h]
theorem markP_set (k : Int) (ps : List (Int × Int)) (j : Nat) (hj : j < ps.length) : (marksP k j ++ ps.drop j).set j (k + 2 * (j : Int), k + 2 * (j : Int) + 1) = marksP k (j + 1) ++ ps.drop (j + 1) := by
  apply List.ext_getElem?
  intro i
  have hlen : (marksP k j ++ ps.drop j).length = ps.length := by simp [marksP_len]; omega
  rw [List.getElem?_set, hlen]
  rcases Nat.lt_trichotomy i j with h | h | h
  · rw [if_neg (by omega), List.getElem?_append_left (by rw [marksP_len]; exact h), List.getElem?_append_left (by rw [marksP_len]; omega), marksP_get _ _ _ h, marksP_get _ _ _ (by omega)]
  · subst h
    rw [if_pos rfl, if_pos hj, List.getElem?_append_left (by rw [marksP_len]; omega), marksP_get _ _ _ (by omega)]
  · rw [if_neg (by omega), List.getElem?_append_right (by rw [marksP_len]; omega), List.getElem?_append_right (by rw [marksP_len]; omega), marksP_len, marksP_len, List.getElem?_drop, List.getElem?_drop]
    congr 1
    omega

end Go.Proofs.YthdbaflihgkomaaDoor
