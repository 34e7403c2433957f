/- slices.IndexFunc, slices.ContainsFunc over []int64 at any predicate that reads; outside. -/
import Derived.Test.YthdbaflihgkomaaDoorLaw
import Derived.Shelf.Abstract
namespace Go.Proofs.YthdbaflihgkomaaDoor
open Go.RowKit Go.Shelf

/-- The first place at which p holds, or -1. -/
def idxF {α : Type} (p : α → Bool) (xs : List α) : Int := match xs.findIdx? p with
  | some i => (i : Int)
  | none => -1
theorem idxF_hit {α : Type} {p : α → Bool} {xs : List α} {k : Nat} {x : α} (hx : xs[k]? = some x) (hp : p x = true) (hb : ∀ j y, j < k → xs[j]? = some y → p y = false) : idxF p xs = (k : Int) := by
  have hk : k < xs.length := (List.getElem?_eq_some_iff.1 hx).1
  have : xs.findIdx? p = some k := by
    rw [List.findIdx?_eq_some_iff_getElem]
    refine ⟨hk, ?_, fun j hj => ?_⟩
    · have : xs[k] = x := by rw [List.getElem?_eq_getElem hk] at hx; injection hx
      rw [this]; exact hp
    · rw [hb j xs[j] hj (List.getElem?_eq_getElem (by omega))]; simp
  unfold idxF
  rw [this]
theorem idxF_miss {α : Type} {p : α → Bool} {xs : List α} (hb : ∀ j y, j < xs.length → xs[j]? = some y → p y = false) : idxF p xs = -1 := by
  have : xs.findIdx? p = none := by
    rw [List.findIdx?_eq_none_iff]
    intro x hx
    obtain ⟨j, hj, rfl⟩ := List.getElem_of_mem hx
    exact hb j _ hj (List.getElem?_eq_getElem hj)
  unfold idxF
  rw [this]
theorem idxF_any {α : Type} (p : α → Bool) (xs : List α) : decide (0 ≤ idxF p xs) = xs.any p := by
  unfold idxF
  cases h : xs.findIdx? p with
  | none =>
    rw [List.findIdx?_eq_none_iff] at h
    have : xs.any p = false := by rw [List.any_eq_false]; intro x hx; rw [h x hx]; simp
    rw [this]; decide
  | some i =>
    rw [List.findIdx?_eq_some_iff_getElem] at h
    obtain ⟨hi, hp, _⟩ := h
    have : xs.any p = true := by rw [List.any_eq_true]; exact ⟨xs[i], List.getElem_mem hi, hp⟩
    rw [this]
    simp
theorem idxF_bd {α : Type} (p : α → Bool) (xs : List α) : -1 ≤ idxF p xs ∧ idxF p xs ≤ xs.length := by
  unfold idxF
  cases h : xs.findIdx? p with
  | none => simp
  | some i =>
    rw [List.findIdx?_eq_some_iff_getElem] at h
    obtain ⟨hi, _⟩ := h
    simp; omega

/-- A function value g, bound to the cells lb, answers p at every element of xs, in every later world, and turns nothing that was there. -/
def PredB (P : Program) (g : Nat) (lb : Array Value) {α : Type} (enc : α → Value) (p : α → Bool) (xs : List α) (w : World) : Prop :=
  ∀ (W : World) (x : α), x ∈ xs → Below w.heap.size w W → Calls P g (#[enc x] ++ lb) W fun e w' => e = .returned (.bool (p x)) ∧ Below W.heap.size W w'

set_option maxHeartbeats 1000000 in
theorem indexFunc_i64 (g : Nat) (lb : Array Value) (eg : ∀ args w, (callFunc g args).run Tryd.prog w = .ok (.enter g args) w) (p : Int → Bool) (A : Option Addr) (n c : Nat) (xs : List Int) (w : World) (h : Rd w 1 A n c (ints xs)) (hp : PredB Tryd.prog g lb (Value.int .i64) p xs w) :
    Calls Tryd.prog 40 #[.slice A n c, .func (.func g) #[] lb] w fun e w' => e = .returned (.int .i64 (idxF p xs)) ∧ Below w.heap.size w w' := by
  have hl := h.ilen
  have h1 := h.cap
  have h2 := h.max
  have H := Lib.hid h
  have HP := Lib.hid hp
  have HL := Lib.hid hl
  obtain ⟨R, hR⟩ : ∃ R, idxF p xs = R := ⟨_, rfl⟩
  rw [hR]
  have HR := Lib.hid hR
  clear h hp hl hR
  go_enter Tryd.func40, Tryd.ntmps40
  go_wp2
  go_loopg [8] n (fun gg i wr => ∃ k : Nat, k ≤ n ∧ n - k ≤ gg ∧ i = .int .i64 k ∧ Hid (∀ j y, j < k → xs[j]? = some y → p y = false) ∧ Below w.heap.size w wr)
  case atStart => exact ⟨0, Nat.zero_le _, by omega, rfl, (show Hid _ from fun j _ hj => absurd hj (Nat.not_lt_zero _)), Below.refl _ _⟩
  case round =>
    obtain ⟨k, hk, hgg, rfl, HB, hb⟩ := hrel
    by_cases hlt : k < n
    · have hltz : (k : Int) < (n : Int) := by omega
      obtain ⟨b, o, x, hA, hbl, hx, hc⟩ := H.out.int hlt
      subst hA
      have hcell : wr.cell? ⟨b, o + k, none⟩ = some (.int .i64 x) := (hb.cell (p := ⟨b, o + k, none⟩) hbl).trans hc
      have HX := Lib.hid hx
      have hcall := HP.out wr x (List.mem_of_getElem? hx) hb
      have Hb := Lib.hid hb
      clear hx hc hb
      cases hq : p x with
      | true =>
        rw [hq] at hcall
        have HC := Lib.hid hcall
        have HQ := Lib.hid hq
        clear hcall hq
        go_wp2_with (go_at_fn g; refine (HC.out).mono ?_; rintro e w' ⟨rfl, hb'⟩)
        go_ret
        exact ⟨ret_i (by rw [← HR.out]; exact (idxF_hit HX.out HQ.out HB.out).symm), Hb.out.trans (hb'.mono Hb.out.size)⟩
      | false =>
        rw [hq] at hcall
        have HC := Lib.hid hcall
        have HQ := Lib.hid hq
        clear hcall hq
        go_wp2_with (go_at_fn g; refine (HC.out).mono ?_; rintro e w' ⟨rfl, hb'⟩)
        go_roundg (n - (k + 1))
        case measure => omega
        case rel =>
          refine ⟨k + 1, by omega, by omega, by go_num, (show Hid _ from fun j y hj hy => ?_), Hb.out.trans (hb'.mono Hb.out.size)⟩
          by_cases e : j = k
          · subst e
            have := HX.out
            rw [this] at hy
            injection hy with hy
            rw [← hy]
            exact HQ.out
          · exact HB.out j y (by omega) hy
    · have hltz : ¬ (k : Int) < (n : Int) := by omega
      have : k = n := by omega
      subst this
      go_wp2
      go_ret
      exact ⟨ret_i (by rw [← HR.out]; exact (idxF_miss (by rw [HL.out]; exact HB.out)).symm), hb⟩

set_option maxHeartbeats 1000000 in
theorem containsFunc_i64 (g : Nat) (lb : Array Value) (eg : ∀ args w, (callFunc g args).run Tryd.prog w = .ok (.enter g args) w) (p : Int → Bool) (A : Option Addr) (n c : Nat) (xs : List Int) (w : World) (h : Rd w 1 A n c (ints xs)) (hp : PredB Tryd.prog g lb (Value.int .i64) p xs w) :
    Calls Tryd.prog 76 #[.slice A n c, .func (.func g) #[] lb] w fun e w' => e = .returned (.bool (xs.any p)) ∧ Below w.heap.size w w' := by
  have hany := idxF_any p xs
  generalize xs.any p = r at *
  have hcall := indexFunc_i64 g lb eg p A n c xs w h hp
  generalize idxF p xs = i at *
  have HC := Lib.hid hcall
  have HA := Lib.hid hany
  clear hcall hany h hp
  go_enter Tryd.func76, Tryd.ntmps76
  go_wp2_with fail
  refine (HC.out).mono ?_
  rintro e w' ⟨rfl, hb⟩
  go_wp2_with fail
  go_ret
  exact ⟨ret_b HA.out, hb⟩

/-- A list with a number that is not in a range. -/
def outB (xs : List Int) (lo hi : Int) : Bool := xs.any fun x => !inB x lo hi
set_option maxHeartbeats 1000000 in
theorem outside_pred (xs : List Int) (lo hi : Int) (b1 b2 : Nat) (w : World) (h1 : w.cell? ⟨b1, 0, none⟩ = some (.int .i64 lo)) (h2 : w.cell? ⟨b2, 0, none⟩ = some (.int .i64 hi)) :
    PredB Tryd.prog 77 #[.pointer (some ⟨b1, 0, none⟩), .pointer (some ⟨b2, 0, none⟩)] (Value.int .i64) (fun x => !inB x lo hi) xs w := fun W x _ hb => by
  have hl1 := World.block_lt_of_cell? _ _ h1
  have hl2 := World.block_lt_of_cell? _ _ h2
  have c1 : W.cell? ⟨b1, 0, none⟩ = some (.int .i64 lo) := (hb.cell (p := ⟨b1, 0, none⟩) hl1).trans h1
  have c2 : W.cell? ⟨b2, 0, none⟩ = some (.int .i64 hi) := (hb.cell (p := ⟨b2, 0, none⟩) hl2).trans h2
  clear h1 h2 hb
  show Calls Tryd.prog 77 #[.int .i64 x, .pointer (some ⟨b1, 0, none⟩), .pointer (some ⟨b2, 0, none⟩)] W _
  go_enter Tryd.func77, Tryd.ntmps77
  go_wp2_with (go_at_call 55; refine (within_any _ _ _ _).mono ?_; rintro e w' ⟨rfl, rfl⟩)
  go_ret
  exact ⟨rfl, Below.refl _ _⟩

set_option maxHeartbeats 1000000 in
theorem outside_any (A : Option Addr) (n c : Nat) (xs : List Int) (lo hi : Int) (w : World) (h : Rd w 1 A n c (ints xs)) :
    Calls Tryd.prog 65 #[.slice A n c, .int .i64 lo, .int .i64 hi] w fun e w' => e = .returned (.bool (outB xs lo hi)) ∧ Below w.heap.size w w' := by
  have eg : ∀ args w, (callFunc 77 args).run Tryd.prog w = .ok (.enter 77 args) w := enters_of Tryd.func77 (by kernel_rfl) rfl
  have b0 : Below w.heap.size w ((w.alloc (.cells #[.int .i64 lo] 2)).alloc (.cells #[.int .i64 hi] 2)) := (by go_grown)
  have hcall := containsFunc_i64 77 #[.pointer (some ⟨w.heap.size, 0, none⟩), .pointer (some ⟨w.heap.size + 1, 0, none⟩)] eg (fun x => !inB x lo hi) A n c xs
    ((w.alloc (.cells #[.int .i64 lo] 2)).alloc (.cells #[.int .i64 hi] 2)) (h.below b0) (outside_pred xs lo hi w.heap.size (w.heap.size + 1) _ (by simp) (by simp))
  have hz : xs.any (fun x => !inB x lo hi) = outB xs lo hi := rfl
  rw [hz] at hcall
  generalize outB xs lo hi = r at *
  have HC := Lib.hid hcall
  clear hcall h hz eg
  go_enter Tryd.func65, Tryd.ntmps65
  go_wp2_with fail
  refine (HC.out).mono ?_
  rintro e w' ⟨rfl, hb⟩
  go_wp2_with fail
  go_ret
  exact ⟨rfl, b0.trans (hb.mono b0.size)⟩
end Go.Proofs.YthdbaflihgkomaaDoor
