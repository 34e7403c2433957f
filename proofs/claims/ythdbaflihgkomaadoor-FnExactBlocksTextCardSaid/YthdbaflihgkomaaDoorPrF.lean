/- slices.IndexFunc, slices.ContainsFunc over a slice of pairs at any predicate that reads. -/
import Derived.Test.YthdbaflihgkomaaDoorPr
import Derived.Test.YthdbaflihgkomaaDoorSl
namespace Go.Proofs.YthdbaflihgkomaaDoor
open Go.RowKit Go.Shelf

def prV (p : Int × Int) : Value := .agg #[.int .i64 p.1, .int .i64 p.2]

set_option maxHeartbeats 1000000 in
theorem indexFunc_pr (g : Nat) (lb : Array Value) (eg : ∀ args w, (callFunc g args).run Tryd.prog w = .ok (.enter g args) w) (p : Int × Int → Bool) (A : Option Addr) (n c : Nat) (xs : List (Int × Int)) (w : World) (h : Rd w 2 A n c (pr xs)) (hp : PredB Tryd.prog g lb prV p xs w) :
    Calls Tryd.prog 70 #[.slice A n c, .func (.func g) #[] lb] w fun e w' => e = .returned (.int .i64 (idxF p xs)) ∧ Below w.heap.size w w' := by
  have hl := h.plen
  have h1 := h.cap
  have h2 := h.max
  have H := Lib.hid h
  have HP := Lib.hid hp
  have HL := Lib.hid hl
  obtain ⟨R, hR⟩ : ∃ R, idxF p xs = R := ⟨_, rfl⟩
  rw [hR]
  have HR := Lib.hid hR
  clear h hp hl hR
  go_enter Tryd.func70, Tryd.ntmps70
  go_wp2
  go_loopg [8] n (fun gg i wr => ∃ k : Nat, k ≤ n ∧ n - k ≤ gg ∧ i = .int .i64 k ∧ Hid (∀ j y, j < k → xs[j]? = some y → p y = false) ∧ Below w.heap.size w wr)
  case atStart => exact ⟨0, Nat.zero_le _, by omega, rfl, (show Hid _ from fun j _ hj => absurd hj (Nat.not_lt_zero _)), Below.refl _ _⟩
  case round =>
    obtain ⟨k, hk, hgg, rfl, HB, hb⟩ := hrel
    by_cases hlt : k < n
    · have hltz : (k : Int) < (n : Int) := by omega
      obtain ⟨b, o, x, y, hA, hbl, hx, hc1, hc2⟩ := (H.out.below hb).pair hlt
      subst hA
      have HX := Lib.hid hx
      have hcall := HP.out wr (x, y) (List.mem_of_getElem? hx) hb
      have hcall : Calls Tryd.prog g (#[.agg #[.int .i64 x, .int .i64 y]] ++ lb) wr fun e w' => e = .returned (.bool (p (x, y))) ∧ Below wr.heap.size wr w' := hcall
      have Hb := Lib.hid hb
      clear hx hb
      cases hq : p (x, y) with
      | true =>
        rw [hq] at hcall
        have HC := Lib.hid hcall
        have HQ := Lib.hid hq
        clear hcall hq
        go_wp2_with (go_at_fn g; refine (HC.out).mono ?_; rintro e w' ⟨rfl, hb'⟩)
        go_ret
        exact ⟨ret_i (by rw [← HR.out]; exact (idxF_hit HX.out HQ.out HB.out).symm), Hb.out.trans (hb'.mono Hb.out.size)⟩
      | false =>
        rw [hq] at hcall
        have HC := Lib.hid hcall
        have HQ := Lib.hid hq
        clear hcall hq
        go_wp2_with (go_at_fn g; refine (HC.out).mono ?_; rintro e w' ⟨rfl, hb'⟩)
        go_roundg (n - (k + 1))
        case measure => omega
        case rel =>
          refine ⟨k + 1, by omega, by omega, by go_num, (show Hid _ from fun j y hj hy => ?_), Hb.out.trans (hb'.mono Hb.out.size)⟩
          by_cases e : j = k
          · subst e
            have := HX.out
            rw [this] at hy
            injection hy with hy
            rw [← hy]
            exact HQ.out
          · exact HB.out j y (by omega) hy
    · have hltz : ¬ (k : Int) < (n : Int) := by omega
      have : k = n := by omega
      subst this
      go_wp2
      go_ret
      exact ⟨ret_i (by rw [← HR.out]; exact (idxF_miss (by rw [HL.out]; exact HB.out)).symm), hb⟩

set_option maxHeartbeats 1000000 in
theorem containsFunc_pr (g : Nat) (lb : Array Value) (eg : ∀ args w, (callFunc g args).run Tryd.prog w = .ok (.enter g args) w) (p : Int × Int → Bool) (A : Option Addr) (n c : Nat) (xs : List (Int × Int)) (w : World) (h : Rd w 2 A n c (pr xs)) (hp : PredB Tryd.prog g lb prV p xs w) :
    Calls Tryd.prog 56 #[.slice A n c, .func (.func g) #[] lb] w fun e w' => e = .returned (.bool (xs.any p)) ∧ Below w.heap.size w w' := by
  have hany := idxF_any p xs
  generalize xs.any p = r at *
  have hcall := indexFunc_pr g lb eg p A n c xs w h hp
  generalize idxF p xs = i at *
  have HC := Lib.hid hcall
  have HA := Lib.hid hany
  clear hcall hany h hp
  go_enter Tryd.func56, Tryd.ntmps56
  go_wp2_with fail
  refine (HC.out).mono ?_
  rintro e w' ⟨rfl, hb⟩
  go_wp2_with fail
  go_ret
  exact ⟨ret_b HA.out, hb⟩
end Go.Proofs.YthdbaflihgkomaaDoor
