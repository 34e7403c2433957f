/- slices.Clone and slices.Sort at []int64, at any length. -/
import Derived.Test.YtfjmohnlllbgmaaShP
import Derived.Test.YtfjmohnlllbgmaaWd
import Derived.Sort.OwnSortedInts
namespace Go.Proofs.Ytfjmohnlllbgmaa
open Go.RowKit

def leZ (x y : Int) : Bool := decide (x ≤ y)
theorem sorted_leZ (xs : List Int) : (xs.mergeSort leZ).Pairwise (· ≤ ·) := by
  have := List.pairwise_mergeSort (le := leZ) (fun a b c h1 h2 => by simp [leZ] at *; omega) (fun a b => by simp [leZ]; omega) xs
  exact this.imp fun h => by simpa [leZ] using h
theorem clone_any (A : Option Addr) (n c : Nat) (xs : List Int) (w : World) (h : Rd w 1 A n c (ints xs)) (hn : n ≤ 1048576) :
    Calls Try.prog 88 #[.slice A n c] w fun e w' => ∃ B d, e = .returned (.slice B n d) ∧ w'.ownsRow w.heap.size 2 1 (.slice B n d) n (ints xs) ∧ Below w.heap.size w w' := by
  have hl := h.ilen
  by_cases h0 : n = 0
  · subst h0
    have hx : xs = [] := List.eq_nil_of_length_eq_zero hl
    subst hx
    cases A with
    | none =>
      refine (AnyG.slices_Clone_int_nil Try.laysClone 0 c w).mono fun e w' hh => ?_
      obtain ⟨rfl, rfl⟩ := hh
      exact ⟨none, 0, rfl, World.ownsRow_nil _ _ _ _, Below.refl _ _⟩
    | some a =>
      refine (AnyG.slices_Clone_int_zero Try.laysClone a c w).mono fun e w' hh => ?_
      obtain ⟨v', rfl, ho, _, hb⟩ := hh
      obtain ⟨B, d, rfl⟩ := own_shape ho
      exact ⟨B, d, rfl, ho, hb⟩
  · obtain ⟨b, o, rfl, hlt, hc⟩ := h.at0 (by rw [ints_len]; omega)
    refine (AnyG.slices_Clone_int Try.laysClone b o n c xs w (by omega) (by omega) (fun j hj => by rw [hc j (by rw [ints_len]; exact hj), ints_get, getD_of hj]; rfl)).mono fun e w' hh => ?_
    obtain ⟨v', rfl, ho, _, hb⟩ := hh
    obtain ⟨B, d, rfl⟩ := own_shape ho
    rw [List.take_of_length_le (by omega)] at ho
    exact ⟨B, d, rfl, ho, hb⟩
theorem sort_any (base : Nat) (A : Option Addr) (n c : Nat) (xs : List Int) (w : World) (h : w.ownsRow base 2 1 (.slice A n c) n (ints xs)) (hn : n ≤ 1048576) (hb : base ≤ w.heap.size) :
    Calls Try.prog 89 #[.slice A n c] w fun e w' => e = .returned (.tuple #[]) ∧ w'.ownsRow base 2 1 (.slice A n c) n (ints (xs.mergeSort leZ)) ∧ Below base w w' := by
  have hl : xs.length = n := by have := h.1; rw [ints_len] at this; omega
  rcases h.2 with ⟨h', h0⟩ | ⟨g, cap, cur, h', hg, hblk, hnc, hcm, hcs, htake⟩
  · simp only [Value.slice.injEq] at h'
    obtain ⟨rfl, _, rfl⟩ := h'
    subst h0
    have hx : xs = [] := List.eq_nil_of_length_eq_zero hl
    subst hx
    refine (AnyG.slices_Sort_int_none Try.laysSort none 0 w).mono fun e w' hh => ?_
    obtain ⟨rfl, rfl⟩ := hh
    exact ⟨rfl, by rw [List.mergeSort_nil]; exact h, Below.refl _ _⟩
  · simp only [Value.slice.injEq] at h'
    obtain ⟨rfl, _, rfl⟩ := h'
    subst hl
    rw [Nat.mul_one] at htake
    refine (AnyG.slices_Sort_int Try.laysSort g 0 c xs w (holds_of_blockI hblk htake) (Array.getElem?_eq_some_iff.1 hblk).1 (by omega)).mono fun e w' hh => ?_
    obtain ⟨rfl, q, os, rfl⟩ := hh
    have hlen : (xs.mergeSort leZ).length = xs.length := List.length_mergeSort xs
    refine ⟨rfl, ownsRow_sortedI hlen hg hblk hnc hcm hcs, ?_⟩
    have hgb := grownBy_sortedI (w := w) (g := g) (n := q) (os := os) (xs.mergeSort leZ).toArray
    exact (Below.refl base w).grown hgb hb (fun j hj => by simp at hj; omega)
end Go.Proofs.Ytfjmohnlllbgmaa
