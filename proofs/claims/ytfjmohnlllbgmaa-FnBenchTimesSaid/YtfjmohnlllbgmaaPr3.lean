/- markJobS and heldJobS. -/
import Derived.Test.YtfjmohnlllbgmaaPr2
namespace Go.Proofs.Ytfjmohnlllbgmaa
open Go.RowKit

/-- (k, k + 1), (k + 2, k + 3), .., n of them. -/
def marksP (k : Int) (n : Nat) : List (Int × Int) := (List.range n).map fun i : Nat => (k + 2 * (i : Int), k + 2 * (i : Int) + 1)
theorem marksP_len (k : Int) (n : Nat) : (marksP k n).length = n := by simp [marksP]
theorem marksP_get (k : Int) (n j : Nat) (h : j < n) : (marksP k n)[j]? = some (k + 2 * (j : Int), k + 2 * (j : Int) + 1) := by simp [marksP, h]
theorem markP_set (k : Int) (ps : List (Int × Int)) (j : Nat) (hj : j < ps.length) : (marksP k j ++ ps.drop j).set j (k + 2 * (j : Int), k + 2 * (j : Int) + 1) = marksP k (j + 1) ++ ps.drop (j + 1) := by
  apply List.ext_getElem?
  intro i
  have hlen : (marksP k j ++ ps.drop j).length = ps.length := by simp [marksP_len]; omega
  rw [List.getElem?_set, hlen]
  rcases Nat.lt_trichotomy i j with h | h | h
  · rw [if_neg (by omega), List.getElem?_append_left (by rw [marksP_len]; exact h), List.getElem?_append_left (by rw [marksP_len]; omega), marksP_get _ _ _ h, marksP_get _ _ _ (by omega)]
  · subst h
    rw [if_pos rfl, if_pos hj, List.getElem?_append_left (by rw [marksP_len]; omega), marksP_get _ _ _ (by omega)]
  · rw [if_neg (by omega), List.getElem?_append_right (by rw [marksP_len]; omega), List.getElem?_append_right (by rw [marksP_len]; omega), marksP_len, marksP_len, List.getElem?_drop, List.getElem?_drop]
    congr 1
    omega

set_option maxHeartbeats 2000000 in
theorem markPrS_any (base : Nat) (A : Option Addr) (n c : Nat) (ps : List (Int × Int)) (k0 : Int) (w : World) (h : w.ownsRow base 46 2 (.slice A n c) n (pr ps)) (hk0 : 0 ≤ k0) (hkn : k0 + 2 * n ≤ 4611686018427387904) :
    Calls Try.prog 32 #[.slice A n c, .int .i64 k0] w fun e w' => e = .returned (.int .i64 (k0 + 2 * n)) ∧ w'.ownsRow base 46 2 (.slice A n c) n (pr (marksP k0 n)) ∧ w.grownBy w' (Value.slice A n c).ownBlock := by
  have hl : ps.length = n := by have := h.1; rw [pr_len] at this; omega
  have H := Lib.hid h
  have HL := Lib.hid hl
  clear h hl
  go_enter Try.func32, Try.ntmps32
  go_wp2
  go_loopw [1, 5] (fun kk i wr => ∃ j : Nat, j ≤ n ∧ i = .int .i64 j ∧ kk = .int .i64 (k0 + 2 * j) ∧ wr.ownsRow base 46 2 (.slice A n c) n (pr (marksP k0 j ++ ps.drop j)) ∧ w.grownBy wr (Value.slice A n c).ownBlock)
    (fun _ i _ => n - (intOf i).toNat)
  case atStart => exact ⟨0, Nat.zero_le _, rfl, by simp, by simpa [marksP] using H.out, World.grownBy.refl _ _⟩
  case round =>
    obtain ⟨j, hj, rfl, rfl, hown, hg⟩ := hrel
    by_cases hlt : j < n
    · obtain ⟨g, hA, hbg, hgl⟩ := own_at hown (by omega)
      subst hA
      obtain ⟨⟨x, y⟩, hx⟩ : ∃ z, (marksP k0 j ++ ps.drop j)[j]? = some z := ⟨_, List.getElem?_eq_getElem (by simp [marksP_len, HL.out]; omega)⟩
      obtain ⟨hc1, hc2⟩ := own_pair hown hx hlt
      have hfr := hown.frozenAt
      have S := own_set2 hown j (k0 + 2 * j) (k0 + 2 * j + 1)
      rw [markP_set k0 ps j (by rw [HL.out]; exact hlt)] at S
      have HS := Lib.hid S.1
      have HG : Hid (w.grownBy ((wr.setCell ⟨g, j * 2, none⟩ (.int .i64 (k0 + 2 * j))).setCell ⟨g, j * 2 + 1, none⟩ (.int .i64 (k0 + 2 * j + 1))) (Value.slice (some ⟨g, 0, none⟩) n c).ownBlock) := World.grownBy.trans hg S.2
      clear S hown hg hx
      have hj0 : (0 : Int) ≤ (j : Int) := by omega
      have hj1 : (j : Int) < (n : Int) := by omega
      go_wp2
      go_roundw
      case rel => exact ⟨j + 1, by omega, by go_num, by go_num, HS.out, HG.out⟩
      case measure => simp [intOf]; omega
    · go_wp2
      go_ret
      have : j = n := by omega
      subst this
      refine ⟨rfl, ?_, hg⟩
      have e : marksP k0 j ++ ps.drop j = marksP k0 j := by rw [List.drop_of_length_le (by rw [HL.out]; exact Nat.le_refl _), List.append_nil]
      rw [e] at hown
      exact hown

end Go.Proofs.Ytfjmohnlllbgmaa
