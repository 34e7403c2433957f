/- First rows with room (pure part): blocks in an order are put into the first row in which they fit. -/
import Derived.Test.YthdbaflihgkomaaRw3
import Derived.Test.YthdbaflihgkomaaTb2
namespace Go.Proofs.Ythdbaflihgkomaa
open Go.RowKit Go.Shelf

/-- The first row with room for a width. -/
def roomF (roll : Int) (W : List Int) (x : Int) : Int := idxF (fun v => decide (v + x ≤ roll)) W
/-- The rows told, and the widths, behind the first k of an order. -/
def firstK (ps : List (Int × Int)) (roll : Int) (os : List Int) : Nat → List Int × List Int
  | 0 => (List.replicate ps.length 0, z9)
  | k + 1 => match os[k]? with
    | some i => match ps[i.toNat]? with
      | some p => ((firstK ps roll os k).1.set i.toNat (roomF roll (firstK ps roll os k).2 p.1), (firstK ps roll os k).2.set (roomF roll (firstK ps roll os k).2 p.1).toNat ((firstK ps roll os k).2.getD (roomF roll (firstK ps roll os k).2 p.1).toNat 0 + p.1))
      | none => firstK ps roll os k
    | none => firstK ps roll os k
theorem firstK_step {ps : List (Int × Int)} {roll : Int} {os O W : List Int} {k i : Nat} {r x y : Int} (h : firstK ps roll os k = (O, W)) (hi : os[k]? = some (i : Int)) (hp : ps[i]? = some (x, y)) (hr : roomF roll W x = r) :
    firstK ps roll os (k + 1) = (O.set i r, W.set r.toNat (W.getD r.toNat 0 + x)) := by
  unfold firstK
  rw [hi]
  simp only [Int.toNat_natCast]
  rw [hp, h]
  simp only [hr]
/-- What holds while k blocks lie: widths fit, rows from k on are empty. -/
structure FirstB (n : Nat) (roll : Int) (O W : List Int) (k : Nat) : Prop where
  ol : O.length = n
  wl : W.length = 9
  wb : ∀ (j : Nat) (x : Int), W[j]? = some x → 0 ≤ x ∧ x ≤ roll
  z : ∀ (j : Nat) (x : Int), k ≤ j → W[j]? = some x → x = 0
theorem firstB0 {n : Nat} {roll : Int} (hr : 0 ≤ roll) : FirstB n roll (List.replicate n 0) z9 0 := by
  have hz : ∀ (j : Nat) (x : Int), z9[j]? = some x → x = 0 := by
    intro j x h
    unfold z9 at h
    rw [List.getElem?_replicate] at h
    split at h
    · injection h with h; exact h.symm
    · cases h
  exact ⟨by simp, rfl, fun j x h => by have := hz j x h; omega, fun j x _ h => hz j x h⟩
/-- While fewer than nine blocks lie there is a row with room. -/
theorem FirstB.room {n : Nat} {roll : Int} {O W : List Int} {k : Nat} (h : FirstB n roll O W k) (hk : k < 9) {x : Int} (hx : x ≤ roll) :
    ∃ r : Nat, roomF roll W x = (r : Int) ∧ r ≤ k ∧ W.getD r 0 + x ≤ roll ∧ ∀ (j : Nat) (v : Int), j < r → W[j]? = some v → roll < v + x := by
  have hwk := getD_of (l := W) (j := k) (by rw [h.wl]; omega)
  rw [h.z k _ (Nat.le_refl _) hwk] at hwk
  unfold roomF idxF
  cases hf : W.findIdx? (fun v => decide (v + x ≤ roll)) with
  | none =>
    rw [List.findIdx?_eq_none_iff] at hf
    have := hf _ (List.mem_of_getElem? hwk)
    simp at this
    omega
  | some r =>
    rw [List.findIdx?_eq_some_iff_getElem] at hf
    obtain ⟨hr, hp, hlt⟩ := hf
    refine ⟨r, rfl, ?_, ?_, fun j v hj hv => ?_⟩
    · apply Nat.le_of_not_lt
      intro hkr
      have := hlt k hkr
      have e : W[k]'(by omega) = 0 := by
        have h1 := List.getElem?_eq_getElem (l := W) (i := k) (by omega)
        rw [hwk] at h1
        injection h1 with h1
        exact h1.symm
      rw [e] at this
      simp at this
      omega
    · have e : W[r]'hr = W.getD r 0 := by simp [List.getD, List.getElem?_eq_getElem hr]
      rw [e] at hp
      simpa using hp
    · have := hlt j hj
      obtain ⟨hj', rfl⟩ := List.getElem?_eq_some_iff.1 hv
      simp at this
      exact this
theorem FirstB.step {n : Nat} {roll : Int} {O W : List Int} {k : Nat} (h : FirstB n roll O W k) {i r : Nat} {x : Int} (hx : 0 ≤ x) (hr : r ≤ k) (hf : W.getD r 0 + x ≤ roll) (hk : k < 9) :
    FirstB n roll (O.set i (r : Int)) (W.set r (W.getD r 0 + x)) (k + 1) := by
  refine ⟨by simp [h.ol], by simp [h.wl], fun j v hv => ?_, fun j v hj hv => ?_⟩
  · rcases get_set_cases hv with rfl | hv
    · have := h.wb _ _ (getD_of (l := W) (j := r) (by rw [h.wl]; omega))
      omega
    · exact h.wb j v hv
  · rw [List.getElem?_set_ne (by omega)] at hv
    exact h.z j v (by omega) hv
end Go.Proofs.Ythdbaflihgkomaa
