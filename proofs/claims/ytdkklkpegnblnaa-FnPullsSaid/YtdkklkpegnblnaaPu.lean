/- FnPulls, plain: the lengths after each pull; the best direction; the closest pair of directions. -/
import Derived.Test.YtdkklkpegnblnaaStr
import Derived.Test.YtdkklkpegnblnaaRun2
namespace Go.Proofs.Ytdkklkpegnblnaa
open Go.RowKit

/-- Good enough: the stretch of direction i lies between. -/
def fineD (a c f low high i : Int) : Prop := 40 * low ≤ stretchZ a c i f ∧ stretchZ a c i f ≤ 40 * high
structure BInv (a c f low high d b l : Int) : Prop where
  none : l < 0 → ∀ i, 0 ≤ i → i < d → ¬ fineD a c f low high i
  val : 0 ≤ l → l = stretchZ a c b f
  b0 : 0 ≤ l → 0 ≤ b
  b1 : 0 ≤ l → b < d
  fn : 0 ≤ l → fineD a c f low high b
  le : 0 ≤ l → ∀ i, 0 ≤ i → i < d → fineD a c f low high i → l ≤ stretchZ a c i f
  fst : 0 ≤ l → ∀ i, 0 ≤ i → i < d → fineD a c f low high i → stretchZ a c i f = l → b ≤ i
def BPost (a c f low high D : Int) (R : Int × Int) : Prop :=
  (R.2 = 3 ∧ ∀ i, 0 ≤ i → i < D → ¬ fineD a c f low high i) ∨
  (R.2 = 0 ∧ 0 ≤ R.1 ∧ R.1 < D ∧ fineD a c f low high R.1 ∧ ∀ i, 0 ≤ i → i < D → fineD a c f low high i → stretchZ a c R.1 f ≤ stretchZ a c i f ∧ (stretchZ a c i f = stretchZ a c R.1 f → R.1 ≤ i))
theorem best_spec {a c f low high : Int} : ∀ (n : Nat) (d b l : Int), 0 ≤ d → (∀ i, 0 ≤ i → i < d + n → 0 ≤ stretchZ a c i f) → BInv a c f low high d b l → BPost a c f low high (d + n) (bestF a c f low high n d b l)
  | 0, d, b, l, hd, hs, h => by
    rw [show d + ((0 : Nat) : Int) = d by omega]
    unfold bestF
    by_cases hl : l < 0
    · rw [if_pos hl]; exact .inl ⟨rfl, h.none hl⟩
    · rw [if_neg hl]
      have hl' : 0 ≤ l := by omega
      have hv := h.val hl'
      refine .inr ⟨rfl, h.b0 hl', h.b1 hl', h.fn hl', fun i h0 h1 hf => ?_⟩
      have k1 := h.le hl' i h0 h1 hf
      show stretchZ a c b f ≤ _ ∧ (_ = stretchZ a c b f → b ≤ i)
      rw [← hv]
      exact ⟨k1, h.fst hl' i h0 h1 hf⟩
  | n + 1, d, b, l, hd, hs, h => by
    have e : d + ((n + 1 : Nat) : Int) = (d + 1) + (n : Int) := by omega
    rw [e] at hs ⊢
    unfold bestF
    have hsd := hs d hd (by omega)
    by_cases hc : inB (stretchZ a c d f) (40 * low) (40 * high) = true ∧ (l < 0 ∨ stretchZ a c d f < l)
    · rw [if_pos hc]
      have hb := inB_true hc.1
      refine best_spec n (d + 1) d _ (by omega) hs ⟨fun hl => by omega, fun _ => rfl, fun _ => hd, fun _ => by omega, fun _ => ⟨hb.1, hb.2⟩, fun _ i h0 h1 hf => ?_, fun _ i h0 h1 hf he => ?_⟩
      · by_cases ei : i = d
        · subst ei; exact Int.le_refl _
        · by_cases hl : l < 0
          · exact absurd hf (h.none hl i h0 (by omega))
          · have := h.le (by omega) i h0 (by omega) hf
            rcases hc.2 with h2 | h2 <;> omega
      · by_cases ei : i = d
        · omega
        · by_cases hl : l < 0
          · exact absurd hf (h.none hl i h0 (by omega))
          · have := h.le (by omega) i h0 (by omega) hf
            rcases hc.2 with h2 | h2 <;> omega
    · rw [if_neg hc]
      have hnf : fineD a c f low high d → ¬ (l < 0 ∨ stretchZ a c d f < l) := fun hf hh => hc ⟨inB_mk hf.1 hf.2, hh⟩
      refine best_spec n (d + 1) b l (by omega) hs ⟨fun hl i h0 h1 => ?_, h.val, h.b0, fun hl => by have := h.b1 hl; omega, h.fn, fun hl i h0 h1 hf => ?_, fun hl i h0 h1 hf he => ?_⟩
      · by_cases ei : i = d
        · subst ei; exact fun hf => hnf hf (.inl hl)
        · exact h.none hl i h0 (by omega)
      · by_cases ei : i = d
        · subst ei
          have := hnf hf
          omega
        · exact h.le hl i h0 (by omega) hf
      · by_cases ei : i = d
        · have := h.b1 hl; omega
        · exact h.fst hl i h0 (by omega) hf he
theorem best_all {a c f low high : Int} (hs : ∀ i, 0 ≤ i → i < 5 → 0 ≤ stretchZ a c i f) : BPost a c f low high 5 (bestF a c f low high 5 0 0 (-1)) := by
  have h := best_spec (a := a) (c := c) (f := f) (low := low) (high := high) 5 0 0 (-1) (by omega) hs ⟨fun _ i h0 h1 => by omega, fun h => by omega, fun h => by omega, fun h => by omega, fun h => by omega, fun h => by omega, fun h => by omega⟩
  exact h

/-- The pairs of P have been looked at. -/
structure MInv (a c a' c' : Int) (P : Int → Int → Prop) (S : MSt) : Prop where
  none : S.l < 0 → ∀ i k, ¬ P i k
  bd : 0 ≤ S.l → (0 ≤ S.x ∧ S.x ≤ 4) ∧ (0 ≤ S.y ∧ S.y ≤ 4)
  val : 0 ≤ S.l → S.l = absZ (giveZ a c S.x - giveZ a' c' S.y)
  le : 0 ≤ S.l → ∀ i k, P i k → S.l ≤ absZ (giveZ a c i - giveZ a' c' k)
theorem abs_nn (x : Int) : 0 ≤ absZ x := by unfold absZ; split <;> omega
theorem MInv.imp {a c a' c' : Int} {P Q : Int → Int → Prop} {S : MSt} (h : MInv a c a' c' P S) (hq : ∀ i k, Q i k → P i k) : MInv a c a' c' Q S :=
  ⟨fun hl i k hk => h.none hl i k (hq i k hk), h.bd, h.val, fun hl i k hk => h.le hl i k (hq i k hk)⟩
theorem MInv.step {a c a' c' i k : Int} {P : Int → Int → Prop} {S : MSt} (h : MInv a c a' c' P S) (hi : 0 ≤ i ∧ i ≤ 4) (hk : 0 ≤ k ∧ k ≤ 4) : MInv a c a' c' (fun i' k' => P i' k' ∨ (i' = i ∧ k' = k)) (mStep a c a' c' i k S) := by
  have h0 := abs_nn (giveZ a c i - giveZ a' c' k)
  unfold mStep
  by_cases hc : S.l < 0 ∨ absZ (giveZ a c i - giveZ a' c' k) < S.l
  · rw [if_pos hc]
    refine ⟨fun hl => by simp only at hl; omega, fun _ => ⟨hi, hk⟩, fun _ => rfl, fun _ i' k' hp => ?_⟩
    rcases hp with hp | ⟨rfl, rfl⟩
    · by_cases hl : S.l < 0
      · exact absurd hp (h.none hl i' k')
      · have := h.le (by omega) i' k' hp
        show absZ _ ≤ _
        rcases hc with h2 | h2 <;> omega
    · exact Int.le_refl _
  · rw [if_neg hc]
    refine ⟨fun hl => by omega, h.bd, h.val, fun hl i' k' hp => ?_⟩
    rcases hp with hp | ⟨rfl, rfl⟩
    · exact h.le hl i' k' hp
    · omega
theorem MInv.inner {a c a' c' i : Int} (hi : 0 ≤ i ∧ i ≤ 4) : ∀ (n : Nat) (k : Int) (P : Int → Int → Prop) (S : MSt), 0 ≤ k → k + n ≤ 5 → MInv a c a' c' P S → MInv a c a' c' (fun i' k' => P i' k' ∨ (i' = i ∧ k ≤ k' ∧ k' < k + n)) (mIn a c a' c' i n k S)
  | 0, k, P, S, hk, hn, h => h.imp fun i' k' hp => by rcases hp with hp | ⟨_, h1, h2⟩; exact hp; omega
  | n + 1, k, P, S, hk, hn, h => (MInv.inner hi n (k + 1) _ _ (by omega) (by omega) (h.step hi ⟨hk, by omega⟩)).imp fun i' k' hp => by
    rcases hp with hp | ⟨h0, h1, h2⟩
    · exact .inl (.inl hp)
    · by_cases e : k' = k
      · exact .inl (.inr ⟨h0, e⟩)
      · exact .inr ⟨h0, by omega, by omega⟩
theorem MInv.outer {a c a' c' : Int} : ∀ (n : Nat) (i : Int) (P : Int → Int → Prop) (S : MSt), 0 ≤ i → i + n ≤ 5 → MInv a c a' c' P S → MInv a c a' c' (fun i' k' => P i' k' ∨ (i ≤ i' ∧ i' < i + n ∧ 0 ≤ k' ∧ k' < 5)) (mOut a c a' c' n i S)
  | 0, i, P, S, hi, hn, h => h.imp fun i' k' hp => by rcases hp with hp | ⟨h1, h2, _⟩; exact hp; omega
  | n + 1, i, P, S, hi, hn, h => (MInv.outer n (i + 1) _ _ (by omega) (by omega) (MInv.inner (i := i) ⟨hi, by omega⟩ 5 0 P S (by omega) (by omega) h)).imp fun i' k' hp => by
    rcases hp with hp | ⟨h1, h2, h3, h4⟩
    · exact .inl (.inl hp)
    · by_cases e : i' = i
      · exact .inl (.inr ⟨e, h3, by omega⟩)
      · exact .inr ⟨by omega, by omega, h3, h4⟩
theorem match_all (a c a' c' : Int) : ∃ x y : Int, (mOut a c a' c' 5 0 ⟨0, 0, -1⟩).x = x ∧ (mOut a c a' c' 5 0 ⟨0, 0, -1⟩).y = y ∧ 0 ≤ x ∧ x ≤ 4 ∧ 0 ≤ y ∧ y ≤ 4 ∧ ∀ i k, 0 ≤ i → i < 5 → 0 ≤ k → k < 5 → absZ (giveZ a c x - giveZ a' c' y) ≤ absZ (giveZ a c i - giveZ a' c' k) := by
  have h := MInv.outer (a := a) (c := c) (a' := a') (c' := c') 5 0 (fun _ _ => False) ⟨0, 0, -1⟩ (by omega) (by omega) ⟨fun _ _ _ => id, fun h => absurd h (by decide), fun h => absurd h (by decide), fun h => absurd h (by decide)⟩
  have hl : 0 ≤ (mOut a c a' c' 5 0 ⟨0, 0, -1⟩).l := by
    by_cases hh : (mOut a c a' c' 5 0 ⟨0, 0, -1⟩).l < 0
    · exact absurd (.inr ⟨by omega, by omega, by omega, by omega⟩) (h.none hh 0 0)
    · omega
  obtain ⟨⟨b1, b2⟩, b3, b4⟩ := h.bd hl
  exact ⟨_, _, rfl, rfl, b1, b2, b3, b4, fun i k h0 h1 h2 h3 => by rw [← h.val hl]; exact h.le hl i k (.inr ⟨h0, by omega, h2, h3⟩)⟩

theorem after_small {a c s m d len f : Int} (h : DrawnL a c s m) (hd : 0 ≤ d ∧ d ≤ 4) (hf : 0 ≤ f ∧ f ≤ 59) (hl : 500 ≤ len ∧ len ≤ 10000) : len ≤ afterZ a c s d len f ∧ 4 * afterZ a c s d len f ≤ 5 * len := by
  have hk := lok h.valid
  refine ⟨after_ge hk hd ⟨by omega, by omega⟩ ⟨by omega, by omega⟩, ?_⟩
  have hg : 0 ≤ giveZ a c d ∧ giveZ a c d ≤ 104 := by
    unfold giveZ
    have h1 := mul_bd (x := a) (y := 4 - d) (p := 7) (q := 4) h.a0 h.a1 (by omega) (by omega)
    have h2 := mul_bd (x := c) (y := d) (p := 19) (q := 4) h.c0 h.c1 hd.1 hd.2
    omega
  have hs := mul_bd (x := giveZ a c d) (y := f) (p := 104) (q := 59) hg.1 hg.2 hf.1 hf.2
  have ht := mul_bd (x := giveZ a c d * f) (y := s) (p := 6136) (q := 950) hs.1 (by omega) h.s0 h.s1
  have hX := mul_bd (x := len) (y := 40000000 + giveZ a c d * f * s) (p := len) (q := 45829200) (by omega) (Int.le_refl _) (by omega) (by omega)
  have e : afterZ a c s d len f = (2 * (len * (40000000 + giveZ a c d * f * s)) + 40000000) / (2 * 40000000) := rfl
  rw [e]
  generalize len * (40000000 + giveZ a c d * f * s) = X at *
  omega
/-- What three pulls make of a length. -/
theorem pulls3 {a c s m d L f0 f1 f2 : Int} (h : DrawnL a c s m) (hd : 0 ≤ d ∧ d ≤ 4) (hL : 500 ≤ L ∧ L ≤ 2490) (h0 : 0 ≤ f0 ∧ f0 ≤ 59) (h1 : 0 ≤ f1 ∧ f1 ≤ 59) (h2 : 0 ≤ f2 ∧ f2 ≤ 59) :
    ∃ L1 L2 L3 : Int, afterZ a c s d L f0 = L1 ∧ afterZ a c s d L1 f1 = L2 ∧ afterZ a c s d L2 f2 = L3 ∧ L ≤ L1 ∧ L1 ≤ L2 ∧ L2 ≤ L3 ∧ L3 ≤ 10000 ∧
      runZ a c s m d L [f0, f1, f2] = if (tearsB a c m d f0 || (tearsB a c m d f1 || tearsB a c m d f2)) = true then ([], 10) else ([L1, L2, L3], 0) := by
  obtain ⟨a1, b1⟩ := after_small h hd h0 (len := L) ⟨hL.1, by omega⟩
  obtain ⟨a2, b2⟩ := after_small h hd h1 (len := afterZ a c s d L f0) ⟨by omega, by omega⟩
  obtain ⟨a3, b3⟩ := after_small h hd h2 (len := afterZ a c s d (afterZ a c s d L f0) f1) ⟨by omega, by omega⟩
  refine ⟨_, _, _, rfl, rfl, rfl, a1, a2, a3, by omega, ?_⟩
  have hc : codeZ a c s m d L 0 = 0 := code0_t h.valid (by rw [inB_mk hd.1 hd.2, inB_mk (by omega) (by omega)]; rfl)
  unfold runZ
  rw [if_pos hc, if_neg (by unfold outB; simp [inB_mk h0.1 (show f0 ≤ 1000 by omega), inB_mk h1.1 (show f1 ≤ 1000 by omega), inB_mk h2.1 (show f2 ≤ 1000 by omega)])]
  simp only [List.any_cons, List.any_nil, Bool.or_false]
  by_cases ht : (tearsB a c m d f0 || (tearsB a c m d f1 || tearsB a c m d f2)) = true
  · rw [if_pos ht, if_pos ht]
  · rw [if_neg ht, if_neg ht]
    unfold runA
    rw [if_neg (by omega)]
    unfold runA
    rw [if_neg (by omega)]
    unfold runA
    rw [if_neg (by omega)]
    rfl
theorem code_at {a c s m d L f : Int} (h : DrawnL a c s m) (hd : 0 ≤ d ∧ d ≤ 4) (hL : 500 ≤ L ∧ L ≤ 10000) (hf : 0 ≤ f ∧ f ≤ 59) : codeZ a c s m d L f = if tearsB a c m d f = true then 10 else 0 := by
  have hc := code_draw (len := L) (f := f) h.valid hd ⟨by omega, by omega⟩ ⟨by omega, by omega⟩
  rw [hc]
  unfold tearsB
  by_cases h1 : 40 * m < stretchZ a c d f
  · rw [if_pos h1, if_pos (by simpa using h1)]
  · rw [if_neg h1, if_neg (by simpa using h1)]
end Go.Proofs.Ytdkklkpegnblnaa
