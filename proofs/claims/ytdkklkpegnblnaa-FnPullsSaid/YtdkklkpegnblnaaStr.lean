/- The law FnStretches. -/
import Derived.Test.YtdkklkpegnblnaaLsrc
namespace Go.Proofs.Ytdkklkpegnblnaa
open Go.RowKit

theorem gcdZ_dvd (a b : Int) (ha : 0 ≤ a) (hb : 0 ≤ b) : gcdZ a b ∣ a ∧ gcdZ a b ∣ b := by
  unfold gcdZ
  have h1 := Nat.gcd_dvd_left a.toNat b.toNat
  have h2 := Nat.gcd_dvd_right a.toNat b.toNat
  have h1' := Int.natCast_dvd_natCast.2 h1
  have h2' := Int.natCast_dvd_natCast.2 h2
  rw [Int.toNat_of_nonneg ha] at h1'
  rw [Int.toNat_of_nonneg hb] at h2'
  exact ⟨h1', h2'⟩
theorem low_facts {v den : Int} (hv : 0 ≤ v) (hd : 1 ≤ den) : 1 ≤ lowD v den ∧ lowD v den ≤ den ∧ 0 ≤ lowN v den ∧ lowN v den ≤ v ∧ lowN v den * den = v * lowD v den := by
  obtain ⟨h1, h2⟩ := gcdZ_dvd v den hv (by omega)
  have hg : 1 ≤ gcdZ v den := gcdZ_pos (by omega)
  unfold lowN lowD
  generalize gcdZ v den = g at *
  obtain ⟨p, rfl⟩ := h1
  obtain ⟨q, rfl⟩ := h2
  have e1 : g * p / g = p := Int.mul_ediv_cancel_left p (by omega)
  have e2 : g * q / g = q := Int.mul_ediv_cancel_left q (by omega)
  rw [e1, e2]
  have hp : 0 ≤ p := by
    rcases Int.lt_or_le p 0 with h | h
    · have := Int.mul_neg_of_pos_of_neg (show 0 < g by omega) h; omega
    · exact h
  have hq : 1 ≤ q := by
    rcases Int.lt_or_le q 1 with h | h
    · have := Int.mul_nonpos_of_nonneg_of_nonpos (show 0 ≤ g by omega) (show q ≤ 0 by omega); omega
    · exact h
  have hq2 : q ≤ g * q := by have := Int.mul_le_mul_of_nonneg_right hg (show 0 ≤ q by omega); omega
  have hp2 : p ≤ g * p := by have := Int.mul_le_mul_of_nonneg_right hg hp; omega
  exact ⟨hq, hq2, hp, hp2, by rw [Int.mul_comm g p, Int.mul_assoc, Int.mul_comm g q, ← Int.mul_assoc]⟩

/-- A fraction N / D that is v / 40000, against a whole number. -/
theorem frac_le {v N D k : Int} (hD : 1 ≤ D) (h : N * 40000 = v * D) (hk : k * 40000 ≤ v) : k * D ≤ N := by
  have h1 := Int.mul_le_mul_of_nonneg_right hk (show 0 ≤ D by omega)
  rw [← h] at h1
  have h2 : k * 40000 * D = k * D * 40000 := Int.mul_right_comm k 40000 D
  rw [h2] at h1
  omega
theorem frac_lt {v N D k : Int} (hD : 1 ≤ D) (h : N * 40000 = v * D) (hk : v < k * 40000) : N < k * D := by
  have h1 := Int.mul_lt_mul_of_pos_right hk (show 0 < D by omega)
  rw [← h] at h1
  have h2 : k * 40000 * D = k * D * 40000 := Int.mul_right_comm k 40000 D
  rw [h2] at h1
  omega
theorem frac_ge {v N D k : Int} (hD : 1 ≤ D) (h : N * 40000 = v * D) (hk : v ≤ k * 40000) : N ≤ k * D := by
  have h1 := Int.mul_le_mul_of_nonneg_right hk (show 0 ≤ D by omega)
  rw [← h] at h1
  have h2 : k * 40000 * D = k * D * 40000 := Int.mul_right_comm k 40000 D
  rw [h2] at h1
  omega
theorem frac_gt {v N D k : Int} (hD : 1 ≤ D) (h : N * 40000 = v * D) (hk : k * 40000 < v) : k * D < N := by
  have h1 := Int.mul_lt_mul_of_pos_right hk (show 0 < D by omega)
  rw [← h] at h1
  have h2 : k * 40000 * D = k * D * 40000 := Int.mul_right_comm k 40000 D
  rw [h2] at h1
  omega
/-- f = length * (40000 + x) / 40000 and stretch = x / 40, crosswise. -/
theorem frac_cross {len x N1 D1 N2 D2 : Int} (h1 : N1 * 40000 = len * (40000 + x) * D1) (h2 : N2 * 40 = x * D2) : N1 * 1000 * D2 = len * (1000 * D2 + N2) * D1 := by
  have e : N1 * 1000 * D2 * 40 = len * (1000 * D2 + N2) * D1 * 40 := by
    have a1 : N1 * 1000 * D2 * 40 = N1 * 40000 * D2 := by
      rw [Int.mul_right_comm (N1 * 1000) D2 40, Int.mul_assoc N1 1000 40]; rfl
    have a2 : len * (1000 * D2 + N2) * D1 * 40 = len * (1000 * D2 * 40 + N2 * 40) * D1 := by
      rw [Int.mul_right_comm (len * (1000 * D2 + N2)) D1 40, Int.mul_assoc len _ 40, Int.add_mul]
    have a3 : 1000 * D2 * 40 + x * D2 = (40000 + x) * D2 := by
      rw [Int.add_mul, Int.mul_right_comm 1000 D2 40]; rfl
    rw [a1, h1, a2, h2, a3, ← Int.mul_assoc len, Int.mul_right_comm _ D2 D1]
  omega

/-- No tear: the code of a drawn leather. -/
theorem code_draw {a c s m d len f : Int} (h : leatherB a c s m = true) (hd : 0 ≤ d ∧ d ≤ 4) (hl : 1 ≤ len ∧ len ≤ 10000) (hf : 0 ≤ f ∧ f ≤ 1000) :
    codeZ a c s m d len f = if 40 * m < stretchZ a c d f then 10 else 0 := by
  unfold codeZ
  rw [h, if_neg (by simp), inB_mk hd.1 hd.2, inB_mk hl.1 hl.2, inB_mk hf.1 hf.2, if_neg (by simp)]
  unfold tearsB
  by_cases h1 : 40 * m < stretchZ a c d f
  · rw [if_pos (by simpa using h1), if_pos h1]
  · rw [if_neg (by simpa using h1), if_neg h1]

theorem stretch_mono {a c d f f' : Int} (hg : 0 ≤ giveZ a c d) (h : f ≤ f') : stretchZ a c d f ≤ stretchZ a c d f' := Int.mul_le_mul_of_nonneg_left h hg
/-- The greatest pull is just where the leather begins to tear. -/
theorem great_iff {a c s m d : Int} (h : leatherB a c s m = true) (hd : 0 ≤ d ∧ d ≤ 4) :
    ∃ M, greatZ a c s m d = (M, 0) ∧ 0 ≤ M ∧ M ≤ 1000 ∧ (∀ f, 0 ≤ f → f ≤ 1000 → (f ≤ M ↔ ¬ 40 * m < stretchZ a c d f)) := by
  have hk := lok h
  have hg := (give_bd hk.a0 hk.a1 hk.c0 hk.c1 hd.1 hd.2).2.2
  have := hk.m0
  refine ⟨_, by unfold greatZ; rw [h, if_neg (by simp), inB_mk hd.1 hd.2, if_neg (by simp)], ?_⟩
  unfold stretchZ
  generalize giveZ a c d = g at *
  by_cases h0 : g = 0
  · subst h0
    rw [if_pos rfl]
    refine ⟨by omega, by omega, fun f _ h1 => ?_⟩
    simp
    omega
  · rw [if_neg h0]
    have hp : 0 < g := by omega
    have hq : 0 ≤ 40 * m / g := Int.ediv_nonneg (by omega) (by omega)
    unfold minZ
    refine ⟨by split <;> omega, by split <;> omega, fun f _ h1 => ?_⟩
    have h2 : f ≤ 40 * m / g ↔ f * g ≤ 40 * m := Int.le_ediv_iff_mul_le hp
    rw [Int.mul_comm f g] at h2
    split <;> omega

/-- What the least force is. -/
theorem pullF_spec {a c m d len want : Int} : ∀ (n : Nat) (f p : Int), pullF a c m d len want n f = (p, 0) →
    f ≤ p ∧ p < f + n ∧ ¬ len * (40000 + stretchZ a c d p) < want * 40000 ∧ ¬ 40 * m < stretchZ a c d p ∧ (∀ q, f ≤ q → q < p → len * (40000 + stretchZ a c d q) < want * 40000)
  | 0, f, p, h => by simp [pullF] at h
  | n + 1, f, p, h => by
    unfold pullF at h
    split at h
    · rename_i h1
      obtain ⟨g1, g2, g3, g4, g5⟩ := pullF_spec n (f + 1) p h
      refine ⟨by omega, by omega, g3, g4, fun q hq1 hq2 => ?_⟩
      by_cases e : q = f
      · subst e; exact h1
      · exact g5 q (by omega) hq2
    · rename_i h1
      split at h
      · simp at h
      · rename_i h2
        simp only [Prod.mk.injEq, and_true] at h
        subst h
        exact ⟨by omega, by omega, h1, h2, fun q hq1 hq2 => by omega⟩
theorem pullF_code {a c m d len want : Int} : ∀ (n : Nat) (f : Int), (pullF a c m d len want n f).2 = 0 ∨ (pullF a c m d len want n f).2 = 3 ∨ (pullF a c m d len want n f).2 = 10
  | 0, f => by simp [pullF]
  | n + 1, f => by
    unfold pullF
    split
    · exact pullF_code n (f + 1)
    · split <;> simp

theorem under_ok {a c s m d len f : Int} (hz : codeZ a c s m d len f = 0) : ∃ N D, underN a c s m d len f = N ∧ underD a c s m d len f = D ∧ 1 ≤ D ∧ D ≤ 40000 ∧ 0 ≤ N ∧ N ≤ 4400000000 ∧ N * 40000 = len * (40000 + stretchZ a c d f) * D := by
  obtain ⟨hk, hd, hl, hf, _⟩ := code_ok hz
  have hs := stretch_bd hk.a0 hk.a1 hk.c0 hk.c1 hd.1 hd.2 hf.1 hf.2
  have hu := under_bd hs hl
  obtain ⟨g1, g2, g3, g4, g5⟩ := low_facts (v := len * (40000 + stretchZ a c d f)) (den := 40000) hu.1 (by omega)
  exact ⟨_, _, by unfold underN; rw [if_pos hz], by unfold underD; rw [if_pos hz], g1, g2, g3, by omega, g5⟩
/-- What a drawn leather answers to a force. -/
theorem str_facts {a c s m d f L : Int} (h : DrawnL a c s m) (hd : 0 ≤ d ∧ d ≤ 4) (hf : 0 ≤ f ∧ f ≤ 249) (hL : 500 ≤ L ∧ L ≤ 2490) :
    ∃ M C S T U V : Int, greatZ a c s m d = (M, 0) ∧ 0 ≤ M ∧ M ≤ 1000 ∧ stretchOfN a c s m d f = S ∧ stretchOfD a c s m d f = T ∧ codeZ a c s m d 1 f = C ∧
      underN a c s m d L f = U ∧ underD a c s m d L f = V ∧ codeZ a c s m d L f = C ∧
      ((M < f ∧ C = 10) ∨ (f ≤ M ∧ C = 0 ∧ 1 ≤ V ∧ V ≤ 40000 ∧ 0 ≤ U ∧ U ≤ 1000000000 ∧ 1 ≤ T ∧ T ≤ 40 ∧ 0 ≤ S ∧ S ≤ 20000 ∧
        U * 1000 * T = L * (1000 * T + S) * V)) := by
  have hv := h.valid
  have hk := lok hv
  obtain ⟨M, hM, hM0, hM1, hiff⟩ := great_iff hv hd
  have hi := hiff f hf.1 (by omega)
  have e1 := code_draw (len := 1) hv hd (by omega) (f := f) (by omega)
  have e2 := code_draw (len := L) hv hd (by omega) (f := f) (by omega)
  refine ⟨M, _, _, _, _, _, hM, hM0, hM1, rfl, rfl, e1, rfl, rfl, e2, ?_⟩
  by_cases ht : 40 * m < stretchZ a c d f
  · left
    rw [if_pos ht]
    exact ⟨by have := mt hi.1 (fun h => h ht); omega, rfl⟩
  · right
    rw [if_neg ht] at e1 e2 ⊢
    have hm := h.m1
    have hs0 := (stretch_bd hk.a0 hk.a1 hk.c0 hk.c1 hd.1 hd.2 hf.1 (show f ≤ 1000 by omega)).1
    obtain ⟨N, D, hN, hD, g1, g2, g3, _, g5⟩ := under_ok e2
    rw [hN, hD]
    have hs1 : stretchZ a c d f ≤ 12400 := by omega
    have hT : stretchOfD a c s m d f = lowD (stretchZ a c d f) 40 := by unfold stretchOfD; rw [if_pos e1]
    have hS : stretchOfN a c s m d f = lowN (stretchZ a c d f) 40 := by unfold stretchOfN; rw [if_pos e1]
    have hU : N = lowN (L * (40000 + stretchZ a c d f)) 40000 := by rw [← hN]; unfold underN; rw [if_pos e2]
    rw [hT, hS]
    generalize stretchZ a c d f = x at *
    obtain ⟨q1, q2, q3, q4, q5⟩ := low_facts (v := x) (den := 40) hs0 (by omega)
    have hmul := mul_bd (x := L) (y := 40000 + x) (p := 2490) (q := 52400) (by omega) (by omega) (by omega) (by omega)
    obtain ⟨_, _, _, u4, _⟩ := low_facts (v := L * (40000 + x)) (den := 40000) hmul.1 (by omega)
    exact ⟨hi.2 ht, rfl, g1, g2, g3, by omega, q1, q2, q3, by omega, frac_cross g5 q5⟩

/-- What the least force answers. -/
theorem pull_facts {a c s m d L W M : Int} (h : DrawnL a c s m) (hd : 0 ≤ d ∧ d ≤ 4) (hL : 500 ≤ L ∧ L ≤ 2490) (hW : 500 ≤ W ∧ W ≤ 2690) (hM : greatZ a c s m d = (M, 0)) :
    ∃ p k : Int, pullZ a c s m d L W = (p, k) ∧ (k ≠ 0 ∨ (k = 0 ∧ 0 ≤ p ∧ p ≤ M ∧
      (∃ X Y : Int, underN a c s m d L p = X ∧ underD a c s m d L p = Y ∧ codeZ a c s m d L p = 0 ∧ 1 ≤ Y ∧ Y ≤ 40000 ∧ W * Y ≤ X) ∧
      (p = 0 ∨ (0 < p ∧ ∃ X Y : Int, underN a c s m d L (p - 1) = X ∧ underD a c s m d L (p - 1) = Y ∧ codeZ a c s m d L (p - 1) = 0 ∧ 1 ≤ Y ∧ Y ≤ 40000 ∧ X < W * Y)))) := by
  have hv := h.valid
  have hk := lok hv
  obtain ⟨M', hM', hM0, hM1, hiff⟩ := great_iff hv hd
  obtain rfl : M = M' := by rw [hM] at hM'; simpa using hM'
  have hp : pullZ a c s m d L W = pullF a c m d L W 1001 0 := by
    unfold pullZ
    rw [hv, if_neg (by simp), inB_mk hd.1 hd.2, inB_mk (by omega) (by omega), inB_mk (by omega) (by omega), if_neg (by simp)]
  refine ⟨(pullF a c m d L W 1001 0).1, (pullF a c m d L W 1001 0).2, hp, ?_⟩
  by_cases hz : (pullF a c m d L W 1001 0).2 = 0
  · right
    obtain ⟨g1, g2, g3, g4, g5⟩ := pullF_spec (p := (pullF a c m d L W 1001 0).1) 1001 0 (Prod.ext rfl hz)
    generalize (pullF a c m d L W 1001 0).1 = p at *
    refine ⟨hz, g1, (hiff p g1 (by omega)).2 g4, ?_, ?_⟩
    · have e2 := code_draw (len := L) hv hd (by omega) (f := p) (by omega)
      rw [if_neg g4] at e2
      obtain ⟨N, D, hN, hD, k1, k2, _, _, k5⟩ := under_ok e2
      exact ⟨N, D, hN, hD, e2, k1, k2, frac_le k1 k5 (by omega)⟩
    · by_cases h0 : p = 0
      · exact .inl h0
      · right
        refine ⟨by omega, ?_⟩
        have g5' := g5 (p - 1) (by omega) (by omega)
        have hmono := stretch_mono (f := p - 1) (f' := p) (give_bd hk.a0 hk.a1 hk.c0 hk.c1 hd.1 hd.2).2.2.1 (by omega)
        have e2 := code_draw (len := L) hv hd (by omega) (f := p - 1) (by omega)
        rw [if_neg (by omega)] at e2
        obtain ⟨N, D, hN, hD, k1, k2, _, _, k5⟩ := under_ok e2
        exact ⟨N, D, hN, hD, e2, k1, k2, frac_lt k1 k5 g5'⟩
  · exact .inl hz

/-- What the cut length answers. -/
theorem cut_facts {a c s m d f L : Int} (h : DrawnL a c s m) (hd : 0 ≤ d ∧ d ≤ 4) (hf : 0 ≤ f ∧ f ≤ 249) (hL : 500 ≤ L ∧ L ≤ 2490) (hz : codeZ a c s m d L f = 0) :
    ∃ q : Int, cutlenZ a c s m d L f = (q, 0) ∧ 1 ≤ q ∧ q ≤ L ∧
      (∃ X Y : Int, underN a c s m d q f = X ∧ underD a c s m d q f = Y ∧ codeZ a c s m d q f = 0 ∧ 1 ≤ Y ∧ Y ≤ 40000 ∧ X ≤ L * Y) ∧
      (∃ X Y : Int, underN a c s m d (q + 1) f = X ∧ underD a c s m d (q + 1) f = Y ∧ codeZ a c s m d (q + 1) f = 0 ∧ 1 ≤ Y ∧ Y ≤ 40000 ∧ L * Y < X) := by
  have hv := h.valid
  have hk := lok hv
  obtain ⟨_, _, _, _, ht⟩ := code_ok hz
  have hs := stretch_bd hk.a0 hk.a1 hk.c0 hk.c1 hd.1 hd.2 hf.1 (show f ≤ 1000 by omega)
  have hm := h.m1
  have hs0 := hs.1
  have hs1 : stretchZ a c d f ≤ 12400 := by omega
  obtain ⟨q, hq⟩ : ∃ q, L * 40000 / (40000 + stretchZ a c d f) = q := ⟨_, rfl⟩
  have hcut : cutlenZ a c s m d L f = if q < 1 then (0, 3) else (q, 0) := by unfold cutlenZ; rw [if_pos hz, hq]
  have d1 : q * (40000 + stretchZ a c d f) ≤ L * 40000 := by rw [← hq]; exact Int.ediv_mul_le _ (by omega)
  have d2 : L * 40000 < (q + 1) * (40000 + stretchZ a c d f) := by rw [← hq]; exact Int.lt_ediv_add_one_mul_self _ (by omega)
  have q1 : 1 ≤ q := by
    rw [← hq]
    exact (Int.le_ediv_iff_mul_le (by omega)).2 (by omega)
  have q2 : q ≤ L := by
    have := Int.mul_le_mul_of_nonneg_left (show (40000 : Int) ≤ 40000 + stretchZ a c d f by omega) (show 0 ≤ q by omega)
    omega
  refine ⟨q, by rw [hcut, if_neg (by omega)], q1, q2, ?_, ?_⟩
  · have e2 := code_draw (len := q) hv hd (by omega) (f := f) (by omega)
    rw [if_neg (by omega)] at e2
    obtain ⟨N, D, hN, hD, k1, k2, _, _, k5⟩ := under_ok e2
    exact ⟨N, D, hN, hD, e2, k1, k2, frac_ge k1 k5 d1⟩
  · have e2 := code_draw (len := q + 1) hv hd (by omega) (f := f) (by omega)
    rw [if_neg (by omega)] at e2
    obtain ⟨N, D, hN, hD, k1, k2, _, _, k5⟩ := under_ok e2
    exact ⟨N, D, hN, hD, e2, k1, k2, frac_gt k1 k5 d2⟩
end Go.Proofs.Ytdkklkpegnblnaa
