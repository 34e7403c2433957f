/- The first order is the least one of its kind; the bound (pure part). Plain lemmas; no program. -/
import Derived.Test.YtfjmohnlllbgmaaSq
import Derived.Test.YtfjmohnlllbgmaaBd
namespace Go.Proofs.Ytfjmohnlllbgmaa

theorem scanF_first {α : Type} {g : Nat → Option α} {r : α} : ∀ {n : Nat}, scanF g n = some r → ∃ k, k < n ∧ g k = some r ∧ ∀ i, i < k → g i = none
  | 0, h => by cases h
  | n + 1, h => by
    have h' : (match scanF g n with | some r => some r | none => g n) = some r := h
    cases hs : scanF g n with
    | some q =>
      rw [hs] at h'
      obtain ⟨k, hk, hg, hb⟩ := scanF_first (r := q) hs
      exact ⟨k, by omega, by rw [hg]; exact h', hb⟩
    | none =>
      rw [hs] at h'
      refine ⟨n, by omega, h', fun i hi => ?_⟩
      cases hg : g i with
      | none => rfl
      | some q => exact absurd hs (scanF_ne hi (by rw [hg]; simp))
/-- What is found is the first one: where another one parts from it, it is the greater. -/
theorem firstO_lex {n : Nat} {P : List Int → Bool} {R : List Int} (hR : R.Perm (upto n)) (hP : P R = true) : ∀ (d : Nat) {b c r : List Int}, c.length = d → R = b ++ c → firstO n P d b = some r →
    ∀ (i : Nat) (x y : Int), (∀ j, j < i → r[j]? = R[j]?) → r[i]? = some x → R[i]? = some y → x ≠ y → x < y
  | 0, b, c, r, hc, h, hf, i, x, y, _, hx, hy, hne => by
    have : c = [] := List.eq_nil_of_length_eq_zero hc
    subst this
    rw [List.append_nil] at h
    unfold firstO at hf
    split at hf
    · injection hf with hf
      rw [← hf, ← h, hy] at hx
      injection hx with hx
      exact absurd hx.symm hne
    · cases hf
  | d + 1, b, c, r, hc, h, hf, i, x, y, hj, hx, hy, hne => by
    cases c with
    | nil => simp at hc
    | cons x0 c =>
      have hx0 : x0 ∈ upto n := hR.subset (by rw [h]; simp)
      obtain ⟨h0, h1⟩ := upto_mem'.1 hx0
      obtain ⟨k0, rfl⟩ := Int.eq_ofNat_of_zero_le h0
      have hnb : (k0 : Int) ∉ b := by
        have hnd : R.Nodup := hR.symm.nodup (upto_nodup n)
        rw [h, List.nodup_append] at hnd
        intro hm
        exact hnd.2.2 _ hm _ (by simp) rfl
      have hnb' : hasB b (k0 : Int) = false := decide_eq_false hnb
      have hR2 : R = (b ++ [(k0 : Int)]) ++ c := by rw [h]; simp
      have hc' : c.length = d := by simpa using hc
      unfold firstO at hf
      obtain ⟨k, hk, hg, hbefore⟩ := scanF_first hf
      have hle : k ≤ k0 := by
        apply Nat.le_of_not_lt
        intro hlt
        have h3 := hbefore k0 hlt
        simp only [hnb', Bool.false_eq_true, if_false] at h3
        exact firstO_some hR hP d hc' hR2 h3
      have hg' : firstO n P d (b ++ [(k : Int)]) = some r := by
        split at hg
        · cases hg
        · exact hg
      by_cases e : k = k0
      · subst e
        exact firstO_lex hR hP d hc' hR2 hg' i x y hj hx hy hne
      · obtain ⟨_, c2, hr⟩ := firstO_sat d hg'
        have hrb : r[b.length]? = some (k : Int) := by rw [hr]; simp
        have hRb : R[b.length]? = some (k0 : Int) := by rw [h]; simp
        rcases Nat.lt_trichotomy i b.length with hi | hi | hi
        · have e1 : r[i]? = b[i]? := by rw [hr, List.append_assoc, List.getElem?_append_left hi]
          have e2 : R[i]? = b[i]? := by rw [h, List.getElem?_append_left hi]
          rw [e1] at hx
          rw [e2, hx] at hy
          injection hy with hy
          exact absurd hy hne
        · subst hi
          rw [hrb] at hx
          rw [hRb] at hy
          injection hx with hx
          injection hy with hy
          omega
        · have := hj b.length hi
          rw [hrb, hRb] at this
          injection this with this
          omega
theorem sumG_perm (f : Int × Int → Int) {l m : List (Int × Int)} (h : l.Perm m) : sumG f l = sumG f m := by
  induction h with
  | nil => rfl
  | cons p _ ih => simp only [sumG, ih]
  | swap p q l => simp only [sumG]; omega
  | trans _ _ ih1 ih2 => rw [ih1, ih2]
theorem minG_le (f : Int × Int → Int) (a : Int) : ∀ {l : List (Int × Int)} {p : Int × Int}, p ∈ l → minG f a l ≤ f p
  | q :: l, p, h => by
    unfold minG
    rcases List.mem_cons.1 h with rfl | h
    · omega
    · have := minG_le f a (l := l) h
      omega
theorem run_low0 : ∀ (l : List (Int × Int)) (s : Int × Int), s.2 + sumG Prod.snd l ≤ (runJ s l).2
  | [], s => by simp [sumG, runJ]
  | p :: l, s => by
    have ih := run_low0 l (stepJ s p)
    show s.2 + (p.2 + sumG Prod.snd l) ≤ (runJ (stepJ s p) l).2
    have : s.2 + p.2 ≤ (stepJ s p).2 := by simp only [stepJ]; omega
    omega
theorem run_low1 : ∀ (l : List (Int × Int)) (s : Int × Int) (m : Int), l ≠ [] → (∀ p ∈ l, m ≤ p.2) → s.1 + sumG Prod.fst l + m ≤ (runJ s l).2
  | [], _, _, h, _ => absurd rfl h
  | [p], s, m, _, hm => by
    have := hm p (by simp)
    show s.1 + (p.1 + 0) + m ≤ (stepJ s p).2
    simp only [stepJ]
    omega
  | p :: q :: l, s, m, _, hm => by
    have ih := run_low1 (q :: l) (stepJ s p) m (by simp) (fun x hx => hm x (by simp [List.mem_cons.1 hx]))
    show s.1 + (p.1 + sumG Prod.fst (q :: l)) + m ≤ (runJ (stepJ s p) (q :: l)).2
    have : (stepJ s p).1 = s.1 + p.1 := rfl
    omega
theorem run_low2 (l : List (Int × Int)) (s : Int × Int) (m : Int) (h : l ≠ []) (hm : ∀ p ∈ l, m ≤ p.1) : s.1 + sumG Prod.snd l + m ≤ (runJ s l).2 := by
  cases l with
  | nil => exact absurd rfl h
  | cons p l =>
    have h1 := run_low0 l (stepJ s p)
    have h2 := hm p (by simp)
    show s.1 + (p.2 + sumG Prod.snd l) + m ≤ (runJ (stepJ s p) l).2
    have : s.1 + p.1 + p.2 ≤ (stepJ s p).2 := by simp only [stepJ]; omega
    omega
theorem map_upto (ps : List (Int × Int)) : (upto ps.length).map (jobF ps) = ps := by
  apply List.ext_getElem?
  intro j
  rw [List.getElem?_map]
  by_cases hj : j < ps.length
  · rw [upto_at hj, Option.map_some, List.getElem?_eq_getElem hj, jobF_at (List.getElem?_eq_getElem hj)]
  · rw [List.getElem?_eq_none (by rw [upto_len]; omega), List.getElem?_eq_none (by omega)]
    rfl
/-- The bound is not above the span of any order. -/
theorem bound_le {ps : List (Int × Int)} {os : List Int} {a b : Int} (hne : ps ≠ []) (h : os.Perm (upto ps.length)) : max (sumG Prod.fst ps + minG Prod.snd b ps) (sumG Prod.snd ps + minG Prod.fst a ps) ≤ spanL ps os := by
  have hp : (os.map (jobF ps)).Perm ps := by
    have := h.map (jobF ps)
    rw [map_upto] at this
    exact this
  have hl : os.map (jobF ps) ≠ [] := by
    intro e
    rw [e] at hp
    exact hne hp.symm.eq_nil
  have h1 := run_low1 (os.map (jobF ps)) (0, 0) (minG Prod.snd b ps) hl (fun p hp' => minG_le _ _ (hp.subset hp'))
  have h2 := run_low2 (os.map (jobF ps)) (0, 0) (minG Prod.fst a ps) hl (fun p hp' => minG_le _ _ (hp.subset hp'))
  rw [sumG_perm _ hp] at h1 h2
  unfold spanL
  simp only at h1 h2
  omega
end Go.Proofs.Ytfjmohnlllbgmaa
