/- The first order with the least span (pure part): a search, and the same search cut. Plain lemmas; no program. -/
import Derived.Test.YtfjmohnlllbgmaaTi
import Derived.Test.YtfjmohnlllbgmaaOd
namespace Go.Proofs.Ytfjmohnlllbgmaa

/-- The first hit among g 0, .., g (n - 1). -/
def scanF {α : Type} (g : Nat → Option α) : Nat → Option α
  | 0 => none
  | n + 1 => match scanF g n with
    | some r => some r
    | none => g n
theorem scanF_next {α : Type} {g : Nat → Option α} {k : Nat} (h : scanF g k = none) : scanF g (k + 1) = g k := by
  show (match scanF g k with | some r => some r | none => g k) = g k
  rw [h]
theorem scanF_stay {α : Type} {g : Nat → Option α} {k : Nat} {r : α} (h : scanF g k = some r) : ∀ d, scanF g (k + d) = some r
  | 0 => h
  | d + 1 => by
    show (match scanF g (k + d) with | some r => some r | none => g (k + d)) = some r
    rw [scanF_stay h d]
theorem scanF_hit {α : Type} {g : Nat → Option α} {k n : Nat} {r : α} (h : scanF g k = none) (hr : g k = some r) (hk : k < n) : scanF g n = some r := by
  have h1 : scanF g (k + 1) = some r := by rw [scanF_next h, hr]
  have := scanF_stay h1 (n - (k + 1))
  rw [show k + 1 + (n - (k + 1)) = n by omega] at this
  exact this
theorem scanF_congr {α : Type} {g g' : Nat → Option α} : ∀ n, (∀ i, i < n → g i = g' i) → scanF g n = scanF g' n
  | 0, _ => rfl
  | n + 1, h => by
    show (match scanF g n with | some r => some r | none => g n) = (match scanF g' n with | some r => some r | none => g' n)
    rw [scanF_congr n (fun i hi => h i (by omega)), h n (by omega)]
theorem scanF_some {α : Type} {g : Nat → Option α} {r : α} : ∀ {n : Nat}, scanF g n = some r → ∃ i, i < n ∧ g i = some r
  | 0, h => by cases h
  | n + 1, h => by
    have h' : (match scanF g n with | some r => some r | none => g n) = some r := h
    cases hs : scanF g n with
    | none => rw [hs] at h'; exact ⟨n, by omega, h'⟩
    | some q =>
      rw [hs] at h'
      obtain ⟨i, hi, hg⟩ := scanF_some (r := q) hs
      exact ⟨i, by omega, by rw [hg]; exact h'⟩
theorem scanF_ne {α : Type} {g : Nat → Option α} {n k : Nat} (hk : k < n) (h : g k ≠ none) : scanF g n ≠ none := by
  intro hn
  cases hs : scanF g k with
  | some r =>
    have := scanF_stay hs (n - k)
    rw [show k + (n - k) = n by omega, hn] at this
    cases this
  | none =>
    cases hg : g k with
    | none => exact h hg
    | some r => rw [scanF_hit hs hg hk] at hn; cases hn
/-- The first order (lexicographically) that begins so, of n things, with P. -/
def firstO (n : Nat) (P : List Int → Bool) : Nat → List Int → Option (List Int)
  | 0, b => if P b = true then some b else none
  | d + 1, b => scanF (fun i => if hasB b (i : Int) = true then none else firstO n P d (b ++ [(i : Int)])) n
/-- The same, cut where the bound is passed. -/
def findO (n : Nat) (span : List Int → Int) (s : Int) : Nat → List Int → Option (List Int)
  | 0, b => if s < span b then none else some b
  | d + 1, b => if s < span b then none else scanF (fun i => if hasB b (i : Int) = true then none else findO n span s d (b ++ [(i : Int)])) n
theorem findO_succ (n : Nat) (span : List Int → Int) (s : Int) (d : Nat) (b : List Int) : findO n span s (d + 1) b = if s < span b then none else scanF (fun i => if hasB b (i : Int) = true then none else findO n span s d (b ++ [(i : Int)])) n := rfl
theorem firstO_sat {n : Nat} {P : List Int → Bool} : ∀ (d : Nat) {b r : List Int}, firstO n P d b = some r → P r = true ∧ ∃ c, r = b ++ c
  | 0, b, r, h => by
    unfold firstO at h
    split at h
    · injection h with h; subst h; exact ⟨by assumption, [], by simp⟩
    · cases h
  | d + 1, b, r, h => by
    unfold firstO at h
    obtain ⟨i, _, hg⟩ := scanF_some h
    split at hg
    · cases hg
    · obtain ⟨h1, c, hc⟩ := firstO_sat d hg
      exact ⟨h1, (i : Int) :: c, by rw [hc]; simp⟩
theorem firstO_perm {n : Nat} {P : List Int → Bool} : ∀ (d : Nat) {b r : List Int}, b.length + d = n → b.Nodup → (∀ x ∈ b, 0 ≤ x ∧ x < n) → firstO n P d b = some r → r.Perm (upto n)
  | 0, b, r, hl, hn, hb, h => by
    unfold firstO at h
    split at h
    · injection h with h
      subst h
      exact ordB_true (ord_of (by omega) (fun j x hx => by have := hb x (List.mem_of_getElem? hx); omega) hn)
    · cases h
  | d + 1, b, r, hl, hn, hb, h => by
    unfold firstO at h
    obtain ⟨i, hi, hg⟩ := scanF_some h
    split at hg
    · cases hg
    · rename_i hh
      have hm : (i : Int) ∉ b := by
        intro hm
        exact hh (decide_eq_true hm)
      refine firstO_perm d (by simp; omega) ?_ ?_ hg
      · rw [List.nodup_append]
        exact ⟨hn, by simp, fun a ha c hc => by simp at hc; subst hc; intro e; subst e; exact hm ha⟩
      · intro x hx
        rcases List.mem_append.1 hx with hx | hx
        · exact hb x hx
        · simp at hx; omega
/-- If some order with P begins so, one is found. -/
theorem firstO_some {n : Nat} {P : List Int → Bool} {R : List Int} (hR : R.Perm (upto n)) (hP : P R = true) : ∀ (d : Nat) {b c : List Int}, c.length = d → R = b ++ c → firstO n P d b ≠ none
  | 0, b, c, hc, h => by
    have : c = [] := List.eq_nil_of_length_eq_zero hc
    subst this
    rw [List.append_nil] at h
    subst h
    unfold firstO
    rw [hP]
    simp
  | d + 1, b, c, hc, h => by
    cases c with
    | nil => simp at hc
    | cons x c =>
      have hx : x ∈ upto n := hR.subset (by rw [h]; simp)
      obtain ⟨h0, h1⟩ := upto_mem'.1 hx
      obtain ⟨i, rfl⟩ := Int.eq_ofNat_of_zero_le h0
      have hnb : (i : Int) ∉ b := by
        have hnd : R.Nodup := hR.symm.nodup (upto_nodup n)
        rw [h, List.nodup_append] at hnd
        intro hm
        exact hnd.2.2 _ hm _ (by simp) rfl
      unfold firstO
      refine scanF_ne (k := i) (by omega) ?_
      have : hasB b (i : Int) = false := decide_eq_false hnb
      simp only [this, Bool.false_eq_true, if_false]
      exact firstO_some hR hP d (by simpa using hc) (by rw [h]; simp)
/-- Cutting loses nothing where no order is below the bound and spans grow. -/
theorem find_first {n : Nat} {span : List Int → Int} {s : Int} (hg : ∀ b c, span b ≤ span (b ++ c)) (hs : ∀ os : List Int, os.Perm (upto n) → s ≤ span os) : ∀ (d : Nat) {b : List Int}, b.length + d = n → b.Nodup → (∀ x ∈ b, 0 ≤ x ∧ x < n) → findO n span s d b = firstO n (fun os => decide (span os = s)) d b
  | 0, b, hl, hn, hb => by
    have hp := ordB_true (ord_of (n := n) (os := b) (by omega) (fun j x hx => by have := hb x (List.mem_of_getElem? hx); omega) hn)
    have := hs b hp
    unfold findO firstO
    by_cases h : s < span b
    · rw [if_pos h, if_neg (by simp; omega)]
    · rw [if_neg h, if_pos (by simp; omega)]
  | d + 1, b, hl, hn, hb => by
    by_cases h : s < span b
    · have e : findO n span s (d + 1) b = none := by unfold findO; rw [if_pos h]
      rw [e]
      cases hf : firstO n (fun os => decide (span os = s)) (d + 1) b with
      | none => rfl
      | some r =>
        obtain ⟨h1, c, hc⟩ := firstO_sat _ hf
        have h2 := of_decide_eq_true h1
        have h3 := hg b c
        rw [← hc] at h3
        omega
    · unfold findO firstO
      rw [if_neg h]
      refine scanF_congr n fun i hi => ?_
      cases hh : hasB b (i : Int) with
      | true => rfl
      | false =>
        have hm : (i : Int) ∉ b := of_decide_eq_false hh
        simp only [Bool.false_eq_true, if_false]
        refine find_first hg hs d (by simp; omega) ?_ ?_
        · rw [List.nodup_append]
          exact ⟨hn, by simp, fun a ha c hc => by simp at hc; subst hc; intro e; subst e; exact hm ha⟩
        · intro x hx
          rcases List.mem_append.1 hx with hx | hx
          · exact hb x hx
          · simp at hx; omega
theorem runJ_grow : ∀ (l : List (Int × Int)) (s : Int × Int), (∀ p ∈ l, 0 ≤ p.2) → s.2 ≤ (runJ s l).2
  | [], _, _ => Int.le_refl _
  | p :: l, s, h => by
    have h1 := runJ_grow l (stepJ s p) (fun q hq => h q (by simp [hq]))
    have h2 := h p (by simp)
    show s.2 ≤ (runJ (stepJ s p) l).2
    have : s.2 ≤ (stepJ s p).2 := by simp only [stepJ]; omega
    omega
/-- The span of a list of jobs in an order. -/
def spanL (ps : List (Int × Int)) (os : List Int) : Int := (runJ (0, 0) (os.map (jobF ps))).2
theorem spanL_grow {ps : List (Int × Int)} (h : ∀ p ∈ ps, 0 ≤ p.2) (b c : List Int) : spanL ps b ≤ spanL ps (b ++ c) := by
  unfold spanL
  rw [List.map_append, runJ_append]
  refine runJ_grow _ _ fun p hp => ?_
  obtain ⟨i, _, rfl⟩ := List.mem_map.1 hp
  unfold jobF
  simp only [List.getD]
  cases hq : ps[i.toNat]? with
  | none => simp
  | some q => exact h q (List.mem_of_getElem? hq)
end Go.Proofs.Ytfjmohnlllbgmaa
