/- FnBenchTimes, plain: what the times of an order say of one another; how often a letter stands in a line. -/
import Derived.Test.YtfjmohnlllbgmaaCh
namespace Go.Proofs.Ytfjmohnlllbgmaa

/-- The order's i-th job: its final times are those that it was given in its step. -/
structure StepT (ps : List (Int × Int)) (os : List Int) (n i k : Nat) : Prop where
  f : (timK ps os n).F.getD k 0 = (timK ps os (i + 1)).a
  b : (timK ps os n).B.getD k 0 = max (timK ps os (i + 1)).a (timK ps os i).b
  s : (timK ps os n).S.getD k 0 = (timK ps os (i + 1)).b
  a1 : (timK ps os (i + 1)).a = (timK ps os i).a + (ps.getD k (0, 0)).1
  b1 : (timK ps os (i + 1)).b = max (timK ps os (i + 1)).a (timK ps os i).b + (ps.getD k (0, 0)).2
theorem tim_lens (ps : List (Int × Int)) (os : List Int) : ∀ k, (timK ps os k).F.length = ps.length ∧ (timK ps os k).B.length = ps.length ∧ (timK ps os k).S.length = ps.length
  | 0 => by simp [timK]
  | k + 1 => by
    have ih := tim_lens ps os k
    unfold timK
    split
    · split
      · simp [Tim.step, ih]
      · exact ih
    · exact ih
theorem step_time {ps : List (Int × Int)} {os : List Int} (hb : ∀ (j : Nat) (i : Int), os[j]? = some i → 0 ≤ i ∧ i < ps.length) {i k : Nat} (hk : os[i]? = some (k : Int)) :
    ∃ p, ps[k]? = some p ∧ timK ps os (i + 1) = (timK ps os i).step k p := by
  have h := hb i _ hk
  have hp := List.getElem?_eq_getElem (l := ps) (i := k) (by omega)
  exact ⟨_, hp, tim_step rfl hk hp⟩
/-- A job that does not come any more keeps its times. -/
theorem tim_keep {ps : List (Int × Int)} {os : List Int} (hb : ∀ (j : Nat) (i : Int), os[j]? = some i → 0 ≤ i ∧ i < ps.length) {i k : Nat} : ∀ d, i + d ≤ os.length → (∀ j, i ≤ j → j < i + d → os[j]? ≠ some (k : Int)) →
    (timK ps os (i + d)).F.getD k 0 = (timK ps os i).F.getD k 0 ∧ (timK ps os (i + d)).B.getD k 0 = (timK ps os i).B.getD k 0 ∧ (timK ps os (i + d)).S.getD k 0 = (timK ps os i).S.getD k 0
  | 0, _, _ => ⟨rfl, rfl, rfl⟩
  | d + 1, hd, hn => by
    have ih := tim_keep hb (i := i) (k := k) d (by omega) (fun j h1 h2 => hn j h1 (by omega))
    have hx := List.getElem?_eq_getElem (l := os) (i := i + d) (by omega)
    have hj := hb (i + d) _ hx
    obtain ⟨q, hq⟩ := Int.eq_ofNat_of_zero_le hj.1
    rw [hq] at hx
    have hqk : q ≠ k := fun e => hn (i + d) (by omega) (by omega) (by rw [hx, e])
    obtain ⟨p, _, hp⟩ := step_time hb hx
    have e1 : ∀ (l : List Int) (v : Int), (l.set q v).getD k 0 = l.getD k 0 := fun l v => by
      simp only [List.getD]
      rw [List.getElem?_set_ne hqk]
    show (timK ps os (i + d + 1)).F.getD k 0 = _ ∧ (timK ps os (i + d + 1)).B.getD k 0 = _ ∧ (timK ps os (i + d + 1)).S.getD k 0 = _
    rw [hp]
    refine ⟨?_, ?_, ?_⟩
    · exact (e1 _ _).trans ih.1
    · exact (e1 _ _).trans ih.2.1
    · exact (e1 _ _).trans ih.2.2
theorem perm_nodup {n : Nat} {os : List Int} (h : os.Perm (upto n)) : os.Nodup := h.symm.nodup (upto_nodup n)
theorem nodup_at {os : List Int} (h : os.Nodup) {i j : Nat} {x : Int} (hi : os[i]? = some x) (hj : os[j]? = some x) : i = j := by
  obtain ⟨h1, e1⟩ := List.getElem?_eq_some_iff.1 hi
  obtain ⟨h2, e2⟩ := List.getElem?_eq_some_iff.1 hj
  exact (List.getElem_inj h).1 (e1.trans e2.symm)
theorem step_all {ps : List (Int × Int)} {os : List Int} {n i k : Nat} (hl : ps.length = n) (hp : os.Perm (upto n)) (hk : os[i]? = some (k : Int)) : StepT ps os n i k := by
  obtain ⟨hlo, hin⟩ := perm_in hp
  have hb : ∀ (j : Nat) (i : Int), os[j]? = some i → 0 ≤ i ∧ i < ps.length := fun j x hx => by have := hin j x hx; omega
  have hi := (List.getElem?_eq_some_iff.1 hk).1
  obtain ⟨p, hpk, hst⟩ := step_time hb hk
  have hkp := (List.getElem?_eq_some_iff.1 hpk).1
  have hg : ps.getD k (0, 0) = p := by simp [List.getD, hpk]
  obtain ⟨l1, l2, l3⟩ := tim_lens ps os i
  have hkeep := tim_keep hb (i := i + 1) (k := k) (n - (i + 1)) (by omega) (fun j h1 h2 h3 => by
    have := nodup_at (perm_nodup hp) hk h3
    omega)
  rw [show i + 1 + (n - (i + 1)) = n by omega] at hkeep
  obtain ⟨k1, k2, k3⟩ := hkeep
  have g : ∀ (l : List Int) (v : Int), l.length = ps.length → (l.set k v).getD k 0 = v := fun l v h => by
    simp only [List.getD]
    rw [List.getElem?_set_self (by omega)]
    rfl
  have ea : (timK ps os (i + 1)).a = (timK ps os i).a + p.1 := by rw [hst]; rfl
  have eb : (timK ps os (i + 1)).b = max ((timK ps os i).a + p.1) (timK ps os i).b + p.2 := by rw [hst]; rfl
  refine ⟨?_, ?_, ?_, by rw [hg]; exact ea, by rw [hg, ea]; exact eb⟩
  · rw [k1, ea, hst]
    exact g _ _ l1
  · rw [k2, ea, hst]
    exact g _ _ l2
  · rw [k3, eb, hst]
    exact g _ _ l3
/-- The last letter that was drawn over minute t, where the jobs do not lie over one another. -/
theorem chK_iff {lo hi : Nat → Int} {M : Nat} (hd : ∀ i j, i < j → j < M → ∀ t : Int, lo i ≤ t → t < hi i → lo j ≤ t → t < hi j → False) (t : Nat) : ∀ n i, i < n → n ≤ M → (chK lo hi n t = 97 + (i : Int) ↔ lo i ≤ (t : Int) ∧ (t : Int) < hi i)
  | 0, i, h, _ => by omega
  | n + 1, i, h, hn => by
    by_cases hc : lo n ≤ (t : Int) ∧ (t : Int) < hi n
    · rw [chK_yes hc]
      by_cases e : i = n
      · subst e; exact ⟨fun _ => hc, fun _ => rfl⟩
      · exact ⟨fun h1 => by omega, fun h1 => (hd i n (by omega) (by omega) t h1.1 h1.2 hc.1 hc.2).elim⟩
    · rw [chK_no hc]
      by_cases e : i = n
      · subst e
        refine ⟨fun h1 => ?_, fun h1 => (hc h1).elim⟩
        exfalso
        have : ∀ m, m ≤ i → chK lo hi m t < 97 + (i : Int) := fun m => by
          induction m with
          | zero => intro _; show (46 : Int) < _; omega
          | succ m ih =>
            intro hm
            by_cases hc2 : lo m ≤ (t : Int) ∧ (t : Int) < hi m
            · rw [chK_yes hc2]; omega
            · rw [chK_no hc2]; exact ih (by omega)
        have := this i (Nat.le_refl _)
        omega
      · exact chK_iff hd t n i (by omega) (by omega)
/-- How many minutes ahead of k show the letter of job i. -/
def cntK (lo hi : Int) : Nat → Int
  | 0 => 0
  | k + 1 => if lo ≤ (k : Int) ∧ (k : Int) < hi then cntK lo hi k + 1 else cntK lo hi k
theorem cntK_eq {lo hi : Int} (h0 : 0 ≤ lo) (h1 : lo ≤ hi) : ∀ k : Nat, cntK lo hi k = if (k : Int) ≤ lo then 0 else if (k : Int) ≤ hi then (k : Int) - lo else hi - lo
  | 0 => by rw [if_pos (by omega)]; rfl
  | k + 1 => by
    show (if _ then _ else _) = _
    rw [cntK_eq h0 h1 k]
    by_cases hc : lo ≤ (k : Int) ∧ (k : Int) < hi
    · rw [if_pos hc, if_neg (show ¬ ((k + 1 : Nat) : Int) ≤ lo by omega), if_pos (show ((k + 1 : Nat) : Int) ≤ hi by omega)]
      by_cases e : (k : Int) ≤ lo
      · rw [if_pos e]; omega
      · rw [if_neg e, if_pos (show (k : Int) ≤ hi by omega)]; omega
    · rw [if_neg hc]
      by_cases e : (k : Int) < lo
      · rw [if_pos (show (k : Int) ≤ lo by omega), if_pos (show ((k + 1 : Nat) : Int) ≤ lo by omega)]
      · have hk : hi ≤ (k : Int) := by omega
        by_cases e2 : (k : Int) ≤ lo
        · rw [if_pos e2, if_neg (show ¬ ((k + 1 : Nat) : Int) ≤ lo by omega), if_neg (show ¬ ((k + 1 : Nat) : Int) ≤ hi by omega)]; omega
        · rw [if_neg e2, if_neg (show ¬ ((k + 1 : Nat) : Int) ≤ lo by omega), if_neg (show ¬ ((k + 1 : Nat) : Int) ≤ hi by omega)]
          by_cases e3 : (k : Int) ≤ hi
          · rw [if_pos e3]; omega
          · rw [if_neg e3]
/-- All of them. -/
theorem cntK_all {lo hi : Int} {N : Nat} (h0 : 0 ≤ lo) (h1 : lo ≤ hi) (h2 : hi ≤ N) : cntK lo hi N = hi - lo := by
  rw [cntK_eq h0 h1]
  by_cases e : (N : Int) ≤ lo
  · rw [if_pos e]; omega
  · rw [if_neg e]
    by_cases e2 : (N : Int) ≤ hi
    · rw [if_pos e2]; omega
    · rw [if_neg e2]
end Go.Proofs.Ytfjmohnlllbgmaa
