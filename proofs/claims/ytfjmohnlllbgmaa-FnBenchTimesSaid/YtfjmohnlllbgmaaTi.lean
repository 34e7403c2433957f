/- The two benches' times (pure part). Plain lemmas; no program. -/
import Derived.Test.YtfjmohnlllbgmaaJo
namespace Go.Proofs.Ytfjmohnlllbgmaa

/-- What is known behind some jobs: when each one has been at the first bench, begins and ends at the second one; when both benches are free. -/
structure Tim where
  F : List Int
  B : List Int
  S : List Int
  a : Int
  b : Int
def Tim.step (t : Tim) (i : Nat) (p : Int × Int) : Tim :=
  ⟨t.F.set i (t.a + p.1), t.B.set i (max (t.a + p.1) t.b), t.S.set i (max (t.a + p.1) t.b + p.2), t.a + p.1, max (t.a + p.1) t.b + p.2⟩
def timK (ps : List (Int × Int)) (os : List Int) : Nat → Tim
  | 0 => ⟨List.replicate ps.length 0, List.replicate ps.length 0, List.replicate ps.length 0, 0, 0⟩
  | k + 1 => match os[k]? with
    | some i => match ps[i.toNat]? with
      | some p => (timK ps os k).step i.toNat p
      | none => timK ps os k
    | none => timK ps os k
theorem tim_step {ps : List (Int × Int)} {os : List Int} {k i : Nat} {t : Tim} {p : Int × Int} (h : timK ps os k = t) (ho : os[k]? = some (i : Int)) (hp : ps[i]? = some p) : timK ps os (k + 1) = t.step i p := by
  unfold timK
  rw [ho]
  simp only [Int.toNat_natCast]
  rw [hp, h]
structure TimB (n k : Nat) (t : Tim) : Prop where
  fl : t.F.length = n
  bl : t.B.length = n
  sl : t.S.length = n
  a0 : 0 ≤ t.a
  a1 : t.a ≤ 1000 * k
  b0 : 0 ≤ t.b
  b1 : t.b ≤ 2000 * k
  fb : ∀ (j : Nat) (x : Int), t.F[j]? = some x → 0 ≤ x ∧ x ≤ 1000 * k
  bb : ∀ (j : Nat) (x : Int), t.B[j]? = some x → 0 ≤ x ∧ x ≤ 2000 * k
  sb : ∀ (j : Nat) (x : Int), t.S[j]? = some x → 0 ≤ x ∧ x ≤ 2000 * k
theorem get_set_casesT {l : List Int} {i j : Nat} {v x : Int} (h : (l.set i v)[j]? = some x) : x = v ∨ l[j]? = some x := by
  rw [List.getElem?_set] at h
  split at h
  · split at h
    · injection h with h; exact .inl h.symm
    · cases h
  · exact .inr h
theorem timB0 (n : Nat) : TimB n 0 ⟨List.replicate n 0, List.replicate n 0, List.replicate n 0, 0, 0⟩ := by
  have hz : ∀ (j : Nat) (x : Int), (List.replicate n (0 : Int))[j]? = some x → x = 0 := by
    intro j x h
    rw [List.getElem?_replicate] at h
    split at h
    · injection h with h; exact h.symm
    · cases h
  refine ⟨by simp, by simp, by simp, Int.le_refl _, by simp, Int.le_refl _, by simp, ?_, ?_, ?_⟩ <;> (intro j x h; have := hz j x h; omega)
theorem TimB.step {n k : Nat} {t : Tim} (h : TimB n k t) {i : Nat} {p : Int × Int} (hp : 1 ≤ p.1 ∧ p.1 ≤ 1000) (hq : 1 ≤ p.2 ∧ p.2 ≤ 1000) : TimB n (k + 1) (t.step i p) := by
  obtain ⟨h1, h2, h3, h4, h5, h6, h7, h8, h9, h10⟩ := h
  refine ⟨by simp [Tim.step, h1], by simp [Tim.step, h2], by simp [Tim.step, h3], ?_, ?_, ?_, ?_, fun j x hx => ?_, fun j x hx => ?_, fun j x hx => ?_⟩
  · simp only [Tim.step]; omega
  · simp only [Tim.step]; omega
  · simp only [Tim.step]; omega
  · simp only [Tim.step]; omega
  · rcases get_set_casesT hx with e | e
    · omega
    · have := h8 j x e; omega
  · rcases get_set_casesT hx with e | e
    · omega
    · have := h9 j x e; omega
  · rcases get_set_casesT hx with e | e
    · omega
    · have := h10 j x e; omega
def jobF (ps : List (Int × Int)) (i : Int) : Int × Int := ps.getD i.toNat (0, 0)
theorem jobF_at {ps : List (Int × Int)} {i : Nat} {p : Int × Int} (h : ps[i]? = some p) : jobF ps (i : Int) = p := by
  unfold jobF
  simp [List.getD, h]
theorem runJ_snoc (s : Int × Int) (l : List (Int × Int)) (p : Int × Int) : runJ s (l ++ [p]) = stepJ (runJ s l) p := by
  rw [runJ_append]; rfl
/-- The two benches go as the rule's lemmas say. -/
theorem tim_run {ps : List (Int × Int)} {os : List Int} (hb : ∀ (j : Nat) (i : Int), os[j]? = some i → 0 ≤ i ∧ i < ps.length) : ∀ k, k ≤ os.length → ((timK ps os k).a, (timK ps os k).b) = runJ (0, 0) ((os.take k).map (jobF ps))
  | 0, _ => by simp [timK, runJ]
  | k + 1, hk => by
    have hk' := List.getElem?_eq_getElem (l := os) (i := k) (by omega)
    have hi := hb k _ hk'
    obtain ⟨i, hi'⟩ := Int.eq_ofNat_of_zero_le hi.1
    rw [hi'] at hk' hi
    have hp := List.getElem?_eq_getElem (l := ps) (i := i) (by omega)
    have ht : os.take (k + 1) = os.take k ++ [(i : Int)] := by
      rw [List.take_add_one, hk']
      rfl
    rw [tim_step rfl hk' hp, ht, List.map_append, List.map_cons, List.map_nil, runJ_snoc, ← tim_run hb k (by omega), jobF_at hp]
    rfl
/-- The job that came last ends when the second bench is free. -/
theorem tim_last {n k : Nat} {t : Tim} (h : TimB n k t) {i : Nat} (hi : i < n) (p : Int × Int) : (t.step i p).S.getD i 0 = (t.step i p).b := by
  simp only [Tim.step, List.getD]
  rw [List.getElem?_set_self (by rw [h.sl]; exact hi)]
  rfl
/-- Jobs that have come: the end is the begin and the time that it takes, and none begins before it has been at the first bench. -/
theorem tim_rel {ps : List (Int × Int)} {os : List Int} (hb : ∀ (j : Nat) (i : Int), os[j]? = some i → 0 ≤ i ∧ i < ps.length) : ∀ k, k ≤ os.length → ∀ i : Nat, (i : Int) ∈ os.take k → (timK ps os k).S.getD i 0 = (timK ps os k).B.getD i 0 + (jobF ps (i : Int)).2 ∧ (timK ps os k).F.getD i 0 ≤ (timK ps os k).B.getD i 0
  | 0, _, i, h => by simp at h
  | k + 1, hk, i, h => by
    have hk' := List.getElem?_eq_getElem (l := os) (i := k) (by omega)
    have hj := hb k _ hk'
    obtain ⟨j, hj'⟩ := Int.eq_ofNat_of_zero_le hj.1
    rw [hj'] at hk' hj
    have hp := List.getElem?_eq_getElem (l := ps) (i := j) (by omega)
    have ht : os.take (k + 1) = os.take k ++ [(j : Int)] := by
      rw [List.take_add_one, hk']
      rfl
    rw [ht] at h
    rw [tim_step rfl hk' hp]
    have hlen : ∀ k, (timK ps os k).F.length = ps.length ∧ (timK ps os k).B.length = ps.length ∧ (timK ps os k).S.length = ps.length := by
      intro k
      induction k with
      | zero => simp [timK]
      | succ k ih =>
        unfold timK
        split
        · split
          · simp [Tim.step, ih]
          · exact ih
        · exact ih
    obtain ⟨l1, l2, l3⟩ := hlen k
    by_cases e : i = j
    · subst e
      simp only [Tim.step, List.getD]
      rw [List.getElem?_set_self (by omega), List.getElem?_set_self (by omega), List.getElem?_set_self (by omega), jobF_at hp]
      simp
      omega
    · have hm : (i : Int) ∈ os.take k := by
        rcases List.mem_append.1 h with h | h
        · exact h
        · simp at h; omega
      have ih := tim_rel hb k (by omega) i hm
      simp only [Tim.step, List.getD]
      rw [List.getElem?_set_ne (by omega), List.getElem?_set_ne (by omega), List.getElem?_set_ne (by omega)]
      exact ih
end Go.Proofs.Ytfjmohnlllbgmaa
