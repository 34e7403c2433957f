/- Orders: insertion, the rule for two benches (Johnson's), that no order has a lesser span; which lists are orders. Plain lemmas; no program. -/
import Derived.Test.YtiibhejjeijdaaaDoorCore
namespace Go.Proofs.YtiibhejjeijdaaaDoor

/-- A job goes over both benches: when the first one and the second one are free. -/
def stepJ (s p : Int × Int) : Int × Int := (s.1 + p.1, max (s.1 + p.1) s.2 + p.2)
def runJ (s : Int × Int) : List (Int × Int) → Int × Int
  | [] => s
  | p :: l => runJ (stepJ s p) l
theorem runJ_append (s : Int × Int) : ∀ l m : List (Int × Int), runJ s (l ++ m) = runJ (runJ s l) m
  | [], _ => rfl
  | p :: l, m => by
    show runJ (stepJ s p) (l ++ m) = _
    rw [runJ_append (stepJ s p) l m]
    rfl
theorem runJ_mono : ∀ (l : List (Int × Int)) {s t : Int × Int}, s.1 ≤ t.1 → s.2 ≤ t.2 → (runJ s l).1 ≤ (runJ t l).1 ∧ (runJ s l).2 ≤ (runJ t l).2
  | [], _, _, h1, h2 => ⟨h1, h2⟩
  | p :: l, s, t, h1, h2 => by
    show (runJ (stepJ s p) l).1 ≤ (runJ (stepJ t p) l).1 ∧ (runJ (stepJ s p) l).2 ≤ (runJ (stepJ t p) l).2
    apply runJ_mono l
    · simp only [stepJ]; omega
    · simp only [stepJ]; omega
/-- Does a come before b by the rule? -/
def beforeJ (a b : Int × Int) : Bool :=
  if decide (a.1 < a.2) != decide (b.1 < b.2) then decide (a.1 < a.2) else if decide (a.1 < a.2) = true then decide (a.1 < b.1) else decide (b.2 < a.2)
theorem beforeJ_iff (a b : Int × Int) : beforeJ a b = true ↔ (a.1 < a.2 ∧ (b.2 ≤ b.1 ∨ a.1 < b.1)) ∨ (a.2 ≤ a.1 ∧ b.2 ≤ b.1 ∧ b.2 < a.2) := by
  unfold beforeJ
  by_cases h1 : a.1 < a.2 <;> by_cases h2 : b.1 < b.2 <;> simp [h1, h2] <;> omega
/-- x then y is no worse than y then x. -/
theorem swapJ (s x y : Int × Int) (l : List (Int × Int)) (h : beforeJ y x = false) : (runJ s (x :: y :: l)).2 ≤ (runJ s (y :: x :: l)).2 := by
  have h' : ¬ ((y.1 < y.2 ∧ (x.2 ≤ x.1 ∨ y.1 < x.1)) ∨ (y.2 ≤ y.1 ∧ x.2 ≤ x.1 ∧ x.2 < y.2)) := by
    rw [← beforeJ_iff, h]; simp
  show (runJ (stepJ (stepJ s x) y) l).2 ≤ (runJ (stepJ (stepJ s y) x) l).2
  refine (runJ_mono l ?_ ?_).2
  · simp only [stepJ]; omega
  · simp only [stepJ]; omega

/-- The rule, ties by the indices: a total order. -/
def ltT (f : Int → Int × Int) (i j : Int) : Bool := beforeJ (f i) (f j) || (!beforeJ (f j) (f i) && decide (i < j))
theorem ltT_asymm {f : Int → Int × Int} {i j : Int} (h : ltT f i j = true) : ltT f j i = false := by
  unfold ltT at *
  have a := beforeJ_iff (f i) (f j)
  have b := beforeJ_iff (f j) (f i)
  cases h1 : beforeJ (f i) (f j) <;> cases h2 : beforeJ (f j) (f i) <;> simp [h1, h2] at h a b ⊢ <;> omega
theorem ltT_trans {f : Int → Int × Int} {i j k : Int} (h : ltT f i j = true) (h' : ltT f j k = true) : ltT f i k = true := by
  unfold ltT at *
  have a := beforeJ_iff (f i) (f j)
  have b := beforeJ_iff (f j) (f i)
  have c := beforeJ_iff (f j) (f k)
  have d := beforeJ_iff (f k) (f j)
  have e := beforeJ_iff (f i) (f k)
  have g := beforeJ_iff (f k) (f i)
  cases h1 : beforeJ (f i) (f j) <;> cases h2 : beforeJ (f j) (f i) <;> simp [h1, h2] at h a b <;>
    cases h3 : beforeJ (f j) (f k) <;> cases h4 : beforeJ (f k) (f j) <;> simp [h3, h4] at h' c d <;>
    cases h5 : beforeJ (f i) (f k) <;> cases h6 : beforeJ (f k) (f i) <;> simp [h5, h6] at e g ⊢ <;> omega
theorem ltT_total {f : Int → Int × Int} {i j : Int} (h : ltT f i j = false) : i = j ∨ ltT f j i = true := by
  unfold ltT at *
  cases h1 : beforeJ (f i) (f j) <;> cases h2 : beforeJ (f j) (f i) <;> simp [h1, h2] at h ⊢ <;> omega
theorem ltT_no {f : Int → Int × Int} {i j : Int} (h : ltT f i j = true) : beforeJ (f j) (f i) = false := by
  unfold ltT at h
  have a := beforeJ_iff (f i) (f j)
  have b := beforeJ_iff (f j) (f i)
  cases h1 : beforeJ (f i) (f j) <;> cases h2 : beforeJ (f j) (f i) <;> simp [h1, h2] at h a b ⊢ <;> omega
/-- Two rising lists of the same elements are one. -/
theorem rise_unique {lt : Int → Int → Bool} (has : ∀ i j, lt i j = true → lt j i = false) : ∀ {l m : List Int}, l.Pairwise (fun i j => lt i j = true) → m.Pairwise (fun i j => lt i j = true) → l.Perm m → l = m
  | [], m, _, _, h => by simpa using h.symm.eq_nil.symm
  | a :: l, [], _, _, h => by simpa using h.eq_nil
  | a :: l, b :: m, h1, h2, h => by
    have h1' := List.pairwise_cons.1 h1
    have h2' := List.pairwise_cons.1 h2
    have e : a = b := by
      have ha : a ∈ b :: m := h.subset (by simp)
      have hb : b ∈ a :: l := h.symm.subset (by simp)
      rcases List.mem_cons.1 ha with ha | ha
      · exact ha
      rcases List.mem_cons.1 hb with hb | hb
      · exact hb.symm
      have x1 := h2'.1 a ha
      have x2 := has _ _ (h1'.1 b hb)
      rw [x1] at x2
      cases x2
    subst e
    rw [rise_unique has h1'.2 h2'.2 h.cons_inv]
theorem getD_of {l : List Int} {j : Nat} (h : j < l.length) : l[j]? = some (l.getD j 0) := by
  simp [List.getD, List.getElem?_eq_getElem h]
def upto (n : Nat) : List Int := (List.range n).map fun i : Nat => (i : Int)
theorem upto_len (n : Nat) : (upto n).length = n := by simp [upto]
def posK (lt : Int → Int → Bool) (l : List Int) (x : Int) : Nat → Nat
  | 0 => 0
  | k + 1 => if lt x (l.getD k 0) = true then posK lt l x k else k + 1
theorem posK_le (lt : Int → Int → Bool) (l : List Int) (x : Int) : ∀ k, posK lt l x k ≤ k
  | 0 => Nat.le_refl _
  | k + 1 => by
    unfold posK
    split
    · have := posK_le lt l x k; omega
    · omega
def insK (lt : Int → Int → Bool) (l : List Int) (x : Int) : List Int := l.take (posK lt l x l.length) ++ x :: l.drop (posK lt l x l.length)
def sortK (lt : Int → Int → Bool) (os : List Int) : Nat → List Int
  | 0 => []
  | k + 1 => insK lt (sortK lt os k) (os.getD k 0)
theorem insK_len (lt : Int → Int → Bool) (l : List Int) (x : Int) : (insK lt l x).length = l.length + 1 := by
  have := posK_le lt l x l.length
  unfold insK
  simp
  omega
theorem sortK_len (lt : Int → Int → Bool) (os : List Int) : ∀ k, (sortK lt os k).length = k
  | 0 => rfl
  | k + 1 => by unfold sortK; rw [insK_len, sortK_len lt os k]
def stA (L : List Int) (x : Int) (j : Nat) (rest : List Int) : List Int := L.take j ++ x :: (L.drop j ++ rest)
theorem stA_start {L : List Int} {x : Int} {rest : List Int} : stA L x L.length rest = L ++ x :: rest := by unfold stA; simp
theorem stA_end {lt : Int → Int → Bool} {L : List Int} {x : Int} {rest : List Int} : stA L x (posK lt L x L.length) rest = insK lt L x ++ rest := by unfold stA insK; simp
theorem insJ_le (f : Int → Int × Int) (s : Int × Int) (L : List Int) (x : Int) (R : List Int) : ∀ k, k ≤ L.length → (runJ s ((stA L x (posK (ltT f) L x k) R).map f)).2 ≤ (runJ s ((stA L x k R).map f)).2
  | 0, _ => Int.le_refl _
  | k + 1, hk => by
    have hd : L.drop k = L.getD k 0 :: L.drop (k + 1) := by
      rw [List.drop_eq_getElem_cons (by omega)]
      simp [List.getD, List.getElem?_eq_getElem (by omega : k < L.length)]
    have ht : L.take (k + 1) = L.take k ++ [L.getD k 0] := by
      rw [List.take_add_one, getD_of (by omega)]
      rfl
    unfold posK
    split
    · rename_i hlt
      refine Int.le_trans (insJ_le f s L x R k (by omega)) ?_
      unfold stA
      rw [hd, ht]
      simp only [List.map_append, List.map_cons, List.append_assoc, List.cons_append, List.nil_append]
      rw [runJ_append, runJ_append]
      exact swapJ _ _ _ _ (ltT_no hlt)
    · exact Int.le_refl _
theorem sort_split' (lt : Int → Int → Bool) {os : List Int} {k : Nat} (hk : k < os.length) : sortK lt os k ++ os.drop k = stA (sortK lt os k) (os.getD k 0) (sortK lt os k).length (os.drop (k + 1)) := by
  rw [stA_start]
  have hd : os.drop k = os.getD k 0 :: os.drop (k + 1) := by
    rw [List.drop_eq_getElem_cons hk]
    simp [List.getD, List.getElem?_eq_getElem hk]
  rw [hd]
theorem sortJ_le (f : Int → Int × Int) (s : Int × Int) (os : List Int) : ∀ k, k ≤ os.length → (runJ s ((sortK (ltT f) os k ++ os.drop k).map f)).2 ≤ (runJ s (os.map f)).2
  | 0, _ => by simp [sortK]
  | k + 1, hk => by
    refine Int.le_trans ?_ (sortJ_le f s os k (by omega))
    rw [sort_split' _ (by omega : k < os.length)]
    have := insJ_le f s (sortK (ltT f) os k) (os.getD k 0) (os.drop (k + 1)) _ (Nat.le_refl _)
    rw [stA_end] at this
    exact this
theorem insK_perm (lt : Int → Int → Bool) (l : List Int) (x : Int) : (insK lt l x).Perm (l ++ [x]) := by
  unfold insK
  have h1 : (l.take (posK lt l x l.length) ++ x :: l.drop (posK lt l x l.length)).Perm (x :: (l.take (posK lt l x l.length) ++ l.drop (posK lt l x l.length))) := List.perm_middle
  rw [List.take_append_drop] at h1
  exact h1.trans (List.perm_append_singleton x l).symm
theorem sortK_perm (lt : Int → Int → Bool) (os : List Int) : ∀ k, k ≤ os.length → (sortK lt os k).Perm (os.take k)
  | 0, _ => by simp [sortK]
  | k + 1, hk => by
    unfold sortK
    have ht : os.take (k + 1) = os.take k ++ [os.getD k 0] := by
      rw [List.take_add_one, getD_of (by omega)]
      rfl
    rw [ht]
    exact (insK_perm _ _ _).trans ((sortK_perm lt os k (by omega)).append_right _)
theorem posK_after {lt : Int → Int → Bool} {l : List Int} {x : Int} : ∀ {k j : Nat}, posK lt l x k ≤ j → j < k → lt x (l.getD j 0) = true
  | 0, j, _, h => absurd h (Nat.not_lt_zero _)
  | k + 1, j, h1, h2 => by
    unfold posK at h1
    split at h1
    · rename_i hlt
      by_cases e : j = k
      · subst e; exact hlt
      · exact posK_after h1 (by omega)
    · omega
theorem posK_at {lt : Int → Int → Bool} {l : List Int} {x : Int} : ∀ {k p : Nat}, posK lt l x k = p + 1 → lt x (l.getD p 0) = false
  | 0, p, h => by simp [posK] at h
  | k + 1, p, h => by
    unfold posK at h
    split at h
    · exact posK_at h
    · rename_i hlt
      have : k = p := by omega
      subst this
      simpa using hlt
theorem insK_rise {lt : Int → Int → Bool} (htr : ∀ i j k, lt i j = true → lt j k = true → lt i k = true) (hto : ∀ i j, lt i j = false → i = j ∨ lt j i = true) {l : List Int} {x : Int} (h : l.Pairwise (fun i j => lt i j = true)) (hx : x ∉ l) : (insK lt l x).Pairwise (fun i j => lt i j = true) := by
  have hle := posK_le lt l x l.length
  unfold insK
  have hafter : ∀ y ∈ l.drop (posK lt l x l.length), lt x y = true := by
    intro y hy
    obtain ⟨j, hj⟩ := List.getElem?_of_mem hy
    rw [List.getElem?_drop] at hj
    have hlt := (List.getElem?_eq_some_iff.1 hj).1
    have := posK_after (lt := lt) (l := l) (x := x) (k := l.length) (j := posK lt l x l.length + j) (by omega) hlt
    rw [getD_of hlt] at hj
    injection hj with hj
    rw [hj] at this
    exact this
  have hpre : ∀ y ∈ l.take (posK lt l x l.length), lt y x = true := by
    intro y hy
    cases hp : posK lt l x l.length with
    | zero => rw [hp] at hy; simp at hy
    | succ p =>
      have hf := posK_at hp
      have hpl : p < l.length := by omega
      have hmem : l.getD p 0 ∈ l := List.mem_of_getElem? (getD_of hpl)
      have hlast : lt (l.getD p 0) x = true := by
        rcases hto _ _ hf with e | e
        · rw [← e] at hmem; exact absurd hmem hx
        · exact e
      rw [hp] at hy
      obtain ⟨j, hj⟩ := List.getElem?_of_mem hy
      have hjl := (List.getElem?_eq_some_iff.1 hj).1
      rw [List.length_take] at hjl
      rw [List.getElem?_take_of_lt (by omega)] at hj
      by_cases e : j = p
      · subst e
        rw [getD_of hpl] at hj
        injection hj with hj
        rw [← hj]
        exact hlast
      · have hpw := List.pairwise_iff_getElem.1 h j p (by omega) hpl (by omega)
        rw [List.getElem?_eq_getElem (by omega)] at hj
        injection hj with hj
        rw [hj] at hpw
        have : l[p] = l.getD p 0 := by simp [List.getD, List.getElem?_eq_getElem hpl]
        rw [this] at hpw
        exact htr _ _ _ hpw hlast
  rw [List.pairwise_append]
  refine ⟨h.sublist (List.take_sublist _ _), List.pairwise_cons.2 ⟨hafter, h.sublist (List.drop_sublist _ _)⟩, fun a ha b hb => ?_⟩
  rcases List.mem_cons.1 hb with rfl | hb
  · exact hpre a ha
  · exact htr _ _ _ (hpre a ha) (hafter b hb)
theorem sortK_rise {lt : Int → Int → Bool} (htr : ∀ i j k, lt i j = true → lt j k = true → lt i k = true) (hto : ∀ i j, lt i j = false → i = j ∨ lt j i = true) {os : List Int} (hn : os.Nodup) : ∀ k, k ≤ os.length → (sortK lt os k).Pairwise (fun i j => lt i j = true)
  | 0, _ => by simp [sortK]
  | k + 1, hk => by
    unfold sortK
    refine insK_rise htr hto (sortK_rise htr hto hn k (by omega)) fun hm => ?_
    have hm' := (sortK_perm lt os k (by omega)).subset hm
    obtain ⟨j, hj⟩ := List.getElem?_of_mem hm'
    have hjl := (List.getElem?_eq_some_iff.1 hj).1
    rw [List.length_take] at hjl
    rw [List.getElem?_take_of_lt (by omega), List.getElem?_eq_getElem (by omega)] at hj
    injection hj with hj
    have hk' : os.getD k 0 = os[k] := by simp [List.getD, List.getElem?_eq_getElem (by omega : k < os.length)]
    rw [hk'] at hj
    have := List.pairwise_iff_getElem.1 hn j k (by omega) (by omega) (by omega)
    exact this hj
theorem posK_congr {lt lt' : Int → Int → Bool} {l : List Int} {x : Int} (h : ∀ y ∈ l, lt x y = lt' x y) : ∀ k, k ≤ l.length → posK lt l x k = posK lt' l x k
  | 0, _ => rfl
  | k + 1, hk => by
    unfold posK
    rw [h _ (List.mem_of_getElem? (getD_of (by omega))), posK_congr h k (by omega)]
theorem insK_congr {lt lt' : Int → Int → Bool} {l : List Int} {x : Int} (h : ∀ y ∈ l, lt x y = lt' x y) : insK lt l x = insK lt' l x := by
  unfold insK
  rw [posK_congr h _ (Nat.le_refl _)]
theorem uptoD {n k : Nat} (hk : k < n) : (upto n).getD k 0 = (k : Int) := by simp [upto, List.getD, hk]
theorem upto_take {n k : Nat} (hk : k ≤ n) : (upto n).take k = upto k := by
  unfold upto
  rw [← List.map_take, List.take_range, Nat.min_eq_left hk]
theorem upto_mem' {n : Nat} {i : Int} : i ∈ upto n ↔ 0 ≤ i ∧ i < n := by
  unfold upto
  rw [List.mem_map]
  constructor
  · rintro ⟨a, ha, rfl⟩
    have := List.mem_range.1 ha
    omega
  · intro h
    exact ⟨i.toNat, List.mem_range.2 (by omega), by omega⟩
theorem upto_nodup (n : Nat) : (upto n).Nodup := by
  unfold upto
  rw [List.nodup_iff_pairwise_ne, List.pairwise_map]
  have := List.nodup_range (n := n)
  exact this.imp fun h => by omega
/-- The rule's order is the one of the total order. -/
theorem sort_total (f : Int → Int × Int) (n : Nat) : ∀ k, k ≤ n → sortK (fun i j => beforeJ (f i) (f j)) (upto n) k = sortK (ltT f) (upto n) k
  | 0, _ => rfl
  | k + 1, hk => by
    unfold sortK
    rw [sort_total f n k (by omega)]
    refine insK_congr fun y hy => ?_
    have hm := (sortK_perm (ltT f) (upto n) k (by rw [upto_len]; omega)).subset hy
    rw [upto_take (by omega), upto_mem'] at hm
    rw [uptoD (by omega)]
    unfold ltT
    have : decide ((k : Int) < y) = false := by simp; omega
    rw [this]
    simp
/-- No order has a lesser span than the one by the rule. -/
theorem rule_least (f : Int → Int × Int) (s : Int × Int) (n : Nat) {os : List Int} (h : os.Perm (upto n)) : (runJ s ((sortK (fun i j => beforeJ (f i) (f j)) (upto n) n).map f)).2 ≤ (runJ s (os.map f)).2 := by
  have hl : os.length = n := by rw [h.length_eq, upto_len]
  have hle := sortJ_le f s os n (by omega)
  rw [List.drop_of_length_le (by omega), List.append_nil] at hle
  rw [sort_total f n n (Nat.le_refl _)]
  have hn : os.Nodup := h.symm.nodup (upto_nodup n)
  have e : sortK (ltT f) os n = sortK (ltT f) (upto n) n := by
    refine rise_unique (lt := ltT f) (fun _ _ => ltT_asymm) (sortK_rise (lt := ltT f) (fun _ _ _ => ltT_trans) (fun _ _ => ltT_total) hn n (by omega)) (sortK_rise (lt := ltT f) (fun _ _ _ => ltT_trans) (fun _ _ => ltT_total) (upto_nodup n) n (by rw [upto_len]; exact Nat.le_refl _)) ?_
    refine (sortK_perm _ _ n (by omega)).trans ?_
    rw [List.take_of_length_le (by omega)]
    refine h.trans ?_
    refine List.Perm.trans ?_ (sortK_perm _ _ n (by rw [upto_len]; exact Nat.le_refl _)).symm
    rw [List.take_of_length_le (by rw [upto_len]; exact Nat.le_refl _)]
  rw [← e]
  exact hle
theorem getD_left {l m : List Int} {k : Nat} (h : k < l.length) : (l ++ m).getD k 0 = l.getD k 0 := by
  simp only [List.getD]
  rw [List.getElem?_append_left h]
theorem getD_right {l m : List Int} {k : Nat} : (l ++ m).getD (l.length + k) 0 = m.getD k 0 := by
  simp only [List.getD]
  rw [List.getElem?_append_right (by omega)]
  simp
theorem posK_left (lt : Int → Int → Bool) (l m : List Int) (x : Int) : ∀ k, k ≤ l.length → posK lt (l ++ m) x k = posK lt l x k
  | 0, _ => rfl
  | k + 1, hk => by
    unfold posK
    rw [getD_left (by omega), posK_left lt l m x k (by omega)]
theorem posK_over {lt : Int → Int → Bool} {l m : List Int} {x : Int} (h : ∀ y ∈ m, lt x y = true) : ∀ k, k ≤ m.length → posK lt (l ++ m) x (l.length + k) = posK lt l x l.length
  | 0, _ => posK_left lt l m x _ (Nat.le_refl _)
  | k + 1, hk => by
    rw [← Nat.add_assoc]
    unfold posK
    rw [getD_right, h _ (List.mem_of_getElem? (getD_of (by omega))), if_pos rfl, posK_over h k (by omega)]
    cases l <;> rfl
theorem posK_none {lt : Int → Int → Bool} {l : List Int} {x : Int} (h : ∀ y ∈ l, lt x y = false) {k : Nat} (hk : k ≤ l.length) : posK lt l x k = k := by
  cases k with
  | zero => rfl
  | succ k =>
    unfold posK
    rw [h _ (List.mem_of_getElem? (getD_of (by omega)))]
    simp
theorem posK_stop {lt : Int → Int → Bool} {l m : List Int} {x : Int} (h : ∀ y ∈ l, lt x y = false) : ∀ k, k ≤ m.length → posK lt (l ++ m) x (l.length + k) = l.length + posK lt m x k
  | 0, _ => by
    rw [Nat.add_zero, posK_left lt l m x _ (Nat.le_refl _), posK_none h (Nat.le_refl _)]
    rfl
  | k + 1, hk => by
    rw [← Nat.add_assoc]
    unfold posK
    rw [getD_right, posK_stop h k (by omega)]
    split <;> omega
theorem insK_over {lt : Int → Int → Bool} {l m : List Int} {x : Int} (h : ∀ y ∈ m, lt x y = true) : insK lt (l ++ m) x = insK lt l x ++ m := by
  unfold insK
  rw [List.length_append, posK_over h _ (Nat.le_refl _)]
  have hp := posK_le lt l x l.length
  rw [List.take_append_of_le_length hp, List.drop_append_of_le_length hp]
  simp
theorem insK_stop {lt : Int → Int → Bool} {l m : List Int} {x : Int} (h : ∀ y ∈ l, lt x y = false) : insK lt (l ++ m) x = l ++ insK lt m x := by
  unfold insK
  rw [List.length_append, posK_stop h _ (Nat.le_refl _)]
  rw [List.take_length_add_append, List.drop_length_add_append]
  simp
theorem sortK_left (lt : Int → Int → Bool) (l m : List Int) : ∀ k, k ≤ l.length → sortK lt (l ++ m) k = sortK lt l k
  | 0, _ => rfl
  | k + 1, hk => by
    unfold sortK
    rw [sortK_left lt l m k (by omega), getD_left (by omega)]
/-- All of a list, sorted. -/
def sortA (lt : Int → Int → Bool) (l : List Int) : List Int := sortK lt l l.length
theorem sortA_snoc (lt : Int → Int → Bool) (l : List Int) (x : Int) : sortA lt (l ++ [x]) = insK lt (sortA lt l) x := by
  unfold sortA
  rw [List.length_append]
  show insK lt (sortK lt (l ++ [x]) l.length) ((l ++ [x]).getD l.length 0) = _
  rw [sortK_left lt l [x] _ (Nat.le_refl _)]
  have : (l ++ [x]).getD l.length 0 = x := by simp [List.getD]
  rw [this]
theorem sortA_mem {lt : Int → Int → Bool} {l : List Int} {y : Int} (h : y ∈ sortA lt l) : y ∈ l := by
  have := (sortK_perm lt l l.length (Nat.le_refl _)).subset h
  rw [List.take_length] at this
  exact this
def isF (f : Int → Int × Int) (i : Int) : Bool := decide ((f i).1 < (f i).2)
def ltF (f : Int → Int × Int) (i j : Int) : Bool := decide ((f i).1 < (f j).1)
def ltS (f : Int → Int × Int) (i j : Int) : Bool := decide ((f j).2 < (f i).2)
theorem sortA_upto (lt : Int → Int → Bool) (n : Nat) : sortA lt (upto (n + 1)) = insK lt (sortA lt (upto n)) (n : Int) := by
  have : upto (n + 1) = upto n ++ [(n : Int)] := by simp [upto, List.range_succ]
  rw [this, sortA_snoc]
/-- The order by the rule: the jobs with the lesser first part by it, then the others by the second part. -/
theorem rule_parts (f : Int → Int × Int) : ∀ n, sortA (fun i j => beforeJ (f i) (f j)) (upto n) = sortA (ltF f) ((upto n).filter (isF f)) ++ sortA (ltS f) ((upto n).filter fun i => !isF f i)
  | 0 => rfl
  | n + 1 => by
    rw [sortA_upto, rule_parts f n]
    have hu : upto (n + 1) = upto n ++ [(n : Int)] := by simp [upto, List.range_succ]
    rw [hu, List.filter_append, List.filter_append]
    have hmA : ∀ y ∈ sortA (ltF f) ((upto n).filter (isF f)), isF f y = true := fun y hy => (List.mem_filter.1 (sortA_mem hy)).2
    have hmB : ∀ y ∈ sortA (ltS f) ((upto n).filter fun i => !isF f i), isF f y = false := fun y hy => by
      have := (List.mem_filter.1 (sortA_mem hy)).2
      simpa using this
    cases hx : isF f (n : Int) with
    | true =>
      simp only [hx, List.filter_cons_of_pos, List.filter_nil, Bool.not_true, Bool.false_eq_true, not_false_eq_true, List.filter_cons_of_neg, List.append_nil]
      rw [insK_over, sortA_snoc, insK_congr (lt' := ltF f)]
      · intro y hy
        have := hmA y hy
        unfold isF at hx this
        unfold beforeJ ltF
        rw [hx, this]
        simp
      · intro y hy
        have := hmB y hy
        unfold isF at hx this
        unfold beforeJ
        rw [hx, this]
        simp
    | false =>
      simp only [hx, List.filter_cons_of_pos, List.filter_nil, Bool.not_false, Bool.false_eq_true, not_false_eq_true, List.filter_cons_of_neg, List.append_nil]
      rw [insK_stop, sortA_snoc, insK_congr (lt' := ltS f)]
      · intro y hy
        have := hmB y hy
        unfold isF at hx this
        unfold beforeJ ltS
        rw [hx, this]
        simp
      · intro y hy
        have := hmA y hy
        unfold isF at hx this
        unfold beforeJ
        rw [hx, this]
        simp
theorem inc_ge {s : List Int} (h0 : ∀ (j : Nat) (x : Int), s[j]? = some x → 0 ≤ x) (hs : ∀ (j : Nat) (x y : Int), s[j]? = some x → s[j + 1]? = some y → x < y) : ∀ (j : Nat) (x : Int), s[j]? = some x → (j : Int) ≤ x
  | 0, x, h => by have := h0 0 x h; omega
  | j + 1, y, h => by
    have hj : j < s.length := by have := (List.getElem?_eq_some_iff.1 h).1; omega
    have hx := List.getElem?_eq_getElem hj
    have h1 := inc_ge h0 hs j _ hx
    have h2 := hs j _ _ hx h
    omega
theorem inc_le {s : List Int} (h0 : ∀ (j : Nat) (x : Int), s[j]? = some x → x ≤ (s.length : Int) - 1) (hs : ∀ (j : Nat) (x y : Int), s[j]? = some x → s[j + 1]? = some y → x < y) : ∀ (d j : Nat) (x : Int), j + d + 1 = s.length → s[j]? = some x → x ≤ (j : Int)
  | 0, j, x, hd, h => by have := h0 j x h; omega
  | d + 1, j, x, hd, h => by
    have hy := List.getElem?_eq_getElem (l := s) (i := j + 1) (by omega)
    have h1 := inc_le h0 hs d (j + 1) _ (by omega) hy
    have h2 := hs j _ _ h hy
    omega
theorem upto_at {n k : Nat} (hk : k < n) : (upto n)[k]? = some (k : Int) := by
  have := getD_of (l := upto n) (j := k) (by rw [upto_len]; exact hk)
  rw [uptoD hk] at this
  exact this
theorem inc_upto {s : List Int} (h0 : ∀ (j : Nat) (x : Int), s[j]? = some x → 0 ≤ x ∧ x ≤ (s.length : Int) - 1) (hs : ∀ (j : Nat) (x y : Int), s[j]? = some x → s[j + 1]? = some y → x < y) : s = upto s.length := by
  apply List.ext_getElem?
  intro j
  by_cases hj : j < s.length
  · have hx := List.getElem?_eq_getElem hj
    have h1 := inc_ge (fun j x h => (h0 j x h).1) hs j _ hx
    have h2 := inc_le (fun j x h => (h0 j x h).2) hs (s.length - (j + 1)) j _ (by omega) hx
    rw [upto_at hj, hx]
    congr 1
    omega
  · rw [List.getElem?_eq_none (by omega), List.getElem?_eq_none (by rw [upto_len]; omega)]
/-- Is a list an order of n things? -/
def ordB (n : Nat) (os : List Int) : Bool := decide (os.Perm (upto n))
theorem ordB_true {n : Nat} {os : List Int} (h : ordB n os = true) : os.Perm (upto n) := of_decide_eq_true h
theorem ordB_false {n : Nat} {os : List Int} (h : ¬ os.Perm (upto n)) : ordB n os = false := decide_eq_false h
def okI (s : List Int) (lo hi : Int) (i : Nat) : Bool := inB (s.getD i 0) lo hi && (decide (i = 0) || decide (s.getD (i - 1) 0 < s.getD i 0))
/-- Does a list rise within bounds? -/
def incB (s : List Int) (lo hi : Int) : Bool := (List.range s.length).all (okI s lo hi)
theorem incB_of {s : List Int} {lo hi : Int} (h : ∀ i, i < s.length → okI s lo hi i = true) : incB s lo hi = true := by
  unfold incB
  rw [List.all_eq_true]
  intro i hi'
  exact h i (List.mem_range.1 hi')
theorem incB_not {s : List Int} {lo hi : Int} {i : Nat} (hl : i < s.length) (h : okI s lo hi i = false) : incB s lo hi = false := by
  unfold incB
  rw [List.all_eq_false]
  exact ⟨i, List.mem_range.2 hl, by rw [h]; simp⟩
theorem incB_at {s : List Int} {lo hi : Int} (h : incB s lo hi = true) : (∀ (j : Nat) (x : Int), s[j]? = some x → lo ≤ x ∧ x ≤ hi) ∧ ∀ (j : Nat) (x y : Int), s[j]? = some x → s[j + 1]? = some y → x < y := by
  unfold incB at h
  rw [List.all_eq_true] at h
  constructor
  · intro j x hx
    have hj := (List.getElem?_eq_some_iff.1 hx).1
    have := h j (List.mem_range.2 hj)
    unfold okI at this
    rw [Bool.and_eq_true] at this
    have e := getD_of hj
    rw [hx] at e
    injection e with e
    rw [← e] at this
    exact inB_true this.1
  · intro j x y hx hy
    have hj := (List.getElem?_eq_some_iff.1 hy).1
    have := h (j + 1) (List.mem_range.2 hj)
    unfold okI at this
    rw [Bool.and_eq_true] at this
    have e := getD_of hj
    rw [hy] at e
    injection e with e
    have e' := getD_of (l := s) (j := j) (by omega)
    rw [hx] at e'
    injection e' with e'
    rw [Nat.add_sub_cancel, ← e, ← e'] at this
    simpa using this.2
theorem incB_upto (n : Nat) : incB (upto n) 0 ((n : Int) - 1) = true := by
  refine incB_of fun i hi => ?_
  rw [upto_len] at hi
  unfold okI
  rw [uptoD hi, Bool.and_eq_true]
  refine ⟨inB_mk (by omega) (by omega), ?_⟩
  by_cases h0 : i = 0
  · simp [h0]
  · rw [uptoD (by omega)]
    simp
    omega
theorem rise_le {s : List Int} (h : s.Pairwise (· ≤ ·)) (hn : s.Nodup) : s.Pairwise (fun i j => decide (i < j) = true) := by
  rw [List.nodup_iff_pairwise_ne] at hn
  exact (h.and hn).imp fun h => by simp; omega
/-- The program's test: the sorted list rises, and has the right length. -/
theorem ord_sorted {n : Nat} {os s : List Int} (hp : s.Perm os) (hs : s.Pairwise (· ≤ ·)) : (decide (os.length = n) && incB s 0 ((n : Int) - 1)) = ordB n os := by
  by_cases hl : os.length = n
  · have hsl : s.length = n := by rw [hp.length_eq, hl]
    cases hi : incB s 0 ((n : Int) - 1) with
    | true =>
      obtain ⟨h1, h2⟩ := incB_at hi
      have := inc_upto (s := s) (by rw [hsl]; exact h1) h2
      rw [hsl] at this
      unfold ordB
      rw [this] at hp
      simp [hl, hp.symm]
    | false =>
      rw [ordB_false, Bool.and_false]
      intro hq
      have hsu : s.Perm (upto n) := hp.trans hq
      have hsn : s.Nodup := hsu.symm.nodup (upto_nodup n)
      have e : s = upto n := by
        refine rise_unique (lt := fun i j => decide (i < j)) (fun i j h => by simp at h ⊢; omega) (rise_le hs hsn) (rise_le ?_ (upto_nodup n)) hsu
        unfold upto
        rw [List.pairwise_map]
        exact List.pairwise_le_range.imp fun h => by omega
      rw [e, incB_upto] at hi
      cases hi
  · rw [ordB_false fun hq => hl (by rw [hq.length_eq, upto_len])]
    simp [hl]
/-- The reference's test: within bounds, none twice, and the right length. -/
theorem ord_of {n : Nat} {os : List Int} (hl : os.length = n) (hb : ∀ (j : Nat) (x : Int), os[j]? = some x → 0 ≤ x ∧ x ≤ (n : Int) - 1) (hn : os.Nodup) : ordB n os = true := by
  have hr := sortK_rise (lt := fun i j => decide (i < j)) (fun i j k h h' => by simp at h h' ⊢; omega) (fun i j h => by simp at h ⊢; omega) hn n (by omega)
  have hp := sortK_perm (fun i j => decide (i < j)) os n (by omega)
  rw [List.take_of_length_le (by omega)] at hp
  have hsl := sortK_len (fun i j => decide (i < j)) os n
  generalize sortK (fun i j => decide (i < j)) os n = s at *
  have e := inc_upto (s := s) (fun j x hx => by
    obtain ⟨i, hi⟩ := List.getElem?_of_mem (hp.subset (List.mem_of_getElem? hx))
    have := hb i x hi
    omega) (fun j x y hx hy => by
    obtain ⟨hj, rfl⟩ := List.getElem?_eq_some_iff.1 hx
    obtain ⟨hj', rfl⟩ := List.getElem?_eq_some_iff.1 hy
    have := List.pairwise_iff_getElem.1 hr j (j + 1) hj hj' (by omega)
    simpa using this)
  rw [hsl] at e
  rw [e] at hp
  unfold ordB
  simp [hp.symm]
theorem ord_len {n : Nat} {os : List Int} (h : os.length ≠ n) : ordB n os = false := ordB_false fun hq => h (by rw [hq.length_eq, upto_len])
theorem ord_out {n : Nat} {os : List Int} {j : Nat} {x : Int} (hx : os[j]? = some x) (h : x < 0 ∨ (n : Int) - 1 < x) : ordB n os = false := ordB_false fun hq => by
  have := upto_mem'.1 (hq.subset (List.mem_of_getElem? hx))
  omega
theorem ord_twice {n : Nat} {os : List Int} {i j : Nat} {x : Int} (hx : os[i]? = some x) (hy : os[j]? = some x) (h : i < j) : ordB n os = false := ordB_false fun hq => by
  have hn : os.Nodup := hq.symm.nodup (upto_nodup n)
  obtain ⟨hi, rfl⟩ := List.getElem?_eq_some_iff.1 hx
  obtain ⟨hj, e⟩ := List.getElem?_eq_some_iff.1 hy
  exact List.pairwise_iff_getElem.1 hn i j hi hj h e.symm
end Go.Proofs.YtiibhejjeijdaaaDoor
