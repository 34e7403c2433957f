/- What must be done before what: ways, sets as bits, marks, orders (pure part). Plain lemmas; no program. -/
import Derived.Test.YtgghjieeckkpbaaDoorJo
namespace Go.Proofs.YtgghjieeckkpbaaDoor

/-- The first hit among g 0, .., g (n - 1). -/
def scanF {α : Type} (g : Nat → Option α) : Nat → Option α
  | 0 => none
  | n + 1 => match scanF g n with
    | some r => some r
    | none => g n
theorem scanF_next {α : Type} {g : Nat → Option α} {k : Nat} (h : scanF g k = none) : scanF g (k + 1) = g k := by
  show (match scanF g k with | some r => some r | none => g k) = g k
  rw [h]
theorem scanF_stay {α : Type} {g : Nat → Option α} {k : Nat} {r : α} (h : scanF g k = some r) : ∀ d, scanF g (k + d) = some r
  | 0 => h
  | d + 1 => by
    show (match scanF g (k + d) with | some r => some r | none => g (k + d)) = some r
    rw [scanF_stay h d]
theorem scanF_hit {α : Type} {g : Nat → Option α} {k n : Nat} {r : α} (h : scanF g k = none) (hr : g k = some r) (hk : k < n) : scanF g n = some r := by
  have h1 : scanF g (k + 1) = some r := by rw [scanF_next h, hr]
  have := scanF_stay h1 (n - (k + 1))
  rw [show k + 1 + (n - (k + 1)) = n by omega] at this
  exact this
theorem scanF_congr {α : Type} {g g' : Nat → Option α} : ∀ n, (∀ i, i < n → g i = g' i) → scanF g n = scanF g' n
  | 0, _ => rfl
  | n + 1, h => by
    show (match scanF g n with | some r => some r | none => g n) = (match scanF g' n with | some r => some r | none => g' n)
    rw [scanF_congr n (fun i hi => h i (by omega)), h n (by omega)]
theorem scanF_some {α : Type} {g : Nat → Option α} {r : α} : ∀ {n : Nat}, scanF g n = some r → ∃ i, i < n ∧ g i = some r
  | 0, h => by cases h
  | n + 1, h => by
    have h' : (match scanF g n with | some r => some r | none => g n) = some r := h
    cases hs : scanF g n with
    | none => rw [hs] at h'; exact ⟨n, by omega, h'⟩
    | some q =>
      rw [hs] at h'
      obtain ⟨i, hi, hg⟩ := scanF_some (r := q) hs
      exact ⟨i, by omega, by rw [hg]; exact h'⟩
theorem scanF_ne {α : Type} {g : Nat → Option α} {n k : Nat} (hk : k < n) (h : g k ≠ none) : scanF g n ≠ none := by
  intro hn
  cases hs : scanF g k with
  | some r =>
    have := scanF_stay hs (n - k)
    rw [show k + (n - k) = n by omega, hn] at this
    cases this
  | none =>
    cases hg : g k with
    | none => exact h hg
    | some r => rw [scanF_hit hs hg hk] at hn; cases hn
/-- A way from i to k over the places l, by edges. -/
def Pth (E : Nat → Nat → Prop) (i : Nat) : List Nat → Nat → Prop
  | [], k => E i k
  | j :: l, k => E i j ∧ Pth E j l k
/-- Is there a way from i to k? -/
def Rch (E : Nat → Nat → Prop) (i k : Nat) : Prop := ∃ l, Pth E i l k
theorem Rch.one {E : Nat → Nat → Prop} {i k : Nat} (h : E i k) : Rch E i k := ⟨[], h⟩
theorem Rch.more {E : Nat → Nat → Prop} {i j k : Nat} (h : E i j) (h' : Rch E j k) : Rch E i k := by
  obtain ⟨l, hl⟩ := h'
  exact ⟨j :: l, h, hl⟩
theorem pth_app {E : Nat → Nat → Prop} : ∀ {l1 : List Nat} {i j k : Nat} {l2 : List Nat}, Pth E i (l1 ++ j :: l2) k → Pth E i l1 j ∧ Pth E j l2 k
  | [], _, _, _, _, h => ⟨h.1, h.2⟩
  | _ :: l1, _, _, _, _, h => by
    obtain ⟨h1, h2⟩ := h
    obtain ⟨h3, h4⟩ := pth_app (l1 := l1) h2
    exact ⟨⟨h1, h3⟩, h4⟩
theorem pth_join {E : Nat → Nat → Prop} : ∀ {l1 : List Nat} {i j k : Nat} {l2 : List Nat}, Pth E i l1 j → Pth E j l2 k → Pth E i (l1 ++ j :: l2) k
  | [], _, _, _, _, h, h' => ⟨h, h'⟩
  | _ :: _, _, _, _, _, h, h' => ⟨h.1, pth_join h.2 h'⟩
theorem Rch.trans {E : Nat → Nat → Prop} {i j k : Nat} (h : Rch E i j) (h' : Rch E j k) : Rch E i k := by
  obtain ⟨l, hl⟩ := h
  obtain ⟨m, hm⟩ := h'
  exact ⟨_, pth_join hl hm⟩
/-- The last step of a way. -/
theorem Rch.last {E : Nat → Nat → Prop} {i k : Nat} (h : Rch E i k) : E i k ∨ ∃ j, Rch E i j ∧ E j k := by
  obtain ⟨l, hl⟩ := h
  induction l generalizing i with
  | nil => exact .inl hl
  | cons j l ih =>
    rcases ih hl.2 with h | ⟨m, h1, h2⟩
    · exact .inr ⟨j, .one hl.1, h⟩
    · exact .inr ⟨m, .more hl.1 h1, h2⟩
/-- A way that comes to no place twice. -/
theorem pth_short {E : Nat → Nat → Prop} : ∀ {l : List Nat} {i k : Nat}, Pth E i l k → ∃ m, Pth E i m k ∧ (i :: m).Nodup
  | [], i, _, h => ⟨[], h, by simp⟩
  | j :: l, i, k, h => by
    obtain ⟨m, hm, hn⟩ := pth_short h.2
    by_cases hi : i ∈ j :: m
    · obtain ⟨a, b, hab⟩ := List.append_of_mem hi
      refine ⟨b, ?_, ?_⟩
      · cases a with
        | nil =>
          simp only [List.nil_append, List.cons.injEq] at hab
          obtain ⟨rfl, rfl⟩ := hab
          exact hm
        | cons x a =>
          simp only [List.cons_append, List.cons.injEq] at hab
          obtain ⟨rfl, rfl⟩ := hab
          exact (pth_app hm).2
      · rw [hab] at hn
        exact hn.sublist (List.sublist_append_right a (i :: b))
    · exact ⟨j :: m, ⟨h.1, hm⟩, List.nodup_cons.2 ⟨hi, hn⟩⟩
/-- No list of different numbers below n is longer than n. -/
theorem nodup_le {l : List Int} {n : Nat} (hn : l.Nodup) (hb : ∀ x ∈ l, 0 ≤ x ∧ x < n) : l.length ≤ n := by
  have hr := sortK_rise (lt := fun i j => decide (i < j)) (fun i j k h h' => by simp at h h' ⊢; omega) (fun i j h => by simp at h ⊢; omega) hn l.length (Nat.le_refl _)
  have hp := sortK_perm (fun i j => decide (i < j)) l l.length (Nat.le_refl _)
  rw [List.take_length] at hp
  have hl := hp.length_eq
  generalize sortK (fun i j => decide (i < j)) l l.length = s at *
  rw [← hl]
  cases hs : s.length with
  | zero => omega
  | succ m =>
    have hx := List.getElem?_eq_getElem (l := s) (i := m) (by omega)
    have h1 := inc_ge (s := s) (fun j x hx => (hb x (hp.subset (List.mem_of_getElem? hx))).1) (fun j x y hx hy => by
      obtain ⟨hj, rfl⟩ := List.getElem?_eq_some_iff.1 hx
      obtain ⟨hj', rfl⟩ := List.getElem?_eq_some_iff.1 hy
      have := List.pairwise_iff_getElem.1 hr j (j + 1) hj hj' (by omega)
      simpa using this) m _ hx
    have h2 := hb _ (hp.subset (List.mem_of_getElem? hx))
    omega
theorem nodup_leN {l : List Nat} {n : Nat} (hn : l.Nodup) (hb : ∀ x ∈ l, x < n) : l.length ≤ n := by
  have := nodup_le (l := l.map fun x : Nat => (x : Int)) (n := n) (by
    rw [List.nodup_iff_pairwise_ne, List.pairwise_map]
    rw [List.nodup_iff_pairwise_ne] at hn
    exact hn.imp fun h => by omega) (fun x hx => by
    obtain ⟨y, hy, rfl⟩ := List.mem_map.1 hx
    have := hb y hy
    omega)
  simpa using this
theorem pth_mem {E : Nat → Nat → Prop} {n : Nat} (hE : ∀ i k, E i k → i < n ∧ k < n) : ∀ {l : List Nat} {i k : Nat}, Pth E i l k → ∀ x ∈ i :: l, x < n
  | [], i, k, h, x, hx => by simp at hx; subst hx; exact (hE _ _ h).1
  | j :: l, i, k, h, x, hx => by
    rcases List.mem_cons.1 hx with rfl | hx
    · exact (hE _ _ h.1).1
    · exact pth_mem hE h.2 x hx
/-- A way has at most n steps, if there are n places. -/
theorem rch_len {E : Nat → Nat → Prop} {n i k : Nat} (hE : ∀ i k, E i k → i < n ∧ k < n) (h : Rch E i k) : ∃ l, Pth E i l k ∧ l.length < n := by
  obtain ⟨l, hl⟩ := h
  obtain ⟨m, hm, hn⟩ := pth_short hl
  have := nodup_leN hn (pth_mem hE hm)
  exact ⟨m, hm, by simp at this; omega⟩
/-- Edges: what stands in the lists. -/
def Eb (bfs : List (List Int)) (i k : Nat) : Prop := (k : Int) ∈ bfs.getD i []
def mAt (M : List Nat) (i : Nat) : Nat := M.getD i 0
/-- One step: i takes k, and what k has. -/
def setM (M : List Nat) (i k : Nat) : List Nat := M.set i (mAt M i ||| (2 ^ k ||| mAt M k))
theorem setM_len (M : List Nat) (i k : Nat) : (setM M i k).length = M.length := by simp [setM]
theorem setM_at {M : List Nat} {i k a : Nat} (hi : i < M.length) : mAt (setM M i k) a = if a = i then mAt M i ||| (2 ^ k ||| mAt M k) else mAt M a := by
  unfold setM mAt
  simp only [List.getD]
  by_cases h : a = i
  · subst h
    rw [List.getElem?_set_self hi, if_pos rfl]
    rfl
  · rw [List.getElem?_set_ne (by omega), if_neg h]
theorem bit_or (x y b : Nat) : (x ||| y).testBit b = (x.testBit b || y.testBit b) := Nat.testBit_or x y b
theorem bit_pow (k b : Nat) : (2 ^ k).testBit b = decide (k = b) := Nat.testBit_two_pow
def MonoM (M M' : List Nat) : Prop := M.length = M'.length ∧ ∀ a b, (mAt M a).testBit b = true → (mAt M' a).testBit b = true
theorem MonoM.refl (M : List Nat) : MonoM M M := ⟨rfl, fun _ _ h => h⟩
theorem MonoM.trans {M M' M'' : List Nat} (h : MonoM M M') (h' : MonoM M' M'') : MonoM M M'' := ⟨h.1.trans h'.1, fun a b x => h'.2 a b (h.2 a b x)⟩
theorem mono_set (M : List Nat) (i k : Nat) : MonoM M (setM M i k) := by
  refine ⟨(setM_len _ _ _).symm, fun a b h => ?_⟩
  by_cases hi : i < M.length
  · rw [setM_at hi]
    split
    · rename_i e
      subst e
      rw [bit_or, h]
      rfl
    · exact h
  · have : setM M i k = M := by unfold setM; exact List.set_eq_of_length_le (by omega)
    rw [this]
    exact h
/-- What the sets hold lies before. -/
def SndM (bfs : List (List Int)) (M : List Nat) : Prop := ∀ a b, (mAt M a).testBit b = true → Rch (Eb bfs) a b
theorem SndM.step {bfs : List (List Int)} {M : List Nat} (h : SndM bfs M) {i k : Nat} (hi : i < M.length) (he : Eb bfs i k) : SndM bfs (setM M i k) := by
  intro a b hb
  rw [setM_at hi] at hb
  split at hb
  · rename_i e
    subst e
    rw [bit_or, bit_or, bit_pow] at hb
    simp only [Bool.or_eq_true, decide_eq_true_eq] at hb
    rcases hb with hb | rfl | hb
    · exact h _ _ hb
    · exact .one he
    · exact .more he (h _ _ hb)
  · exact h _ _ hb
/-- The sets hold all that lies before by at most r steps. -/
def CmpM (bfs : List (List Int)) (r : Nat) (M : List Nat) : Prop := ∀ i k l, Pth (Eb bfs) i l k → l.length < r → (mAt M i).testBit k = true
theorem CmpM.mono {bfs : List (List Int)} {r : Nat} {M M' : List Nat} (h : CmpM bfs r M) (hm : MonoM M M') : CmpM bfs r M' := fun i k l hp hl => hm.2 _ _ (h i k l hp hl)
/-- i holds all that lies before by at most r + 1 steps, the first one to one of the places js. -/
def RowM (bfs : List (List Int)) (r : Nat) (js : List Int) (i : Nat) (M : List Nat) : Prop :=
  ∀ j k : Nat, (j : Int) ∈ js → ((mAt M i).testBit j = true ∧ ∀ l, Pth (Eb bfs) j l k → l.length < r → (mAt M i).testBit k = true)
theorem RowM.mono {bfs : List (List Int)} {r i : Nat} {js : List Int} {M M' : List Nat} (h : RowM bfs r js i M) (hm : MonoM M M') : RowM bfs r js i M' := fun j k hj =>
  ⟨hm.2 _ _ (h j k hj).1, fun l hp hl => hm.2 _ _ ((h j k hj).2 l hp hl)⟩
theorem RowM.step {bfs : List (List Int)} {r i q : Nat} {js : List Int} {M : List Nat} (h : RowM bfs r js i M) (hc : CmpM bfs r M) (hi : i < M.length) : RowM bfs r (js ++ [(q : Int)]) i (setM M i q) := by
  intro j k hj
  rcases List.mem_append.1 hj with hj | hj
  · exact h.mono (mono_set M i q) j k hj
  · simp only [List.mem_singleton] at hj
    have : j = q := by omega
    subst this
    rw [setM_at hi, if_pos rfl]
    constructor
    · rw [bit_or, bit_or, bit_pow]; simp
    · intro l hp hl
      rw [bit_or, bit_or, hc j k l hp hl]
      simp
/-- A row that is done. -/
theorem row_done {bfs : List (List Int)} {r i : Nat} {M : List Nat} (h : RowM bfs r (bfs.getD i []) i M) : ∀ k l, Pth (Eb bfs) i l k → l.length < r + 1 → (mAt M i).testBit k = true := by
  intro k l hp hl
  cases l with
  | nil => exact (h k k hp).1
  | cons j l => exact (h j k hp.1).2 l hp.2 (by simpa using hl)
theorem eb_lt {bfs : List (List Int)} {n : Nat} (hl : bfs.length = n) (hb : ∀ (i : Nat) (x : Int), x ∈ bfs.getD i [] → 0 ≤ x ∧ x < n) : ∀ i k, Eb bfs i k → i < n ∧ k < n := by
  intro i k h
  refine ⟨?_, by have := hb i _ h; omega⟩
  apply Nat.lt_of_not_le
  intro hle
  have : bfs.getD i [] = [] := by simp [List.getD, List.getElem?_eq_none (show bfs.length ≤ i by omega)]
  unfold Eb at h
  rw [this] at h
  simp at h
theorem rch_lt {E : Nat → Nat → Prop} {n : Nat} (hE : ∀ i k, E i k → i < n ∧ k < n) {i k : Nat} (h : Rch E i k) : i < n ∧ k < n := by
  obtain ⟨l, hl⟩ := h
  induction l generalizing i with
  | nil => exact hE _ _ hl
  | cons j l ih => exact ⟨(hE _ _ hl.1).1, (ih hl.2).2⟩
/-- Behind n rounds the sets are just what lies before. -/
theorem all_done {bfs : List (List Int)} {n : Nat} {M : List Nat} (hE : ∀ i k, Eb bfs i k → i < n ∧ k < n) (hs : SndM bfs M) (hc : CmpM bfs n M) (i k : Nat) : (mAt M i).testBit k = true ↔ Rch (Eb bfs) i k :=
  ⟨hs i k, fun h => by
    obtain ⟨l, hp, hl⟩ := rch_len hE h
    exact hc i k l hp hl⟩
theorem mask_lt {bfs : List (List Int)} {n : Nat} {M : List Nat} (hE : ∀ i k, Eb bfs i k → i < n ∧ k < n) (hs : SndM bfs M) (i : Nat) : mAt M i < 2 ^ n := by
  apply Nat.lt_pow_two_of_testBit
  intro b hb
  cases h : (mAt M i).testBit b with
  | false => rfl
  | true => have := (rch_lt hE (hs i b h)).2; omega
theorem cmp0 (bfs : List (List Int)) (M : List Nat) : CmpM bfs 0 M := fun _ _ _ _ h => absurd h (Nat.not_lt_zero _)
def seenAt (s : List Bool) (x : Nat) : Bool := s.getD x false
theorem seen_set {s : List Bool} {x a : Nat} (hx : x < s.length) : seenAt (s.set x true) a = if a = x then true else seenAt s a := by
  unfold seenAt
  simp only [List.getD]
  by_cases h : a = x
  · subst h
    rw [List.getElem?_set_self hx, if_pos rfl]
    rfl
  · rw [List.getElem?_set_ne (by omega), if_neg h]
/-- What holds while the reference looks for all that lies before k: T is what was found. -/
structure BfI (bfs : List (List Int)) (n k : Nat) (s : List Bool) (T : List Int) : Prop where
  sl : s.length = n
  nd : T.Nodup
  rg : ∀ x ∈ T, 0 ≤ x ∧ x < n
  seen : ∀ x : Nat, seenAt s x = true ↔ (x : Int) ∈ T
  snd : ∀ x : Nat, (x : Int) ∈ T → Rch (Eb bfs) k x
/-- All that the first i of k :: T lead to is seen. -/
def BfD (bfs : List (List Int)) (k : Nat) (s : List Bool) (T : List Int) (i : Nat) : Prop :=
  ∀ (p : Nat) (y : Nat) (x : Int), p < i → ((k : Int) :: T)[p]? = some (y : Int) → x ∈ bfs.getD y [] → seenAt s x.toNat = true
theorem bfi0 (bfs : List (List Int)) (n k : Nat) : BfI bfs n k (List.replicate n false) [] := by
  refine ⟨by simp, by simp, by simp, fun x => ?_, by simp⟩
  constructor
  · intro h
    unfold seenAt at h
    simp only [List.getD, List.getElem?_replicate] at h
    split at h <;> simp at h
  · intro h; simp at h
theorem BfI.len {bfs : List (List Int)} {n k : Nat} {s : List Bool} {T : List Int} (h : BfI bfs n k s T) : T.length ≤ n := nodup_le h.nd h.rg
/-- A place that was not seen. -/
theorem BfI.add {bfs : List (List Int)} {n k y : Nat} {s : List Bool} {T : List Int} (h : BfI bfs n k s T) {x : Nat} (hx : x < n) (hs : seenAt s x = false) (hy : (y : Int) ∈ (k : Int) :: T) (he : Eb bfs y x) :
    BfI bfs n k (s.set x true) (T ++ [(x : Int)]) := by
  have hni : (x : Int) ∉ T := fun hm => by rw [(h.seen x).2 hm] at hs; cases hs
  refine ⟨by simp [h.sl], ?_, ?_, fun a => ?_, fun a ha => ?_⟩
  · rw [List.nodup_append]
    exact ⟨h.nd, by simp, fun a ha b hb => by simp at hb; subst hb; intro e; subst e; exact hni ha⟩
  · intro a ha
    rcases List.mem_append.1 ha with ha | ha
    · exact h.rg a ha
    · simp at ha; omega
  · rw [seen_set (by rw [h.sl]; exact hx)]
    constructor
    · intro ha
      split at ha
      · rename_i e; subst e; simp
      · exact List.mem_append.2 (.inl ((h.seen a).1 ha))
    · intro ha
      split
      · rfl
      · rcases List.mem_append.1 ha with ha | ha
        · exact (h.seen a).2 ha
        · simp at ha; omega
  · rcases List.mem_append.1 ha with ha | ha
    · exact h.snd a ha
    · simp at ha
      have : a = x := by omega
      subst this
      rcases List.mem_cons.1 hy with hy | hy
      · have : y = k := by omega
        subst this
        exact .one he
      · exact (h.snd y hy).trans (.one he)
theorem BfD.add {bfs : List (List Int)} {n k : Nat} {s : List Bool} {T : List Int} {i : Nat} (hi : BfI bfs n k s T) (h : BfD bfs k s T i) (hil : i ≤ T.length + 1) {x : Nat} (hx : x < n) : BfD bfs k (s.set x true) (T ++ [(x : Int)]) i := by
  intro p y z hp hy hz
  rw [seen_set (by rw [hi.sl]; exact hx)]
  split
  · rfl
  · refine h p y z hp ?_ hz
    rw [← hy]
    rw [← List.cons_append, List.getElem?_append_left (by simp; omega)]
theorem bf_done {bfs : List (List Int)} {n k : Nat} {s : List Bool} {T : List Int} (h : BfI bfs n k s T) (hd : BfD bfs k s T (T.length + 1)) (x : Nat) : seenAt s x = true ↔ Rch (Eb bfs) k x := by
  constructor
  · intro hx
    exact h.snd x ((h.seen x).1 hx)
  · rintro ⟨l, hl⟩
    have key : ∀ (l : List Nat) (y : Nat), (y : Int) ∈ (k : Int) :: T → Pth (Eb bfs) y l x → seenAt s x = true := by
      intro l
      induction l with
      | nil =>
        intro y hy hp
        obtain ⟨p, hpp⟩ := List.getElem?_of_mem hy
        have hlt := (List.getElem?_eq_some_iff.1 hpp).1
        have := hd p y x (by simpa using hlt) hpp hp
        simpa using this
      | cons j l ih =>
        intro y hy hp
        obtain ⟨p, hpp⟩ := List.getElem?_of_mem hy
        have hlt := (List.getElem?_eq_some_iff.1 hpp).1
        have hj := hd p y j (by simpa using hlt) hpp hp.1
        simp only [Int.toNat_natCast] at hj
        exact ih j (List.mem_cons_of_mem _ ((h.seen j).1 hj)) hp.2
    exact key l k (by simp) hl
theorem not_seen {s : List Bool} {x : Nat} (h : ¬ seenAt s x = true) : seenAt s x = false := by simpa using h
theorem pth_cycle {E : Nat → Nat → Prop} : ∀ {l : List Nat} {i k : Nat}, Pth E i l k → ¬ (i :: l).Nodup → ∃ j, Rch E j j
  | [], i, k, _, h => absurd (by simp) h
  | j :: l, i, k, hp, h => by
    by_cases hi : i ∈ j :: l
    · obtain ⟨a, b, hab⟩ := List.append_of_mem hi
      rw [hab] at hp
      exact ⟨i, a, (pth_app hp).1⟩
    · refine pth_cycle hp.2 fun hn => h (List.nodup_cons.2 ⟨hi, hn⟩)
/-- Can k be done, when the marked ones are done? -/
def canB (bfs : List (List Int)) (d : List Bool) (k : Nat) : Bool := !seenAt d k && (bfs.getD k []).all fun b => seenAt d b.toNat
theorem can_iff {bfs : List (List Int)} {d : List Bool} {k : Nat} : canB bfs d k = true ↔ seenAt d k = false ∧ ∀ b ∈ bfs.getD k [], seenAt d b.toNat = true := by
  unfold canB
  rw [Bool.and_eq_true, List.all_eq_true]
  simp
/-- Without circles there is always one that can be done next. -/
theorem can_some {bfs : List (List Int)} {n : Nat} {d : List Bool} (hb : ∀ (i : Nat) (x : Int), x ∈ bfs.getD i [] → 0 ≤ x ∧ x < n) (hl : bfs.length = n) (hc : ∀ j, ¬ Rch (Eb bfs) j j) {x : Nat} (hx : x < n) (hs : seenAt d x = false) : ∃ k, k < n ∧ canB bfs d k = true := by
  have hE := eb_lt hl hb
  apply Classical.byContradiction
  intro hno
  have step : ∀ k, k < n → seenAt d k = false → ∃ b, b < n ∧ seenAt d b = false ∧ Eb bfs k b := by
    intro k hk hs
    apply Classical.byContradiction
    intro hn
    refine hno ⟨k, hk, can_iff.2 ⟨hs, fun b hbm => ?_⟩⟩
    cases h : seenAt d b.toNat with
    | true => rfl
    | false =>
      have hr := hb k b hbm
      refine absurd ⟨b.toNat, by omega, h, ?_⟩ hn
      unfold Eb
      rw [show ((b.toNat : Nat) : Int) = b by omega]
      exact hbm
  have long : ∀ r, ∃ l k, Pth (Eb bfs) x l k ∧ l.length = r ∧ seenAt d k = false ∧ k < n := by
    intro r
    induction r with
    | zero =>
      obtain ⟨b, hbn, hbs, he⟩ := step x hx hs
      exact ⟨[], b, he, rfl, hbs, hbn⟩
    | succ r ih =>
      obtain ⟨l, k, hp, hlen, hks, hkn⟩ := ih
      obtain ⟨b, hbn, hbs, he⟩ := step k hkn hks
      exact ⟨l ++ [k], b, pth_join (l2 := []) hp he, by simp [hlen], hbs, hbn⟩
  obtain ⟨l, k, hp, hlen, _, _⟩ := long n
  have hnd : ¬ (x :: l).Nodup := by
    intro hn
    have := nodup_leN hn (pth_mem hE hp)
    simp at this
    omega
  obtain ⟨j, hj⟩ := pth_cycle hp hnd
  exact hc j hj
/-- The first one that can be done. -/
def nextK (bfs : List (List Int)) (n : Nat) (d : List Bool) : Option Nat := scanF (fun k => if canB bfs d k = true then some k else none) n
/-- The order behind r steps, and what is done. -/
def ordG (bfs : List (List Int)) (n : Nat) : Nat → List Int × List Bool
  | 0 => ([], List.replicate n false)
  | r + 1 => match nextK bfs n (ordG bfs n r).2 with
    | some k => ((ordG bfs n r).1 ++ [(k : Int)], (ordG bfs n r).2.set k true)
    | none => ordG bfs n r
theorem next_some {bfs : List (List Int)} {n : Nat} {d : List Bool} {k : Nat} (h : nextK bfs n d = some k) : k < n ∧ canB bfs d k = true := by
  unfold nextK at h
  obtain ⟨i, hi, hg⟩ := scanF_some h
  split at hg
  · injection hg with hg
    subst hg
    exact ⟨hi, by assumption⟩
  · cases hg
theorem next_ne {bfs : List (List Int)} {n : Nat} {d : List Bool} {k : Nat} (hk : k < n) (h : canB bfs d k = true) : nextK bfs n d ≠ none := by
  unfold nextK
  exact scanF_ne hk (by simp [h])
/-- What an order is while it grows. -/
structure OrdI (bfs : List (List Int)) (n r : Nat) (o : List Int) (d : List Bool) : Prop where
  ol : o.length = r
  dl : d.length = n
  nd : o.Nodup
  mem : ∀ x : Nat, seenAt d x = true ↔ (x : Int) ∈ o
  rg : ∀ x ∈ o, 0 ≤ x ∧ x < n
  bef : ∀ (j : Nat) (y : Nat), o[j]? = some (y : Int) → ∀ b ∈ bfs.getD y [], b ∈ o.take j
theorem ordI0 (bfs : List (List Int)) (n : Nat) : OrdI bfs n 0 [] (List.replicate n false) := by
  refine ⟨rfl, by simp, by simp, fun x => ?_, by simp, by simp⟩
  constructor
  · intro h
    unfold seenAt at h
    simp only [List.getD, List.getElem?_replicate] at h
    split at h <;> simp at h
  · intro h; simp at h
theorem OrdI.step {bfs : List (List Int)} {n r : Nat} {o : List Int} {d : List Bool} (h : OrdI bfs n r o d) (hb : ∀ (i : Nat) (x : Int), x ∈ bfs.getD i [] → 0 ≤ x ∧ x < n) {k : Nat} (hk : k < n) (hc : canB bfs d k = true) : OrdI bfs n (r + 1) (o ++ [(k : Int)]) (d.set k true) := by
  obtain ⟨h1, h2⟩ := can_iff.1 hc
  have hni : (k : Int) ∉ o := fun hm => by rw [(h.mem k).2 hm] at h1; cases h1
  refine ⟨by simp [h.ol], by simp [h.dl], ?_, fun x => ?_, ?_, fun j y hy b hbm => ?_⟩
  · rw [List.nodup_append]
    exact ⟨h.nd, by simp, fun a ha b hb => by simp at hb; subst hb; intro e; subst e; exact hni ha⟩
  · rw [seen_set (by rw [h.dl]; exact hk)]
    constructor
    · intro hx
      split at hx
      · rename_i e; subst e; simp
      · exact List.mem_append.2 (.inl ((h.mem x).1 hx))
    · intro hx
      split
      · rfl
      · rcases List.mem_append.1 hx with hx | hx
        · exact (h.mem x).2 hx
        · simp at hx; omega
  · intro x hx
    rcases List.mem_append.1 hx with hx | hx
    · exact h.rg x hx
    · simp at hx; omega
  · have hj := (List.getElem?_eq_some_iff.1 hy).1
    simp at hj
    by_cases e : j < o.length
    · rw [List.getElem?_append_left e] at hy
      rw [List.take_append_of_le_length (by omega)]
      exact h.bef j y hy b hbm
    · have : j = o.length := by omega
      subst this
      simp at hy
      have : y = k := by omega
      subst this
      rw [List.take_append_of_le_length (Nat.le_refl _), List.take_length]
      have hr := hb y b hbm
      have := (h.mem b.toNat).1 (h2 b hbm)
      rw [show ((b.toNat : Nat) : Int) = b by omega] at this
      exact this
theorem ordG_ok {bfs : List (List Int)} {n : Nat} (hb : ∀ (i : Nat) (x : Int), x ∈ bfs.getD i [] → 0 ≤ x ∧ x < n) (hl : bfs.length = n) (hc : ∀ j, ¬ Rch (Eb bfs) j j) : ∀ r, r ≤ n → OrdI bfs n r (ordG bfs n r).1 (ordG bfs n r).2 ∧ (r < n → nextK bfs n (ordG bfs n r).2 ≠ none)
  | 0, hr => ⟨ordI0 bfs n, fun hr0 => by
    obtain ⟨k, hk, hck⟩ := can_some (d := (ordG bfs n 0).2) hb hl hc hr0 (x := 0) (by
      unfold seenAt ordG
      simp [List.getD, hr0])
    exact next_ne hk hck⟩
  | r + 1, hr => by
    obtain ⟨ih, hne⟩ := ordG_ok hb hl hc r (by omega)
    have hne := hne (by omega)
    cases hn : nextK bfs n (ordG bfs n r).2 with
    | none => exact absurd hn hne
    | some k =>
      obtain ⟨hk, hck⟩ := next_some hn
      have e : ordG bfs n (r + 1) = ((ordG bfs n r).1 ++ [(k : Int)], (ordG bfs n r).2.set k true) := by
        show (match nextK bfs n (ordG bfs n r).2 with | some k => _ | none => _) = _
        rw [hn]
      have hI := ih.step hb hk hck
      rw [e]
      refine ⟨hI, fun hrn => ?_⟩
      have hex : ∃ x, x < n ∧ seenAt ((ordG bfs n r).2.set k true) x = false := by
        apply Classical.byContradiction
        intro hno
        have hall : ∀ x : Nat, x < n → (x : Int) ∈ (ordG bfs n r).1 ++ [(k : Int)] := by
          intro x hx
          apply (hI.mem x).1
          cases h : seenAt ((ordG bfs n r).2.set k true) x with
          | true => rfl
          | false => exact absurd ⟨x, hx, h⟩ hno
        have hle := List.Nodup.length_le_of_subset (upto_nodup n) (l₂ := (ordG bfs n r).1 ++ [(k : Int)]) (fun y hy => by
          obtain ⟨h0, h1⟩ := upto_mem'.1 hy
          obtain ⟨z, rfl⟩ := Int.eq_ofNat_of_zero_le h0
          exact hall z (by omega))
        rw [upto_len] at hle
        have := hI.ol
        omega
      obtain ⟨x, hx, hsx⟩ := hex
      obtain ⟨k', hk', hck'⟩ := can_some hb hl hc hx hsx
      exact next_ne hk' hck'
end Go.Proofs.YtgghjieeckkpbaaDoor
