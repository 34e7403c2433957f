/- Slices of slices of int64: how they read; how the call's own ones may be marked; eqInt64SS, markInt64SS, heldInt64SS. -/
import Derived.Test.YthdbaflihgkomaaDoorMb
import Derived.Test.YthdbaflihgkomaaDoorIns
import Derived.Test.YthdbaflihgkomaaDoorOut
import Derived.Deep.RegionHeld3
namespace Go.Proofs.YthdbaflihgkomaaDoor
open Go.RowKit

theorem cell_bel {w w' : World} {b o : Nat} {v : Value} (h : w.cell? ⟨b, o, none⟩ = some v) (hb : Below w.heap.size w w') : w'.cell? ⟨b, o, none⟩ = some v := (hb.cell (p := ⟨b, o, none⟩) (World.block_lt_of_cell? _ _ h)).trans h

/-- The slice value '.slice A n c' reads, in w, as this list of lists. -/
structure RdL (w : World) (A : Option Addr) (n c : Nat) (L : List (List Int)) : Prop where
  len : L.length = n
  cap : n ≤ c
  max : c ≤ 9223372036854775807
  el : ∀ (k : Nat) (xs : List Int), L[k]? = some xs → ∃ b o B m d, A = some ⟨b, o, none⟩ ∧ b < w.heap.size ∧ w.cell? ⟨b, o + k, none⟩ = some (.slice B m d) ∧ Rd w 1 B m d (ints xs)
theorem RdL.below {w w1 : World} {A : Option Addr} {n c : Nat} {L : List (List Int)} (h : RdL w A n c L) (hb : Below w.heap.size w w1) : RdL w1 A n c L :=
  ⟨h.len, h.cap, h.max, fun k xs hx => by
    obtain ⟨b, o, B, m, d, hA, hlt, hc, hr⟩ := h.el k xs hx
    exact ⟨b, o, B, m, d, hA, Nat.lt_of_lt_of_le hlt hb.size, cell_bel hc hb, hr.below hb⟩⟩
theorem RdL.nil (w : World) : RdL w none 0 0 [] := ⟨rfl, Nat.le_refl _, by omega, fun k xs hx => by simp at hx⟩
theorem RdL.row {w : World} {A : Option Addr} {n c : Nat} {L : List (List Int)} (h : RdL w A n c L) {k : Nat} (hk : k < n) :
    ∃ xs b o B m d, L[k]? = some xs ∧ A = some ⟨b, o, none⟩ ∧ b < w.heap.size ∧ w.cell? ⟨b, o + k, none⟩ = some (.slice B m d) ∧ Rd w 1 B m d (ints xs) := by
  have hx := List.getElem?_eq_getElem (l := L) (i := k) (by have := h.len; omega)
  obtain ⟨b, o, B, m, d, r⟩ := h.el k _ hx
  exact ⟨_, b, o, B, m, d, hx, r⟩
/-- A slice of slices that the call owns: each in a block of its own, all apart, none below lo. -/
structure OwnL (w : World) (lo : Nat) (A : Option Addr) (n c : Nat) (cs : List Value) (L : List (List Int)) (G : Nat → Nat) : Prop where
  own : w.ownsRow lo 31 1 (.slice A n c) n cs
  ll : L.length = n
  nest : ∀ (k : Nat) (xs : List Int), L[k]? = some xs → ∃ m d, cs[k]? = some (.slice (some ⟨G k, 0, none⟩) m d) ∧ w.ownsRow lo 2 1 (.slice (some ⟨G k, 0, none⟩) m d) m (ints xs)
  far : ∀ k, k < n → (Value.slice A n c).ownBlock ≠ some (G k)
  sep : ∀ j k, j < k → k < n → G j ≠ G k
theorem OwnL.cl {w : World} {lo n c : Nat} {A : Option Addr} {cs : List Value} {L : List (List Int)} {G : Nat → Nat} (h : OwnL w lo A n c cs L G) : cs.length = n := by have := h.own.1; omega
theorem OwnL.rd {w : World} {lo n c : Nat} {A : Option Addr} {cs : List Value} {L : List (List Int)} {G : Nat → Nat} (h : OwnL w lo A n c cs L G) : RdL w A n c L := by
  have hr := Rd.of_own h.own
  refine ⟨h.ll, hr.cap, hr.max, fun k xs hx => ?_⟩
  have hk : k < n := by have := (List.getElem?_eq_some_iff.1 hx).1; have := h.ll; omega
  obtain ⟨m, d, hc, ho⟩ := h.nest k xs hx
  obtain ⟨b, o, hA, hlt, hcell⟩ := hr.at0 (by rw [h.cl]; omega)
  exact ⟨b, o, _, m, d, hA, hlt, by rw [hcell k (by rw [h.cl]; exact hk)]; exact hc, Rd.of_own ho⟩
theorem OwnL.below {w w1 : World} {lo n c : Nat} {A : Option Addr} {cs : List Value} {L : List (List Int)} {G : Nat → Nat} (h : OwnL w lo A n c cs L G) (hb : Below w.heap.size w w1) : OwnL w1 lo A n c cs L G :=
  ⟨own_below h.own hb, h.ll, fun k xs hx => by
    obtain ⟨m, d, hc, ho⟩ := h.nest k xs hx
    exact ⟨m, d, hc, own_below ho hb⟩, h.far, h.sep⟩
theorem OwnL.lt {w : World} {lo n c : Nat} {A : Option Addr} {cs : List Value} {L : List (List Int)} {G : Nat → Nat} (h : OwnL w lo A n c cs L G) {k : Nat} (hk : k < n) : lo ≤ G k ∧ G k < w.heap.size := by
  have hx := List.getElem?_eq_getElem (l := L) (i := k) (by have := h.ll; omega)
  obtain ⟨m, d, hc, ho⟩ := h.nest k _ hx
  exact own_block ho _ rfl
/-- An empty one. -/
theorem ownL_nil (w : World) (lo : Nat) : OwnL w lo none 0 0 [] [] (fun _ => 0) :=
  ⟨World.ownsRow_nil _ _ _ _, rfl, fun k xs hx => by simp at hx, fun k hk => absurd hk (Nat.not_lt_zero _), fun j k _ hk => absurd hk (Nat.not_lt_zero _)⟩
theorem ownL_made (w : World) (lo : Nat) (hlo : lo ≤ w.heap.size) : OwnL (w.alloc (.cells #[] 31)) lo (some ⟨w.heap.size, 0, none⟩) 0 0 [] [] (fun _ => 0) :=
  ⟨World.ownsRow_made w #[] 0 hlo (by unfold maxLen; omega) rfl, rfl, fun k xs hx => by simp at hx, fun k hk => absurd hk (Nat.not_lt_zero _), fun j k _ hk => absurd hk (Nat.not_lt_zero _)⟩
/-- One more at the end: gi is the block of the new one. -/
theorem OwnL.push {w w2 wa : World} {lo n c gi m d n' c' : Nat} {A A' : Option Addr} {cs : List Value} {L : List (List Int)} {G : Nat → Nat} {xs : List Int} (h : OwnL w lo A n c cs L G) (hb : Below w.heap.size w w2) (hn : w.heap.size ≤ gi) (hi : w2.ownsRow lo 2 1 (.slice (some ⟨gi, 0, none⟩) m d) m (ints xs))
    (ho : wa.ownsRow lo 31 1 (.slice A' n' c') (n + 1) (cs ++ [.slice (some ⟨gi, 0, none⟩) m d])) (hg : w2.grownBy wa (Value.slice A n c).ownBlock) (hk : (Value.slice A' n' c').ownBlock = (Value.slice A n c).ownBlock ∨ (Value.slice A' n' c').ownBlock = some w2.heap.size) :
    OwnL wa lo A' n' c' (cs ++ [.slice (some ⟨gi, 0, none⟩) m d]) (L ++ [xs]) (fun k => if k = n then gi else G k) := by
  have hcl := h.cl
  have hl := h.ll
  have hn' : n' = n + 1 := by
    rcases ho.2 with ⟨h', h0⟩ | ⟨g, cap, cur, h', _⟩
    · omega
    · simp only [Value.slice.injEq] at h'; omega
  subst hn'
  have hout : ∀ g, (Value.slice A n c).ownBlock = some g → g < w.heap.size := fun g e => (own_block h.own g e).2
  have hgi := (own_block hi gi rfl).2
  have kept : ∀ (g m d : Nat) (xs : List Value), (Value.slice A n c).ownBlock ≠ some g → w2.ownsRow lo 2 1 (.slice (some ⟨g, 0, none⟩) m d) m xs → wa.ownsRow lo 2 1 (.slice (some ⟨g, 0, none⟩) m d) m xs := fun g m d xs hne h1 =>
    h1.kept hg (.inr fun e => hne (by simpa [Value.ownBlock] using e.symm))
  have hgn : (Value.slice A n c).ownBlock ≠ some gi := fun e => by have := hout gi e; omega
  refine ⟨ho, by simp [hl], fun k ys hy => ?_, fun k hk' => ?_, fun j k hjk hk' => ?_⟩
  · by_cases e : k = n
    · subst e
      rw [List.getElem?_append_right (by omega), hl, Nat.sub_self] at hy
      simp at hy
      subst hy
      refine ⟨m, d, ?_, ?_⟩
      · rw [List.getElem?_append_right (by omega), hcl, Nat.sub_self]
        simp
      · simp only [if_pos]
        exact kept gi m d _ hgn hi
    · have hkn : k < n := by
        have := (List.getElem?_eq_some_iff.1 hy).1
        simp at this
        omega
      rw [List.getElem?_append_left (by omega)] at hy
      obtain ⟨m2, d2, hc, ho2⟩ := h.nest k ys hy
      refine ⟨m2, d2, ?_, ?_⟩
      · rw [List.getElem?_append_left (by omega), if_neg e]; exact hc
      · rw [if_neg e]
        exact kept _ m2 d2 _ (h.far k hkn) (own_below ho2 hb)
  · show _ ≠ some (if k = n then gi else G k)
    have hlt : (if k = n then gi else G k) < w2.heap.size ∧ (Value.slice A n c).ownBlock ≠ some (if k = n then gi else G k) := by
      by_cases e : k = n
      · rw [if_pos e]; exact ⟨hgi, hgn⟩
      · rw [if_neg e]
        exact ⟨Nat.lt_of_lt_of_le (h.lt (by omega)).2 hb.size, h.far k (by omega)⟩
    rcases hk with e | e
    · rw [e]; exact hlt.2
    · rw [e]; intro e'; injection e' with e'; omega
  · show (if j = n then gi else G j) ≠ (if k = n then gi else G k)
    rw [if_neg (by omega)]
    by_cases e : k = n
    · rw [if_pos e]
      have := (h.lt (k := j) (by omega)).2
      omega
    · rw [if_neg e]
      exact h.sep j k hjk (by omega)
/-- The k-th slice turns into other numbers. -/
theorem OwnL.put {w w' : World} {lo n c m d k : Nat} {A : Option Addr} {cs : List Value} {L : List (List Int)} {G : Nat → Nat} {ys : List Int} (h : OwnL w lo A n c cs L G) (hk : k < n) (hc : cs[k]? = some (.slice (some ⟨G k, 0, none⟩) m d)) (ho : w'.ownsRow lo 2 1 (.slice (some ⟨G k, 0, none⟩) m d) m (ints ys)) (hg : w.grownBy w' (Value.slice (some ⟨G k, 0, none⟩) m d).ownBlock) :
    OwnL w' lo A n c cs (L.set k ys) G := by
  refine ⟨h.own.kept hg (.inr (h.far k hk)), by rw [List.length_set]; exact h.ll, fun j zs hz => ?_, h.far, h.sep⟩
  by_cases e : j = k
  · subst e
    rw [List.getElem?_set_self (by rw [h.ll]; exact hk)] at hz
    injection hz with hz
    subst hz
    exact ⟨m, d, hc, ho⟩
  · rw [List.getElem?_set_ne (by omega)] at hz
    obtain ⟨m2, d2, hc2, ho2⟩ := h.nest j zs hz
    have hj : j < n := by have := (List.getElem?_eq_some_iff.1 hz).1; have := h.ll; omega
    refine ⟨m2, d2, hc2, own_other (g' := G k) ho2 hg ?_⟩
    rcases Nat.lt_or_gt_of_ne e with h1 | h1
    · exact h.sep j k h1 hk
    · exact fun e => h.sep k j h1 hj e.symm
/-- A slice of slices of the call's own, all its blocks from lo up to hi. -/
def InL (w : World) (lo hi : Nat) (A : Option Addr) (n c : Nat) (L : List (List Int)) : Prop :=
  ∃ cs G, OwnL w lo A n c cs L G ∧ (∀ g, (Value.slice A n c).ownBlock = some g → g < hi) ∧ (∀ k, k < n → G k < hi) ∧ hi ≤ w.heap.size
section
variable {w w1 : World} {lo hi n c : Nat} {A : Option Addr} {L : List (List Int)}
theorem InL.new {W : World} {cs : List Value} {G : Nat → Nat} (h : OwnL w W.heap.size A n c cs L G) : InL w W.heap.size w.heap.size A n c L :=
  ⟨cs, G, h, fun g e => (own_block h.own g e).2, fun _ hk => (h.lt hk).2, Nat.le_refl _⟩
theorem InL.below (h : InL w lo hi A n c L) (hb : Below w.heap.size w w1) : InL w1 lo hi A n c L := by
  obtain ⟨cs, G, h1, h2, h3, h4⟩ := h
  exact ⟨cs, G, h1.below hb, h2, h3, Nat.le_trans h4 hb.size⟩
theorem InL.rd (h : InL w lo hi A n c L) : RdL w A n c L := by
  obtain ⟨cs, G, h1, _⟩ := h
  exact h1.rd
theorem InL.ll (h : InL w lo hi A n c L) : L.length = n := h.rd.len
theorem InL.mid {row : Option Nat} (h : InL w lo hi A n c L) (hg : w.grownBy w1 row) (hr : ∀ g, row = some g → g < lo ∨ hi ≤ g) : InL w1 lo hi A n c L := by
  obtain ⟨cs, G, h1, h2, h3, h4⟩ := h
  refine ⟨cs, G, ⟨h1.own.kept hg ?_, h1.ll, fun k xs hx => ?_, h1.far, h1.sep⟩, h2, h3, Nat.le_trans h4 hg.size⟩
  · cases e : (Value.slice A n c).ownBlock with
    | none => exact .inl rfl
    | some g =>
      refine .inr fun e' => ?_
      have k1 := h2 g e
      have k2 := (own_block h1.own g e).1
      have := hr g e'.symm
      omega
  · obtain ⟨m, d, hc, ho⟩ := h1.nest k xs hx
    refine ⟨m, d, hc, ho.kept hg (.inr fun e' => ?_)⟩
    have hk : k < n := by have := (List.getElem?_eq_some_iff.1 hx).1; have := h1.ll; omega
    have k1 := h3 k hk
    have k2 := (h1.lt hk).1
    have := hr (G k) e'.symm
    omega
/-- Another slice is written: this one stays. -/
theorem InL.other {lo' hi' k' n' c' : Nat} {t' : TypeId} {A' : Option Addr} {cs' : List Value} (h : InL w lo hi A n c L) (h' : OwnIn w lo' hi' t' k' A' n' c' cs') (hg : w.grownBy w1 (Value.slice A' n' c').ownBlock) (ha : hi ≤ lo' ∨ hi' ≤ lo) : InL w1 lo hi A n c L :=
  h.mid hg fun g e => by
    have h3 := h'.top g e
    have h4 := h'.ge g e
    omega
theorem InL.out {lo' hi' : Nat} (h : InL w lo hi A n c L) (ho : Out lo' hi' w w1) (ha : hi ≤ lo' ∨ hi' ≤ lo) : InL w1 lo hi A n c L := by
  obtain ⟨cs, G, h1, h2, h3, h4⟩ := h
  have one : ∀ (t : TypeId) (B : Option Addr) (m d : Nat) (xs : List Value), (∀ g, (Value.slice B m d).ownBlock = some g → g < hi) → w.ownsRow lo t 1 (.slice B m d) m xs → w1.ownsRow lo t 1 (.slice B m d) m xs := fun t B m d xs ht h =>
    (OwnIn.out (h := ⟨h, ht, h4⟩) ho ha).own
  refine ⟨cs, G, ⟨one _ _ _ _ _ h2 h1.own, h1.ll, fun k xs hx => ?_, h1.far, h1.sep⟩, h2, h3, Nat.le_trans h4 ho.size⟩
  obtain ⟨m, d, hc, ho2⟩ := h1.nest k xs hx
  have hk : k < n := by have := (List.getElem?_eq_some_iff.1 hx).1; have := h1.ll; omega
  exact ⟨m, d, hc, one _ _ _ _ _ (fun g e => by simp [Value.ownBlock] at e; subst e; exact h3 k hk) ho2⟩
end

/-- The lists as marked, from the number k on; how many numbers there are. -/
def marksL : Int → List (List Int) → List (List Int)
  | _, [] => []
  | k, xs :: L => marks k xs.length :: marksL (k + xs.length) L
def totL : List (List Int) → Nat
  | [] => 0
  | xs :: L => xs.length + totL L
theorem marksL_len : ∀ (k : Int) (L : List (List Int)), (marksL k L).length = L.length
  | _, [] => rfl
  | k, _ :: L => by simp [marksL, marksL_len _ L]
theorem marksL_at : ∀ (L : List (List Int)) (k : Int) (j : Nat) (xs : List Int), L[j]? = some xs → (marksL k L)[j]? = some (marks (k + totL (L.take j)) xs.length)
  | [], _, _, _, h => by simp at h
  | ys :: L, k, 0, xs, h => by
    simp at h
    subst h
    simp [marksL, totL]
  | ys :: L, k, j + 1, xs, h => by
    have ih := marksL_at L (k + ys.length) j xs (by simpa using h)
    simp only [marksL, List.getElem?_cons_succ, List.take_succ_cons, totL]
    rw [ih]
    congr 2
    omega
theorem totL_snoc : ∀ (L : List (List Int)) (xs : List Int), totL (L ++ [xs]) = totL L + xs.length
  | [], xs => by simp [totL]
  | ys :: L, xs => by
    have := totL_snoc L xs
    simp only [List.cons_append, totL]
    omega
theorem totL_take {L : List (List Int)} {j : Nat} {xs : List Int} (h : L[j]? = some xs) : totL (L.take (j + 1)) = totL (L.take j) + xs.length := by
  rw [List.take_add_one, h]
  exact totL_snoc _ _
theorem totL_le : ∀ (L : List (List Int)) (j : Nat), totL (L.take j) ≤ totL L
  | [], j => by simp [totL]
  | xs :: L, 0 => by simp [totL]
  | xs :: L, j + 1 => by
    have := totL_le L j
    simp only [List.take_succ_cons, totL]
    omega
/-- The first j are marked. -/
def mixL (k : Int) (L : List (List Int)) (j : Nat) : List (List Int) := (marksL k L).take j ++ L.drop j
theorem mixL_at {k : Int} {L : List (List Int)} {j : Nat} (hj : j < L.length) : (mixL k L j)[j]? = L[j]? := by
  unfold mixL
  rw [List.getElem?_append_right (by rw [List.length_take]; exact Nat.min_le_left _ _), List.getElem?_drop]
  congr 1
  simp [marksL_len]
  omega
theorem mixL_set {k : Int} {L : List (List Int)} {j : Nat} {xs : List Int} (h : L[j]? = some xs) : (mixL k L j).set j (marks (k + totL (L.take j)) xs.length) = mixL k L (j + 1) := by
  have hj := (List.getElem?_eq_some_iff.1 h).1
  have hm := marksL_at L k j xs h
  have hml := marksL_len k L
  unfold mixL
  apply List.ext_getElem?
  intro i
  rw [List.getElem?_set]
  rcases Nat.lt_trichotomy i j with h1 | h1 | h1
  · rw [if_neg (by omega), List.getElem?_append_left (by simp; omega), List.getElem?_append_left (by simp; omega), List.getElem?_take_of_lt h1, List.getElem?_take_of_lt (by omega)]
  · subst h1
    rw [if_pos rfl, if_pos (by simp; omega), List.getElem?_append_left (by simp; omega), List.getElem?_take_of_lt (by omega), hm]
  · rw [if_neg (by omega), List.getElem?_append_right (by simp; omega), List.getElem?_append_right (by simp; omega), List.getElem?_drop, List.getElem?_drop]
    congr 1
    simp only [List.length_take, hml]
    omega
theorem mixL_end {k : Int} {L : List (List Int)} {j : Nat} (h : L.length ≤ j) : mixL k L j = marksL k L := by
  unfold mixL
  rw [List.drop_of_length_le h, List.append_nil, List.take_of_length_le (by rw [marksL_len]; exact h)]

end Go.Proofs.YthdbaflihgkomaaDoor
