/- Slices of operations (a struct of a name, a number and a slice of int64): how they read; how the call's own ones may be marked. Plain lemmas; no program. -/
import Derived.Test.YtgghjieeckkpbaaDoorWd
import Derived.Test.YtgghjieeckkpbaaDoorOut
namespace Go.Proofs.YtgghjieeckkpbaaDoor
open Go.RowKit

/-- An operation, as plain data. -/
structure OpV where
  nm : ByteArray
  mn : Int
  bf : List Int
/-- The slice value '.slice A n c' reads, in w, as these operations. -/
structure RdO (w : World) (A : Option Addr) (n c : Nat) (ops : List OpV) : Prop where
  len : ops.length = n
  cap : n ≤ c
  max : c ≤ 9223372036854775807
  sz : ∀ p ∈ ops, p.nm.size ≤ 9223372036854775807
  el : ∀ (k : Nat) (p : OpV), ops[k]? = some p → ∃ b o B m d, A = some ⟨b, o, none⟩ ∧ b < w.heap.size ∧ w.cell? ⟨b, o + k * 3, none⟩ = some (.string p.nm) ∧ w.cell? ⟨b, o + k * 3 + 1, none⟩ = some (.int .i64 p.mn) ∧
    w.cell? ⟨b, o + k * 3 + 2, none⟩ = some (.slice B m d) ∧ Rd w 1 B m d (ints p.bf)
theorem RdO.below {w w1 : World} {A : Option Addr} {n c : Nat} {ops : List OpV} (h : RdO w A n c ops) (hb : Below w.heap.size w w1) : RdO w1 A n c ops :=
  ⟨h.len, h.cap, h.max, h.sz, fun k p hp => by
    obtain ⟨b, o, B, m, d, hA, hlt, h0, h1, h2, hr⟩ := h.el k p hp
    exact ⟨b, o, B, m, d, hA, Nat.lt_of_lt_of_le hlt hb.size, cell_bel h0 hb, cell_bel h1 hb, cell_bel h2 hb, hr.below hb⟩⟩
theorem RdO.nil (w : World) : RdO w none 0 0 [] := ⟨rfl, Nat.le_refl _, by omega, by simp, fun k p hp => by simp at hp⟩
/-- The k-th operation of a slice that reads as operations. -/
theorem RdO.op {w : World} {A : Option Addr} {n c : Nat} {ops : List OpV} (h : RdO w A n c ops) {k : Nat} (hk : k < n) :
    ∃ p b o B m d, ops[k]? = some p ∧ p.nm.size ≤ 9223372036854775807 ∧ A = some ⟨b, o, none⟩ ∧ b < w.heap.size ∧ w.cell? ⟨b, o + k * 3, none⟩ = some (.string p.nm) ∧ w.cell? ⟨b, o + k * 3 + 1, none⟩ = some (.int .i64 p.mn) ∧
      w.cell? ⟨b, o + k * 3 + 2, none⟩ = some (.slice B m d) ∧ Rd w 1 B m d (ints p.bf) := by
  have hp := List.getElem?_eq_getElem (l := ops) (i := k) (by have := h.len; omega)
  obtain ⟨b, o, B, m, d, r⟩ := h.el k _ hp
  exact ⟨_, b, o, B, m, d, hp, h.sz _ (List.mem_of_getElem? hp), r⟩

/-- A slice of operations that may be marked from the i-th on: it, and the slices in it (the k-th at block G k), lie in blocks of the call's own from lo up to hi, all apart. -/
structure MkO (w : World) (lo hi g n c : Nat) (cs : List Value) (G : Nat → Nat) (i : Nat) : Prop where
  own : OwnIn w lo hi 53 3 (some ⟨g, 0, none⟩) n c cs
  nest : ∀ k, i ≤ k → k < n → ∃ (m : Nat) (xs : List Int), cs[k * 3 + 2]? = some (.slice (some ⟨G k, 0, none⟩) m m) ∧ m ≤ 1048576 ∧ OwnIn w lo hi 2 1 (some ⟨G k, 0, none⟩) m m (ints xs)
  far : ∀ k, k < n → G k ≠ g
  sep : ∀ j k, j < k → k < n → G j ≠ G k
theorem MkO.below {w w' : World} {lo hi g n c i : Nat} {cs : List Value} {G : Nat → Nat} (h : MkO w lo hi g n c cs G i) (hb : Below w.heap.size w w') : MkO w' lo hi g n c cs G i :=
  ⟨h.own.below hb, fun k hik hk => by
    obtain ⟨m, xs, h1, h2, h3⟩ := h.nest k hik hk
    exact ⟨m, xs, h1, h2, h3.below hb⟩, h.far, h.sep⟩
/-- A cell of the whole is stored, not one that names a slice that is still to be marked. -/
theorem MkO.store {w : World} {lo hi g n c i : Nat} {cs : List Value} {G : Nat → Nat} (h : MkO w lo hi g n c cs G i) (j : Nat) (v : Value) (hj : ∀ k, i ≤ k → j ≠ k * 3 + 2) : MkO (w.setCell ⟨g, j, none⟩ v) lo hi g n c (cs.set j v) G i ∧ Out lo hi w (w.setCell ⟨g, j, none⟩ v) := by
  have S := h.own.own.stored j v
  have hgr := h.own.ge g rfl
  have hgt := h.own.top g rfl
  have hO : Out lo hi w (w.setCell ⟨g, j, none⟩ v) := Out.of_grown S.2 (fun g' e => by simp at e; omega)
  refine ⟨⟨h.own.self S.1 S.2, fun k hik hk => ?_, h.far, h.sep⟩, hO⟩
  obtain ⟨m, xs, h1, h2, h3⟩ := h.nest k hik hk
  refine ⟨m, xs, ?_, h2, h3.mid S.2 (fun g' e e' => ?_)⟩
  · rw [List.getElem?_set_ne (hj k hik)]; exact h1
  · simp [Value.ownBlock] at e e'
    have := h.far k hk
    omega
/-- The i-th slice is marked. -/
theorem MkO.next {w w' : World} {lo hi g n c i m : Nat} {cs : List Value} {G : Nat → Nat} (h : MkO w lo hi g n c cs G i) (hin : i < n) (hg : w.grownBy w' (Value.slice (some ⟨G i, 0, none⟩) m m).ownBlock) : MkO w' lo hi g n c cs G (i + 1) ∧ Out lo hi w w' := by
  obtain ⟨m', xs, h1, h2, h3⟩ := h.nest i (Nat.le_refl _) hin
  have hgr := h3.ge (G i) rfl
  have hgt := h3.top (G i) rfl
  have hO : Out lo hi w w' := Out.of_grown hg (fun g' e => by simp [Value.ownBlock] at e; omega)
  refine ⟨⟨h.own.mid hg (fun g' e e' => ?_), fun k hik hk => ?_, h.far, h.sep⟩, hO⟩
  · simp [Value.ownBlock] at e e'
    have := h.far i hin
    omega
  · obtain ⟨m2, xs2, k1, k2, k3⟩ := h.nest k (by omega) hk
    refine ⟨m2, xs2, k1, k2, k3.mid hg (fun g' e e' => ?_)⟩
    simp [Value.ownBlock] at e e'
    have := h.sep i k (by omega) hk
    omega
/-- While a slice of operations grows: the first k are laid, each slice in a block of its own, apart. -/
structure OpsAt (w : World) (lo : Nat) (cs : List Value) (ops : List OpV) (G : Nat → Nat) (k : Nat) : Prop where
  at0 : ∀ (j : Nat) (p : OpV), j < k → ops[j]? = some p → cs[j * 3]? = some (.string p.nm) ∧ cs[j * 3 + 1]? = some (.int .i64 p.mn) ∧ cs[j * 3 + 2]? = some (.slice (some ⟨G j, 0, none⟩) p.bf.length p.bf.length) ∧
    w.ownsRow lo 2 1 (.slice (some ⟨G j, 0, none⟩) p.bf.length p.bf.length) p.bf.length (ints p.bf)
  up : ∀ i j, i < j → j < k → G i < G j
theorem OpsAt.zero (w : World) (lo : Nat) (cs : List Value) (ops : List OpV) (G : Nat → Nat) : OpsAt w lo cs ops G 0 := ⟨fun _ _ hj => absurd hj (Nat.not_lt_zero _), fun _ _ _ hj => absurd hj (Nat.not_lt_zero _)⟩
theorem OpsAt.below {w w' : World} {lo k : Nat} {cs : List Value} {ops : List OpV} {G : Nat → Nat} (h : OpsAt w lo cs ops G k) (hb : Below w.heap.size w w') : OpsAt w' lo cs ops G k :=
  ⟨fun j p hj hp => by
    obtain ⟨h0, h1, h2, h3⟩ := h.at0 j p hj hp
    exact ⟨h0, h1, h2, own_below h3 hb⟩, h.up⟩
/-- The k-th is laid, its slice at block gn. -/
theorem OpsAt.step {w w' : World} {lo k gn gb : Nat} {cs : List Value} {ops : List OpV} {G : Nat → Nat} {p : OpV} (h : OpsAt w lo cs ops G k) (hp : ops[k]? = some p) (hcl : k * 3 + 2 < cs.length) (hn : w.ownsRow lo 2 1 (.slice (some ⟨gn, 0, none⟩) p.bf.length p.bf.length) p.bf.length (ints p.bf))
    (hup : ∀ j, j < k → G j < gn) (hg : w.grownBy w' (some gb)) (hlo : gb < lo) :
    OpsAt w' lo (((cs.set (k * 3) (.string p.nm)).set (k * 3 + 1) (.int .i64 p.mn)).set (k * 3 + 2) (.slice (some ⟨gn, 0, none⟩) p.bf.length p.bf.length)) ops (fun j => if j = k then gn else G j) (k + 1) := by
  have kept : ∀ (g m : Nat) (xs : List Value), w.ownsRow lo 2 1 (.slice (some ⟨g, 0, none⟩) m m) m xs → w'.ownsRow lo 2 1 (.slice (some ⟨g, 0, none⟩) m m) m xs := fun g m xs ho => by
    refine own_other ho hg ?_
    have := (own_block ho g rfl).1
    omega
  refine ⟨fun j q hj hq => ?_, fun i j hij hj => ?_⟩
  · by_cases e : j = k
    · subst e
      rw [hp] at hq
      injection hq with hq
      subst hq
      rw [if_pos rfl]
      refine ⟨?_, ?_, ?_, kept _ _ _ hn⟩
      · rw [List.getElem?_set_ne (by omega), List.getElem?_set_ne (by omega), List.getElem?_set_self (by omega)]
      · rw [List.getElem?_set_ne (by omega), List.getElem?_set_self (by simp; omega)]
      · rw [List.getElem?_set_self (by simp; omega)]
    · rw [if_neg e]
      obtain ⟨h0, h1, h2, h3⟩ := h.at0 j q (by omega) hq
      refine ⟨?_, ?_, ?_, kept _ _ _ h3⟩
      · rw [List.getElem?_set_ne (by omega), List.getElem?_set_ne (by omega), List.getElem?_set_ne (by omega)]; exact h0
      · rw [List.getElem?_set_ne (by omega), List.getElem?_set_ne (by omega), List.getElem?_set_ne (by omega)]; exact h1
      · rw [List.getElem?_set_ne (by omega), List.getElem?_set_ne (by omega), List.getElem?_set_ne (by omega)]; exact h2
  · show (if i = k then gn else G i) < (if j = k then gn else G j)
    rw [if_neg (by omega)]
    by_cases e : j = k
    · rw [if_pos e]; exact hup i (by omega)
    · rw [if_neg e]; exact h.up i j hij (by omega)
/-- What is laid whole reads as the operations, and may be marked. -/
theorem OpsAt.whole {w : World} {W0 g n : Nat} {cs : List Value} {ops : List OpV} {G : Nat → Nat} (h : OpsAt w (W0 + 1) cs ops G n) (hg : g = W0) (ho : w.ownsRow W0 53 3 (.slice (some ⟨g, 0, none⟩) n n) n cs) (hl : ops.length = n) (hn : n ≤ 1048576) (hsz : ∀ p ∈ ops, p.nm.size ≤ 9223372036854775807 ∧ p.bf.length ≤ 1048576) :
    RdO w (some ⟨g, 0, none⟩) n n ops ∧ MkO w W0 w.heap.size g n n cs G 0 := by
  have hlt := (own_block ho g rfl).2
  constructor
  · refine ⟨hl, Nat.le_refl _, by omega, fun p hp => (hsz p hp).1, fun k p hp => ?_⟩
    have hk := (List.getElem?_eq_some_iff.1 hp).1
    obtain ⟨h0, h1, h2, h3⟩ := h.at0 k p (by omega) hp
    refine ⟨g, 0, _, _, _, rfl, hlt, ?_, ?_, ?_, Rd.of_own h3⟩
    · rw [Nat.zero_add, ho.cellAt (k * 3) (by omega)]; exact h0
    · rw [Nat.zero_add, ho.cellAt (k * 3 + 1) (by omega)]; exact h1
    · rw [Nat.zero_add, ho.cellAt (k * 3 + 2) (by omega)]; exact h2
  · have each : ∀ k, k < n → ∃ p, p ∈ ops ∧ cs[k * 3 + 2]? = some (.slice (some ⟨G k, 0, none⟩) p.bf.length p.bf.length) ∧ w.ownsRow (W0 + 1) 2 1 (.slice (some ⟨G k, 0, none⟩) p.bf.length p.bf.length) p.bf.length (ints p.bf) := fun k hk => by
      have hp := List.getElem?_eq_getElem (l := ops) (i := k) (by omega)
      obtain ⟨_, _, h2, h3⟩ := h.at0 k _ hk hp
      exact ⟨_, List.mem_of_getElem? hp, h2, h3⟩
    refine ⟨⟨ho, fun g' e => (own_block ho g' e).2, Nat.le_refl _⟩, fun k _ hk => ?_, fun k hk => ?_, fun j k hjk hk => ?_⟩
    · obtain ⟨p, hp, h2, h3⟩ := each k hk
      exact ⟨_, _, h2, (hsz p hp).2, own_base h3 (by omega), fun g' e => (own_block h3 g' e).2, Nat.le_refl _⟩
    · obtain ⟨p, hp, h2, h3⟩ := each k hk
      have := (own_block h3 (G k) rfl).1
      omega
    · have := h.up j k hjk hk
      omega
theorem grown_setO (w : World) (g i : Nat) (u : Value) : w.grownBy (w.setCell ⟨g, i, none⟩ u) (some g) :=
  ⟨rfl, rfl, rfl, by simp, fun k _ hne => Below.heap_setCell w ⟨g, i, none⟩ u k (fun e => hne (by rw [e]))⟩
theorem own_setO {w : World} {base k : Nat} {e : TypeId} {g b j n c : Nat} {v : Value} {cs : List Value} (h : w.ownsRow base e k (.slice (some ⟨g, 0, none⟩) n c) n cs) (hne : g ≠ b) : (w.setCell ⟨b, j, none⟩ v).ownsRow base e k (.slice (some ⟨g, 0, none⟩) n c) n cs :=
  own_other h (grown_setO w b j v) hne
theorem Box.setO {w : World} {g : Nat} {cs : Array Value} (h : Box w g cs) (i : Nat) (u : Value) (hi : i < cs.size) : Box (w.setCell ⟨g, i, none⟩ u) g (cs.setIfInBounds i u) := by
  have hs : w.cell? ⟨g, i, none⟩ = some cs[i] := by rw [h.cell i]; simp [hi]
  refine ⟨fun j => ?_, fun j => ?_, by have := h.lt; simpa using this⟩
  · by_cases e : i = j
    · subst e
      rw [World.cell?_setCell_same _ _ _ hs]
      simp [hi]
    · rw [World.cell?_setCell_other _ _ _ _ (by intro he; injection he with _ h2; exact e h2), h.cell j]
      simp [e]
  · rw [World.frozen?_setCell]
    exact h.froz j
theorem Box.apart {w : World} {g b i : Nat} {cs : Array Value} (h : Box w g cs) (u : Value) (hne : g ≠ b) : Box (w.setCell ⟨b, i, none⟩ u) g cs := by
  refine ⟨fun j => ?_, fun j => ?_, by have := h.lt; simpa using this⟩
  · rw [World.cell?_setCell_other _ _ _ _ (by intro he; injection he with h1 h2; exact hne h1.symm)]
    exact h.cell j
  · rw [World.frozen?_setCell]
    exact h.froz j
theorem own_set3 {w : World} {base : Nat} {e : TypeId} {g n c : Nat} {cs : List Value} (h : w.ownsRow base e 3 (.slice (some ⟨g, 0, none⟩) n c) n cs) (k : Nat) (a b d : Value) :
    (((w.setCell ⟨g, k * 3, none⟩ a).setCell ⟨g, k * 3 + 1, none⟩ b).setCell ⟨g, k * 3 + 2, none⟩ d).ownsRow base e 3 (.slice (some ⟨g, 0, none⟩) n c) n (((cs.set (k * 3) a).set (k * 3 + 1) b).set (k * 3 + 2) d) ∧
    w.grownBy (((w.setCell ⟨g, k * 3, none⟩ a).setCell ⟨g, k * 3 + 1, none⟩ b).setCell ⟨g, k * 3 + 2, none⟩ d) (some g) := by
  have S1 := h.stored (k * 3) a
  have S2 := S1.1.stored (k * 3 + 1) b
  have S3 := S2.1.stored (k * 3 + 2) d
  exact ⟨S3.1, World.grownBy.trans (World.grownBy.trans S1.2 S2.2) S3.2⟩
end Go.Proofs.YtgghjieeckkpbaaDoor
