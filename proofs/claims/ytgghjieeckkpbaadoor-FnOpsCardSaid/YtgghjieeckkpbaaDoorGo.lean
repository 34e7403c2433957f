/- Slices of operations that a call draws: the whole and each operation's own slice lie in blocks of the call's own, all apart. Plain lemmas; no program. -/
import Derived.Test.YtgghjieeckkpbaaDoorOpR
import Derived.Test.YtgghjieeckkpbaaDoorSrc
namespace Go.Proofs.YtgghjieeckkpbaaDoor
open Go.RowKit

/-- Operations as cells, their slices given. -/
def opc : List (OpV × Value) → List Value
  | [] => []
  | q :: L => .string q.1.nm :: .int .i64 q.1.mn :: q.2 :: opc L
theorem opc_len (L : List (OpV × Value)) : (opc L).length = L.length * 3 := by
  induction L with
  | nil => rfl
  | cons q L ih => simp only [opc, List.length_cons, ih]; omega
theorem opc_append (L M : List (OpV × Value)) : opc (L ++ M) = opc L ++ opc M := by
  induction L with
  | nil => rfl
  | cons q L ih => simp only [List.cons_append, opc, ih]
theorem opc_snoc (L : List (OpV × Value)) (p : OpV) (V : Value) : opc L ++ [.string p.nm, .int .i64 p.mn, V] = opc (L ++ [(p, V)]) := by rw [opc_append]; rfl
theorem opc_at {L : List (OpV × Value)} {k : Nat} {p : OpV} {V : Value} (h : L[k]? = some (p, V)) : (opc L)[k * 3]? = some (.string p.nm) ∧ (opc L)[k * 3 + 1]? = some (.int .i64 p.mn) ∧ (opc L)[k * 3 + 2]? = some V := by
  induction L generalizing k with
  | nil => simp at h
  | cons q L ih =>
    cases k with
    | zero =>
      simp at h
      subst h
      exact ⟨rfl, rfl, rfl⟩
    | succ k =>
      simp at h
      have e0 : (k + 1) * 3 = k * 3 + 1 + 1 + 1 := by omega
      rw [e0]
      simpa only [opc, List.getElem?_cons_succ] using ih h
theorem opc_set {L : List (OpV × Value)} {k : Nat} {p : OpV} {V : Value} (h : L[k]? = some (p, V)) :
    (∀ s, (opc L).set (k * 3) (.string s) = opc (L.set k (⟨s, p.mn, p.bf⟩, V))) ∧ (∀ z, (opc L).set (k * 3 + 1) (.int .i64 z) = opc (L.set k (⟨p.nm, z, p.bf⟩, V))) ∧
    (∀ bf U, (opc L).set (k * 3 + 2) U = opc (L.set k (⟨p.nm, p.mn, bf⟩, U))) := by
  induction L generalizing k with
  | nil => simp at h
  | cons q L ih =>
    cases k with
    | zero =>
      simp at h
      subst h
      exact ⟨fun _ => rfl, fun _ => rfl, fun _ _ => rfl⟩
    | succ k =>
      simp at h
      have e0 : (k + 1) * 3 = k * 3 + 1 + 1 + 1 := by omega
      obtain ⟨h1, h2, h3⟩ := ih h
      rw [e0]
      refine ⟨fun s => ?_, fun z => ?_, fun bf U => ?_⟩
      · simp only [opc, List.set_cons_succ, h1]
      · simp only [opc, List.set_cons_succ, h2]
      · have := h3 bf U
        simp only [opc, List.set_cons_succ] at this ⊢
        rw [this]

/-- The slice at block g holds these operations; each one's own slice lies in a block of its own. -/
structure GO (w : World) (base g n c : Nat) (L : List (OpV × Value)) : Prop where
  own : w.ownsRow base 53 3 (.slice (some ⟨g, 0, none⟩) n c) n (opc L)
  nest : ∀ (k : Nat) (p : OpV) (V : Value), L[k]? = some (p, V) → w.ownsRow base 2 1 V p.bf.length (ints p.bf) ∧ V.ownBlock ≠ some g
  sep : ∀ (j k : Nat) (p q : OpV) (U V : Value), j ≠ k → L[j]? = some (p, U) → L[k]? = some (q, V) → ∀ b, U.ownBlock = some b → V.ownBlock ≠ some b
  sz : ∀ q ∈ L, q.1.nm.size ≤ 12
theorem GO.len {w : World} {base g n c : Nat} {L : List (OpV × Value)} (h : GO w base g n c L) : L.length = n := by
  have := h.own.1
  rw [opc_len] at this
  omega
theorem own_belowV {w w1 : World} {base k n : Nat} {e : TypeId} {v : Value} {cs : List Value} (h : w.ownsRow base e k v n cs) (hb : Below w.heap.size w w1) : w1.ownsRow base e k v n cs := by
  obtain ⟨A, c, rfl⟩ := own_shape h
  exact own_below h hb
theorem GO.below {w w1 : World} {base g n c : Nat} {L : List (OpV × Value)} (h : GO w base g n c L) (hb : Below w.heap.size w w1) : GO w1 base g n c L :=
  ⟨own_below h.own hb, fun k p V hk => ⟨own_belowV (h.nest k p V hk).1 hb, (h.nest k p V hk).2⟩, h.sep, h.sz⟩
theorem own_keepV {w w1 : World} {base k n x : Nat} {e : TypeId} {v : Value} {cs : List Value} (h : w.ownsRow base e k v n cs) (hg : w.grownBy w1 (some x)) (hx : v.ownBlock ≠ some x) : w1.ownsRow base e k v n cs :=
  h.kept hg (.inr hx)
/-- A block that is none of these has turned. -/
theorem GO.keep {w w1 : World} {base g n c x : Nat} {L : List (OpV × Value)} (h : GO w base g n c L) (hg : w.grownBy w1 (some x)) (hx : x < base) : GO w1 base g n c L := by
  have hgb := (own_block h.own g rfl).1
  refine ⟨own_keepV h.own hg (by simp [Value.ownBlock]; omega), fun k p V hk => ⟨?_, (h.nest k p V hk).2⟩, h.sep, h.sz⟩
  refine own_keepV (h.nest k p V hk).1 hg fun e => ?_
  have := ((h.nest k p V hk).1.lt x e).1
  omega
theorem GO.base {w : World} {base base' g n c : Nat} {L : List (OpV × Value)} (h : GO w base g n c L) (hb : base' ≤ base) : GO w base' g n c L :=
  ⟨own_base h.own hb, fun k p V hk => ⟨by
    have hn := (h.nest k p V hk).1
    obtain ⟨A, c', hV⟩ := own_shape hn
    rw [hV] at hn ⊢
    exact own_base hn hb, (h.nest k p V hk).2⟩, h.sep, h.sz⟩
theorem GO.read {w : World} {base g n c : Nat} {L : List (OpV × Value)} (h : GO w base g n c L) : RdO w (some ⟨g, 0, none⟩) n c (L.map Prod.fst) := by
  have hr := Rd.of_own h.own
  have hl := h.len
  refine ⟨by simpa using hl, hr.cap, hr.max, fun p hp => ?_, fun k p hp => ?_⟩
  · obtain ⟨q, hq, rfl⟩ := List.mem_map.1 hp
    have := h.sz q hq
    omega
  · rw [List.getElem?_map] at hp
    cases hk : L[k]? with
    | none => rw [hk] at hp; cases hp
    | some q =>
      rw [hk] at hp
      injection hp with hp
      obtain ⟨p', V⟩ := q
      simp only at hp
      subst hp
      have hkl := (List.getElem?_eq_some_iff.1 hk).1
      obtain ⟨e0, e1, e2⟩ := opc_at hk
      have hn := (h.nest k p' V hk).1
      obtain ⟨A, c', hV⟩ := own_shape hn
      subst hV
      refine ⟨g, 0, A, p'.bf.length, c', rfl, (own_block h.own g rfl).2, ?_, ?_, ?_, Rd.of_own hn⟩
      · rw [Nat.zero_add, h.own.cellAt (k * 3) (by omega)]; exact e0
      · rw [Nat.zero_add, h.own.cellAt (k * 3 + 1) (by omega)]; exact e1
      · rw [Nat.zero_add, h.own.cellAt (k * 3 + 2) (by omega)]; exact e2
theorem GO.nil (w : World) (base : Nat) (hb : base ≤ w.heap.size) : GO (w.alloc (.cells #[] 53)) base w.heap.size 0 0 [] :=
  ⟨World.ownsRow_made w #[] 0 hb (by unfold maxLen; omega) rfl, fun k p V hk => by simp at hk, fun j k p q U V _ hj => by simp at hj, by simp⟩
/-- One more, whose slice is newer than all of these (block b1 and above). -/
theorem GO.snoc {w w1 : World} {base b1 g g1 n c c1 : Nat} {L : List (OpV × Value)} {p : OpV} {V : Value} (h : GO w base g n c L) (hV : w.ownsRow b1 2 1 V p.bf.length (ints p.bf)) (hb : base ≤ b1) (hs : ∀ (k : Nat) (q : OpV) (U : Value), L[k]? = some (q, U) → ∀ b, U.ownBlock = some b → b < b1) (hgb : g < b1)
    (how : w1.ownsRow base 53 3 (.slice (some ⟨g1, 0, none⟩) (n + 1) c1) (n + 1) (opc L ++ [.string p.nm, .int .i64 p.mn, V])) (hg : w.grownBy w1 (some g)) (hg1 : g1 = g ∨ w.heap.size ≤ g1) (hp : p.nm.size ≤ 12) : GO w1 base g1 (n + 1) c1 (L ++ [(p, V)]) := by
  have hl := h.len
  have hVn : V.ownBlock ≠ some g := fun e => by
    have := (hV.lt g e).1
    omega
  have hV1 := own_keepV hV hg hVn
  have hgl := (own_block h.own g rfl).2
  rw [opc_snoc] at how
  have hat : ∀ (k : Nat) (q : OpV) (U : Value), (L ++ [(p, V)])[k]? = some (q, U) → (k < n ∧ L[k]? = some (q, U)) ∨ (k = n ∧ q = p ∧ U = V) := fun k q U hk => by
    by_cases hkn : k < n
    · rw [List.getElem?_append_left (by omega)] at hk
      exact .inl ⟨hkn, hk⟩
    · have hkl := (List.getElem?_eq_some_iff.1 hk).1
      rw [List.length_append, List.length_singleton] at hkl
      obtain rfl : k = n := by omega
      rw [List.getElem?_append_right (by omega), hl, Nat.sub_self] at hk
      simp at hk
      exact .inr ⟨rfl, hk.1.symm, hk.2.symm⟩
  refine ⟨how, fun k q U hk => ?_, fun j k q r U U' hjk hj hk b hb1 hb2 => ?_, fun q hq => ?_⟩
  · rcases hat k q U hk with ⟨_, hk⟩ | ⟨_, rfl, rfl⟩
    · have hn := h.nest k q U hk
      refine ⟨own_keepV hn.1 hg hn.2, fun e => ?_⟩
      rcases hg1 with e1 | e1
      · rw [e1] at e; exact hn.2 e
      · have := (hn.1.lt g1 e).2
        omega
    · refine ⟨?_, fun e => ?_⟩
      · obtain ⟨A', c', hU⟩ := own_shape hV1
        subst hU
        exact own_base hV1 hb
      · rcases hg1 with e1 | e1
        · rw [e1] at e; exact hVn e
        · have := (hV.lt g1 e).2
          omega
  · rcases hat j q U hj with ⟨h1, h2⟩ | ⟨h1, rfl, rfl⟩
    · rcases hat k r U' hk with ⟨h3, h4⟩ | ⟨h3, rfl, rfl⟩
      · exact h.sep j k q r U U' hjk h2 h4 b hb1 hb2
      · have := hs j q U h2 b hb1
        have := (hV.lt b hb2).1
        omega
    · rcases hat k r U' hk with ⟨h3, h4⟩ | ⟨h3, rfl, rfl⟩
      · have := hs k r U' h4 b hb2
        have := (hV.lt b hb1).1
        omega
      · omega
  · rcases List.mem_append.1 hq with hq | hq
    · exact h.sz q hq
    · simp at hq
      subst hq
      exact hp
/-- All that lies in it lies below the heap's size. -/
theorem GO.top {w : World} {base g n c : Nat} {L : List (OpV × Value)} (h : GO w base g n c L) : ∀ (k : Nat) (q : OpV) (U : Value), L[k]? = some (q, U) → ∀ b, U.ownBlock = some b → b < w.heap.size :=
  fun k q U hk b hb => ((h.nest k q U hk).1.lt b hb).2
theorem set_get {α : Type} {L : List α} {k j : Nat} {x y : α} (h : (L.set k x)[j]? = some y) : (j = k ∧ y = x) ∨ (j ≠ k ∧ L[j]? = some y) := by
  by_cases e : j = k
  · subst e
    have hl := (List.getElem?_eq_some_iff.1 h).1
    rw [List.length_set] at hl
    rw [List.getElem?_set_self hl] at h
    injection h with h
    exact .inl ⟨rfl, h.symm⟩
  · rw [List.getElem?_set_ne (fun h => e h.symm)] at h
    exact .inr ⟨e, h⟩
/-- An operation is given another name, or other minutes. -/
theorem GO.name {w : World} {base g n c k : Nat} {L : List (OpV × Value)} {p : OpV} {V : Value} (h : GO w base g n c L) (hk : L[k]? = some (p, V)) (s : ByteArray) (hs : s.size ≤ 12) :
    GO (w.setCell ⟨g, k * 3, none⟩ (.string s)) base g n c (L.set k (⟨s, p.mn, p.bf⟩, V)) ∧ w.grownBy (w.setCell ⟨g, k * 3, none⟩ (.string s)) (some g) := by
  have S := h.own.stored (k * 3) (.string s)
  have hg := grown_setO w g (k * 3) (.string s)
  refine ⟨⟨by have := S.1; rw [(opc_set hk).1] at this; exact this, fun j q U hj => ?_, fun j i q r U U' hji hj hi => ?_, fun q hq => ?_⟩, hg⟩
  · rcases set_get hj with ⟨rfl, e⟩ | ⟨_, e⟩
    · injection e with e1 e2
      subst e1
      subst e2
      have hn := h.nest j p U hk
      exact ⟨own_keepV hn.1 hg hn.2, hn.2⟩
    · have hn := h.nest j q U e
      exact ⟨own_keepV hn.1 hg hn.2, hn.2⟩
  · have fix : ∀ (i : Nat) (q : OpV) (U : Value), (L.set k (⟨s, p.mn, p.bf⟩, V))[i]? = some (q, U) → ∃ q', L[i]? = some (q', U) := fun i q U hi => by
      rcases set_get hi with ⟨rfl, e⟩ | ⟨_, e⟩
      · injection e with e1 e2
        subst e2
        exact ⟨_, hk⟩
      · exact ⟨_, e⟩
    obtain ⟨q1, h1⟩ := fix j q U hj
    obtain ⟨q2, h2⟩ := fix i r U' hi
    exact h.sep j i q1 q2 U U' hji h1 h2
  · rcases List.mem_or_eq_of_mem_set hq with hq | rfl
    · exact h.sz q hq
    · exact hs
theorem GO.mins {w : World} {base g n c k : Nat} {L : List (OpV × Value)} {p : OpV} {V : Value} (h : GO w base g n c L) (hk : L[k]? = some (p, V)) (z : Int) :
    GO (w.setCell ⟨g, k * 3 + 1, none⟩ (.int .i64 z)) base g n c (L.set k (⟨p.nm, z, p.bf⟩, V)) ∧ w.grownBy (w.setCell ⟨g, k * 3 + 1, none⟩ (.int .i64 z)) (some g) := by
  have S := h.own.stored (k * 3 + 1) (.int .i64 z)
  have hg := grown_setO w g (k * 3 + 1) (.int .i64 z)
  refine ⟨⟨by have := S.1; rw [(opc_set hk).2.1] at this; exact this, fun j q U hj => ?_, fun j i q r U U' hji hj hi => ?_, fun q hq => ?_⟩, hg⟩
  · rcases set_get hj with ⟨rfl, e⟩ | ⟨_, e⟩
    · injection e with e1 e2
      subst e1
      subst e2
      have hn := h.nest j p U hk
      exact ⟨own_keepV hn.1 hg hn.2, hn.2⟩
    · have hn := h.nest j q U e
      exact ⟨own_keepV hn.1 hg hn.2, hn.2⟩
  · have fix : ∀ (i : Nat) (q : OpV) (U : Value), (L.set k (⟨p.nm, z, p.bf⟩, V))[i]? = some (q, U) → ∃ q', L[i]? = some (q', U) := fun i q U hi => by
      rcases set_get hi with ⟨rfl, e⟩ | ⟨_, e⟩
      · injection e with e1 e2
        subst e2
        exact ⟨_, hk⟩
      · exact ⟨_, e⟩
    obtain ⟨q1, h1⟩ := fix j q U hj
    obtain ⟨q2, h2⟩ := fix i r U' hi
    exact h.sep j i q1 q2 U U' hji h1 h2
  · rcases List.mem_or_eq_of_mem_set hq with hq | rfl
    · exact h.sz q hq
    · exact h.sz (p, V) (List.mem_of_getElem? hk)
/-- An operation's own slice has grown (to V1, in its own block or in a new one), and is stored again. -/
theorem GO.grow {w w1 : World} {base g n c k : Nat} {L : List (OpV × Value)} {p : OpV} {V V1 : Value} {bf : List Int} (h : GO w base g n c L) (hk : L[k]? = some (p, V)) (ho : w1.ownsRow base 2 1 V1 bf.length (ints bf)) (hg : w.grownBy w1 V.ownBlock) (hb : V1.ownBlock = V.ownBlock ∨ ∃ b, V1.ownBlock = some b ∧ w.heap.size ≤ b) :
    GO (w1.setCell ⟨g, k * 3 + 2, none⟩ V1) base g n c (L.set k (⟨p.nm, p.mn, bf⟩, V1)) := by
  have hV := h.nest k p V hk
  have hgl := (own_block h.own g rfl).2
  have hown : w1.ownsRow base 53 3 (.slice (some ⟨g, 0, none⟩) n c) n (opc L) := h.own.kept hg (.inr (fun e => hV.2 e.symm))
  have S := hown.stored (k * 3 + 2) V1
  have hgs := grown_setO w1 g (k * 3 + 2) V1
  have hV1 : V1.ownBlock ≠ some g := fun e => by
    rcases hb with hb | ⟨b, hb, hge⟩
    · rw [hb] at e; exact hV.2 e
    · rw [hb] at e
      injection e with e
      omega
  have far : ∀ (j : Nat) (q : OpV) (U : Value), j ≠ k → L[j]? = some (q, U) → ∀ b, U.ownBlock = some b → V1.ownBlock ≠ some b := fun j q U hjk hj b h1 h2 => by
    rcases hb with hb | ⟨b', hb, hge⟩
    · rw [hb] at h2
      exact h.sep j k q p U V hjk hj hk b h1 h2
    · rw [hb] at h2
      injection h2 with h2
      have := ((h.nest j q U hj).1.lt b h1).2
      omega
  refine ⟨by have := S.1; rw [(opc_set hk).2.2 bf V1] at this; exact this, fun j q U hj => ?_, fun j i q r U U' hji hj hi b h1 h2 => ?_, fun q hq => ?_⟩
  · rcases set_get hj with ⟨rfl, e⟩ | ⟨hjk, e⟩
    · injection e with e1 e2
      subst e1
      subst e2
      exact ⟨own_keepV ho hgs hV1, hV1⟩
    · have hn := h.nest j q U e
      refine ⟨own_keepV (hn.1.kept hg ?_) hgs hn.2, hn.2⟩
      cases hU : U.ownBlock with
      | none => exact .inl rfl
      | some b => exact .inr fun e' => h.sep j k q p U V hjk e hk b hU e'.symm
  · rcases set_get hj with ⟨rfl, e⟩ | ⟨hjk, e⟩
    · injection e with e1 e2
      subst e2
      rcases set_get hi with ⟨e3, _⟩ | ⟨hik, e3⟩
      · exact hji e3.symm
      · exact far i r U' hik e3 b h2 h1
    · rcases set_get hi with ⟨rfl, e3⟩ | ⟨hik, e3⟩
      · injection e3 with e4 e5
        subst e5
        exact far j q U hjk e b h1 h2
      · exact h.sep j i q r U U' hji e e3 b h1 h2
  · rcases List.mem_or_eq_of_mem_set hq with hq | rfl
    · exact h.sz q hq
    · exact h.sz (p, V) (List.mem_of_getElem? hk)
end Go.Proofs.YtgghjieeckkpbaaDoor
