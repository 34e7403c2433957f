/- Plain part of FnPlaces: the places rise; a place is told just where the piece fits; the largest rectangle. Plain lemmas; no program. -/
import Derived.Test.YtiibhejjeijdaaaDoorPo
import Derived.Test.YtiibhejjeijdaaaDoorLc
namespace Go.Proofs.YtiibhejjeijdaaaDoor
open Go.RowKit

def hasB (xs : List Int) (x : Int) : Bool := decide (x ∈ xs)
theorem hasB_yes {xs : List Int} {x : Int} {k : Nat} (h : xs[k]? = some x) : hasB xs x = true := decide_eq_true (List.mem_of_getElem? h)
theorem hasB_no {xs : List Int} {x : Int} (h : ∀ j y, j < xs.length → xs[j]? = some y → y ≠ x) : hasB xs x = false := by
  unfold hasB
  rw [decide_eq_false_iff_not]
  intro hm
  obtain ⟨j, hj, e⟩ := List.getElem_of_mem hm
  exact h j _ hj (List.getElem?_eq_getElem hj) e
theorem mem_filB {p : Nat → Bool} {x : Int} : ∀ {n : Nat}, x ∈ fil p n ↔ ∃ k, k < n ∧ x = (k : Int) ∧ p k = true
  | 0 => by simp [fil]
  | n + 1 => by
    have ih := mem_filB (p := p) (x := x) (n := n)
    cases hp : p n with
    | true =>
      rw [fil_yes hp, List.mem_append, List.mem_singleton, ih]
      constructor
      · rintro (⟨k, h, r⟩ | h)
        · exact ⟨k, by omega, r⟩
        · exact ⟨n, by omega, h, hp⟩
      · rintro ⟨k, h, e, r⟩
        by_cases hk : k = n
        · subst hk; exact .inr e
        · exact .inl ⟨k, by omega, e, r⟩
    | false =>
      rw [fil_no hp, ih]
      constructor
      · rintro ⟨k, h, r⟩
        exact ⟨k, by omega, r⟩
      · rintro ⟨k, h, e, r⟩
        by_cases hk : k = n
        · subst hk; rw [hp] at r; cases r
        · exact ⟨k, by omega, e, r⟩
theorem fil_bd {p : Nat → Bool} {n k : Nat} {x : Int} (h : (fil p n)[k]? = some x) : 0 ≤ x ∧ x < (n : Int) := by
  obtain ⟨j, hj, e, _⟩ := mem_filB.1 (List.mem_of_getElem? h)
  omega
theorem fil_rise {p : Nat → Bool} : ∀ (n k : Nat) (x y : Int), (fil p n)[k]? = some x → (fil p n)[k + 1]? = some y → x < y
  | 0, k, x, y, h, _ => by simp [fil] at h
  | n + 1, k, x, y, hx, hy => by
    cases hp : p n with
    | true =>
      rw [fil_yes hp] at hx hy
      have hl := (List.getElem?_eq_some_iff.1 hy).1
      rw [List.length_append] at hl
      simp at hl
      rw [List.getElem?_append_left (by omega)] at hx
      by_cases e : k + 1 < (fil p n).length
      · rw [List.getElem?_append_left e] at hy
        exact fil_rise n k x y hx hy
      · rw [List.getElem?_append_right (by omega), show k + 1 - (fil p n).length = 0 by omega] at hy
        simp at hy
        have := (fil_bd hx).2
        omega
    | false =>
      rw [fil_no hp] at hx hy
      exact fil_rise n k x y hx hy
theorem fil_has {p : Nat → Bool} {n f : Nat} (hf : f < n) : hasB (fil p n) (f : Int) = p f := by
  unfold hasB
  cases hp : p f with
  | true => exact decide_eq_true (mem_filB.2 ⟨f, hf, rfl, hp⟩)
  | false =>
    refine decide_eq_false fun h => ?_
    obtain ⟨k, _, e, r⟩ := mem_filB.1 h
    have : f = k := by omega
    subst this
    rw [hp] at r
    cases r
theorem pl_has {rs : List ByteArray} {n m H W y x : Nat} {ql : Int} (hy : y < n) (hx : x < m) : hasB (plL rs n m H W ql) ((y * m + x : Nat) : Int) = fitB rs n m H W ql (y * m + x) := by
  unfold plL
  refine fil_has ?_
  have h1 : (y + 1) * m ≤ n * m := Nat.mul_le_mul_right m hy
  rw [Nat.add_mul, Nat.one_mul] at h1
  omega
theorem at_div {y x m : Nat} (hx : x < m) : (y * m + x) / m = y ∧ (y * m + x) % m = x := by
  have hm : 0 < m := by omega
  rw [Nat.mul_comm]
  constructor
  · rw [Nat.mul_add_div hm, Nat.div_eq_of_lt hx]; rfl
  · rw [Nat.mul_add_mod, Nat.mod_eq_of_lt hx]
/-- What the law looks at at one field. -/
structure HereP (rs : List ByteArray) (n m H W : Nat) (ql : Int) (y x : Nat) (z : Bool) : Prop where
  no1 : ¬ y + H ≤ n → z = false
  no2 : ¬ x + W ≤ m → z = false
  bad : ∀ v u, y ≤ v → v < y + H → x ≤ u → u < x + W → ¬ ql ≤ qAt rs v u → z = false
  yes : y + H ≤ n → x + W ≤ m → GoodR rs y x W ql (y + H) x → z = true
theorem here_at {rs : List ByteArray} {n m H W y x : Nat} {ql : Int} (hx : x < m) : HereP rs n m H W ql y x (fitB rs n m H W ql (y * m + x)) := by
  obtain ⟨h1, h2⟩ := at_div (y := y) hx
  refine ⟨fun h => fitB_no fun f => h ?_, fun h => fitB_no fun f => h ?_, fun v u a b c d h => fitB_no fun f => h (f.good v u ?_ ?_ ?_ ?_), fun a b h => fitB_yes (h.fit h1 h2 a b)⟩
  · have := f.hh; rw [h1] at this; exact this
  · have := f.hw; rw [h2] at this; exact this
  · rw [h1]; exact a
  · rw [h1]; exact b
  · rw [h2]; exact c
  · rw [h2]; exact d

theorem lcS_le {rs : List ByteArray} {n m W H : Nat} {ql : Int} {st : Nat × Nat} : st.1 * st.2 ≤ (lcS rs n m ql st W H).1 * (lcS rs n m ql st W H).2 := by
  unfold lcS
  split
  · rename_i h; simp only; omega
  · exact Nat.le_refl _
theorem lcS_ge {rs : List ByteArray} {n m W H : Nat} {ql : Int} {st : Nat × Nat} (hp : 0 < (plL rs n m H W ql).length) : W * H ≤ (lcS rs n m ql st W H).1 * (lcS rs n m ql st W H).2 := by
  unfold lcS
  split
  · exact Nat.le_refl _
  · rename_i h
    simp only [not_and] at h
    by_cases h1 : st.1 * st.2 < W * H
    · exact absurd hp (h h1)
    · omega
/-- A state: none yet, or a rectangle that fits somewhere. -/
def StP (rs : List ByteArray) (n m : Nat) (ql : Int) (st : Nat × Nat) : Prop := st = (0, 0) ∨ (1 ≤ st.1 ∧ st.1 ≤ m ∧ 1 ≤ st.2 ∧ st.2 ≤ n ∧ 0 < (plL rs n m st.2 st.1 ql).length)
theorem lcS_st {rs : List ByteArray} {n m W H : Nat} {ql : Int} {st : Nat × Nat} (h : StP rs n m ql st) (hW : 1 ≤ W ∧ W ≤ m) (hH : 1 ≤ H ∧ H ≤ n) : StP rs n m ql (lcS rs n m ql st W H) := by
  unfold lcS
  split
  · rename_i hh
    exact .inr ⟨hW.1, hW.2, hH.1, hH.2, hh.2⟩
  · exact h
theorem lcH_le {rs : List ByteArray} {n m W : Nat} {ql : Int} {st : Nat × Nat} : ∀ k, st.1 * st.2 ≤ (lcH rs n m ql W st k).1 * (lcH rs n m ql W st k).2
  | 0 => Nat.le_refl _
  | k + 1 => by
    simp only [lcH]
    exact Nat.le_trans (lcH_le k) lcS_le
theorem lcH_ge {rs : List ByteArray} {n m W H : Nat} {ql : Int} {st : Nat × Nat} (hp : 0 < (plL rs n m H W ql).length) (h1 : 1 ≤ H) : ∀ k, H ≤ k → W * H ≤ (lcH rs n m ql W st k).1 * (lcH rs n m ql W st k).2
  | 0, h => by omega
  | k + 1, h => by
    simp only [lcH]
    by_cases e : H = k + 1
    · subst e; exact lcS_ge hp
    · exact Nat.le_trans (lcH_ge hp h1 k (by omega)) lcS_le
theorem lcH_st {rs : List ByteArray} {n m W : Nat} {ql : Int} {st : Nat × Nat} (h : StP rs n m ql st) (hW : 1 ≤ W ∧ W ≤ m) : ∀ k, k ≤ n → StP rs n m ql (lcH rs n m ql W st k)
  | 0, _ => h
  | k + 1, hk => by
    simp only [lcH]
    exact lcS_st (lcH_st h hW k (by omega)) hW ⟨by omega, hk⟩
theorem lcR_le {rs : List ByteArray} {n m M : Nat} {ql : Int} : ∀ W st, st.1 * st.2 ≤ (lcR rs n m ql M W st).1 * (lcR rs n m ql M W st).2
  | 0, _ => Nat.le_refl _
  | W + 1, st => by
    simp only [lcR]
    exact Nat.le_trans (lcH_le M) (lcR_le W _)
theorem lcR_ge {rs : List ByteArray} {n m M V H : Nat} {ql : Int} (hp : 0 < (plL rs n m H V ql).length) (h1 : 1 ≤ H) (h2 : H ≤ M) (hV : 1 ≤ V) : ∀ W st, V ≤ W → V * H ≤ (lcR rs n m ql M W st).1 * (lcR rs n m ql M W st).2
  | 0, _, h => by omega
  | W + 1, st, h => by
    simp only [lcR]
    by_cases e : V = W + 1
    · subst e; exact Nat.le_trans (lcH_ge hp h1 M h2) (lcR_le W _)
    · exact lcR_ge hp h1 h2 hV W _ (by omega)
theorem lcR_st {rs : List ByteArray} {n m M : Nat} {ql : Int} (hM : M ≤ n) : ∀ W st, W ≤ m → StP rs n m ql st → StP rs n m ql (lcR rs n m ql M W st)
  | 0, _, _, h => h
  | W + 1, st, hW, h => by
    simp only [lcR]
    exact lcR_st hM W _ (by omega) (lcH_st h ⟨by omega, hW⟩ M hM)
/-- What LargestCut tells of valid rows and a valid quality. -/
structure LargeP (rs : List ByteArray) (n m : Nat) (ql : Int) (st : Nat × Nat) : Prop where
  lie : StP rs n m ql st
  best : ∀ H W, 1 ≤ H → 1 ≤ W → 0 < (plL rs n m H W ql).length → W * H ≤ st.1 * st.2
theorem large_at {rs : List ByteArray} {n m : Nat} {ql : Int} (hn : rs.length = n) (hm : colN rs = m) : LargeP rs n m ql (lcT rs ql) := by
  unfold lcT
  rw [hn, hm]
  refine ⟨lcR_st (Nat.le_refl _) m _ (Nat.le_refl _) (.inl rfl), fun H W h1 h2 hp => ?_⟩
  have hW : W ≤ m ∧ H ≤ n := by
    by_cases e : m < W ∨ n < H
    · rw [pl_no e] at hp; simp at hp
    · omega
  exact lcR_ge hp h1 hW.2 h2 m _ hW.1
end Go.Proofs.YtiibhejjeijdaaaDoor
