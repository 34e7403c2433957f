/- Plain part of the law on orders: what AllBefore, OrderOfOps, IsOpOrder, CircleOf say together. Plain lemmas; no program. -/
import Derived.Test.YtgghjieeckkpbaaDoorAb
import Derived.Test.YtgghjieeckkpbaaDoorIo
import Derived.Test.YtgghjieeckkpbaaDoorOg
namespace Go.Proofs.YtgghjieeckkpbaaDoor
open Go.RowKit

theorem mkD_iffA {n : Nat} {os : List Int} (hin : ∀ (j : Nat) (x : Int), os[j]? = some x → 0 ≤ x ∧ x < n) (k : Nat) : ∀ j, j ≤ os.length → (seenAt (mkD n os j) k = true ↔ (k : Int) ∈ os.take j)
  | 0, _ => by
    show seenAt (List.replicate n false) k = true ↔ _
    unfold seenAt
    simp only [List.getD, List.getElem?_replicate, List.take_zero]
    split <;> simp
  | j + 1, hj => by
    have ih := mkD_iffA hin k j (by omega)
    have hx := List.getElem?_eq_getElem (l := os) (i := j) (by omega)
    have hr := hin j _ hx
    obtain ⟨y, hy⟩ := Int.eq_ofNat_of_zero_le hr.1
    rw [hy] at hx hr
    rw [mkD_step hx, seen_set (by rw [mkD_len]; omega), List.take_add_one, hx]
    simp only [Option.toList_some, List.mem_append, List.mem_singleton]
    rw [← ih]
    by_cases e : k = y
    · rw [if_pos e]; simp [e]
    · rw [if_neg e]
      constructor
      · exact .inl
      · rintro (h | h)
        · exact h
        · omega
theorem mem_filA {p : Nat → Bool} : ∀ {n : Nat} {x : Int}, x ∈ fil p n → ∃ k, k < n ∧ x = (k : Int) ∧ p k = true
  | 0, _, h => by simp [fil] at h
  | n + 1, x, h => by
    cases hp : p n with
    | true =>
      rw [fil_yes hp] at h
      rcases List.mem_append.1 h with h | h
      · obtain ⟨k, hk, r⟩ := mem_filA h; exact ⟨k, by omega, r⟩
      · simp at h; exact ⟨n, by omega, h, hp⟩
    | false =>
      rw [fil_no hp] at h
      obtain ⟨k, hk, r⟩ := mem_filA h
      exact ⟨k, by omega, r⟩
theorem fil_memA {p : Nat → Bool} {k : Nat} (hp : p k = true) : ∀ {n : Nat}, k < n → (k : Int) ∈ fil p n
  | 0, h => absurd h (Nat.not_lt_zero _)
  | n + 1, h => by
    by_cases e : k = n
    · subst e; rw [fil_yes hp]; simp
    · have ih := fil_memA hp (n := n) (by omega)
      cases hn : p n with
      | true => rw [fil_yes hn]; exact List.mem_append.2 (.inl ih)
      | false => rw [fil_no hn]; exact ih
/-- What must be done before one of these, must be done before. -/
theorem ab_more {ops : List OpV} {z : Int} {R : List Int} (h : abZ ops z = (R, 0)) {i : Nat} {x : Int} (hx : R[i]? = some x) :
    ∃ S, abZ ops x = (S, 0) ∧ ∀ (j : Nat) (y : Int), S[j]? = some y → hasB R y = true := by
  unfold abZ at h
  split at h
  · split at h
    · rename_i hok hin
      injection h with h _
      subst h
      obtain ⟨k, hk, rfl, hp⟩ := mem_filA (List.mem_of_getElem? hx)
      refine ⟨_, abZ_yes hok rfl (inB_mk (by omega) (by omega)), fun j y hy => ?_⟩
      obtain ⟨q, hq, rfl, hpq⟩ := mem_filA (List.mem_of_getElem? hy)
      refine decide_eq_true (fil_memA ?_ hq)
      rw [rchB_iff] at hp hpq ⊢
      exact hp.trans hpq
    · injection h with _ h; omega
  · injection h with _ h; omega
theorem pth_before {bfs : List (List Int)} {n : Nat} {o : List Int} {d : List Bool} (ho : OrdI bfs n n o d) : ∀ (l : List Nat) (i k y : Nat), o[i]? = some (k : Int) → Pth (Eb bfs) k l y → (y : Int) ∈ o.take i
  | [], i, k, y, hi, hp => ho.bef i k hi _ hp
  | m :: l, i, k, y, hi, hp => by
    obtain ⟨h1, h2⟩ := hp
    have hm := ho.bef i k hi _ h1
    obtain ⟨j, hj⟩ := List.getElem?_of_mem hm
    have hjl := (List.getElem?_eq_some_iff.1 hj).1
    rw [List.length_take] at hjl
    rw [List.getElem?_take_of_lt (by omega)] at hj
    have ih := pth_before ho l j m y hj h2
    have e : o.take j = (o.take i).take j := by rw [List.take_take]; congr 1; omega
    rw [e] at ih
    exact List.mem_of_mem_take ih
/-- What the law says where there is an order. -/
structure OrdLaw (ops : List OpV) (n : Nat) (O : List Int) : Prop where
  ol : O.length = n
  iso : isO ops O = (true, 0)
  bef : ∀ (i : Nat) (x : Int), O[i]? = some x → ∃ S, abZ ops x = (S, 0) ∧ ∀ (j : Nat) (y : Int), S[j]? = some y → hasB (O.take i) y = true
theorem ord_law {ops : List OpV} {n : Nat} (hc0 : codeO ops = 0) (hl : ops.length = n) : OrdLaw ops n (ordL ops) := by
  obtain ⟨hok, hc⟩ := codeO_ok hc0
  have hq := ok_yes hok
  have hb := bfs_ok hok hl
  have hI := (ordG_ok hb.hb hb.hl hc n (Nat.le_refl _)).1
  have eO : ordL ops = (ordG (bfsO ops) n n).1 := by unfold ordL; rw [hl]
  rw [eO]
  generalize ordG (bfsO ops) n n = P at *
  obtain ⟨O, d⟩ := P
  simp only at *
  have hin : ∀ (j : Nat) (x : Int), O[j]? = some x → 0 ≤ x ∧ x < n := fun j x hx => hI.rg x (List.mem_of_getElem? hx)
  have hgo : ∀ r, r ≤ n → goO (bfsO ops) (mkD n O (n - r)) (O.drop (n - r)) = true := by
    intro r
    induction r with
    | zero => intro _; rw [goO_end (by have := hI.ol; omega)]
    | succ r ih =>
      intro hr
      have hj : n - (r + 1) < O.length := by have := hI.ol; omega
      have hx := List.getElem?_eq_getElem (l := O) (i := n - (r + 1)) hj
      obtain ⟨k, hk⟩ := Int.eq_ofNat_of_zero_le (hin _ _ hx).1
      rw [hk] at hx
      have hkn := (hin _ _ hx).2
      have hcan : canB (bfsO ops) (mkD n O (n - (r + 1))) k = true := by
        refine can_iff.2 ⟨?_, fun b hbm => ?_⟩
        · cases hs : seenAt (mkD n O (n - (r + 1))) k with
          | false => rfl
          | true =>
            exfalso
            have hm := (mkD_iffA hin k _ (by omega)).1 hs
            obtain ⟨q, hq⟩ := List.getElem?_of_mem hm
            have hql := (List.getElem?_eq_some_iff.1 hq).1
            rw [List.length_take] at hql
            rw [List.getElem?_take_of_lt (by omega)] at hq
            have h1 := (List.getElem?_eq_some_iff.1 hq)
            have h2 := (List.getElem?_eq_some_iff.1 hx)
            exact List.pairwise_iff_getElem.1 hI.nd q (n - (r + 1)) h1.1 h2.1 (by omega) (h1.2.trans h2.2.symm)
        · have hm := hI.bef _ k hx b hbm
          have hbr := hb.hb k b hbm
          obtain ⟨q, rfl⟩ := Int.eq_ofNat_of_zero_le hbr.1
          exact (mkD_iffA hin q _ (by omega)).2 hm
      rw [goO_yes hx hcan, ← mkD_step hx]
      have e : n - (r + 1) + 1 = n - r := by omega
      rw [e]
      exact ih (by omega)
  have hg0 := hgo n (Nat.le_refl _)
  rw [Nat.sub_self] at hg0
  refine ⟨hI.ol, ?_, fun i x hx => ?_⟩
  · rw [isO_yes hq hl hI.ol (out_all (m := n) (by have := hI.ol; omega) fun y hy => by
      have := hI.rg y (List.mem_of_mem_take hy)
      exact inB_mk (by omega) (by omega)) hg0]
    simp
  · have hr := hin i x hx
    obtain ⟨k, rfl⟩ := Int.eq_ofNat_of_zero_le hr.1
    refine ⟨_, abZ_yes hq hl (inB_mk (by omega) (by omega)), fun j y hy => ?_⟩
    obtain ⟨q, hqn, rfl, hpq⟩ := mem_filA (List.mem_of_getElem? hy)
    rw [rchB_iff] at hpq
    obtain ⟨l, hp⟩ := hpq
    exact decide_eq_true (pth_before hI l i k q hx hp)
/-- The codes. -/
theorem og_code {ops : List OpV} : ((circP ops).2 = 0 → (decide (0 ≤ (circP ops).1)) = ((ogZ ops).2 == 9)) ∧ ((ogZ ops).2 = 0 → codeO ops = 0 ∧ (ogZ ops).1 = ordL ops) := by
  by_cases h : codeO ops = 0
  · have hz : ogZ ops = (ordL ops, 0) := by unfold ogZ; rw [if_pos h]
    refine ⟨fun e => ?_, fun _ => ⟨h, by rw [hz]⟩⟩
    rw [hz]
    unfold codeO at h
    unfold circP at e ⊢
    split at e
    · rename_i hok
      rw [if_pos hok] at h ⊢
      split at h
      · omega
      · rename_i hn
        simp only [decide_eq_false hn]
        rfl
    · simp at e
  · have hz : ogZ ops = ([], codeO ops) := by unfold ogZ; rw [if_neg h]
    refine ⟨fun e => ?_, fun e => by rw [hz] at e; exact absurd e h⟩
    rw [hz]
    unfold circP at e ⊢
    split at e
    · rename_i hok
      have hc : codeO ops = if 0 ≤ circZ (bfsO ops) ops.length then 9 else 0 := by unfold codeO; rw [if_pos hok]
      rw [if_pos hok]
      by_cases hn : 0 ≤ circZ (bfsO ops) ops.length
      · rw [if_pos hn] at hc
        simp only [decide_eq_true hn, hc]
        rfl
      · rw [if_neg hn] at hc
        exact absurd hc h
    · simp at e
end Go.Proofs.YtgghjieeckkpbaaDoor
