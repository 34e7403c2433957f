/- Plain part of the law on rounds: what the answers of the operations' functions say. Plain lemmas; no program. -/
import Derived.Test.YtgghjieeckkpbaaCt
import Derived.Test.YtgghjieeckkpbaaLm
import Derived.Test.YtgghjieeckkpbaaNd
import Derived.Test.YtgghjieeckkpbaaRd
namespace Go.Proofs.Ytgghjieeckkpbaa
open Go.RowKit

theorem mkD_iff {n : Nat} {os : List Int} (hin : ∀ (j : Nat) (x : Int), os[j]? = some x → 0 ≤ x ∧ x < n) (k : Nat) : ∀ j, j ≤ os.length → (seenAt (mkD n os j) k = true ↔ (k : Int) ∈ os.take j)
  | 0, _ => by
    show seenAt (List.replicate n false) k = true ↔ _
    unfold seenAt
    simp only [List.getD, List.getElem?_replicate, List.take_zero]
    split <;> simp
  | j + 1, hj => by
    have ih := mkD_iff hin k j (by omega)
    have hx := List.getElem?_eq_getElem (l := os) (i := j) (by omega)
    have hr := hin j _ hx
    obtain ⟨y, hy⟩ := Int.eq_ofNat_of_zero_le hr.1
    rw [hy] at hx hr
    rw [mkD_step hx, seen_set (by rw [mkD_len]; omega), List.take_add_one, hx]
    simp only [Option.toList_some, List.mem_append, List.mem_singleton]
    rw [← ih]
    by_cases e : k = y
    · rw [if_pos e]; simp [e]
    · rw [if_neg e]
      constructor
      · exact .inl
      · rintro (h | h)
        · exact h
        · omega
/-- What is ready is not done, and all before it is. -/
theorem rd_ready {ops : List OpV} {os R : List Int} (h : rdZ ops os = (R, 0)) {i : Nat} {x : Int} (hx : R[i]? = some x) :
    ∃ (k : Nat) (p : OpV), x = (k : Int) ∧ ops[k]? = some p ∧ hasB os x = false ∧ ∀ (j : Nat) (b : Int), p.bf[j]? = some b → hasB os b = true := by
  unfold rdZ at h
  split at h
  · split at h
    · rename_i hok hinc
      injection h with h _
      have hin := inc_in hinc
      subst h
      have hm := List.mem_of_getElem? hx
      obtain ⟨k, hk, e, hc⟩ := mem_fil hm
      subst e
      have hp := List.getElem?_eq_getElem (l := ops) (i := k) hk
      obtain ⟨c1, c2⟩ := can_iff.1 hc
      refine ⟨k, _, rfl, hp, ?_, fun j b hb => ?_⟩
      · unfold hasB
        rw [decide_eq_false_iff_not]
        intro hmem
        have := (mkD_iff hin k os.length (Nat.le_refl _)).2 (by rw [List.take_of_length_le (Nat.le_refl _)]; exact hmem)
        rw [c1] at this
        cases this
      · have hbm : b ∈ (bfsO ops).getD k [] := by rw [bf_at hp]; exact List.mem_of_getElem? hb
        have hs := c2 b hbm
        have hbr := (bfs_ok (okO_true hok) rfl).hb k b hbm
        obtain ⟨q, rfl⟩ := Int.eq_ofNat_of_zero_le hbr.1
        rw [Int.toNat_natCast] at hs
        have := (mkD_iff hin q os.length (Nat.le_refl _)).1 hs
        rw [List.take_of_length_le (Nat.le_refl _)] at this
        exact decide_eq_true this
    · injection h with _ h; omega
  · injection h with _ h; omega
where
  mem_fil {p : Nat → Bool} : ∀ {n : Nat} {x : Int}, x ∈ fil p n → ∃ k, k < n ∧ x = (k : Int) ∧ p k = true
    | 0, _, h => by simp [fil] at h
    | n + 1, x, h => by
      cases hp : p n with
      | true =>
        rw [fil_yes hp] at h
        rcases List.mem_append.1 h with h | h
        · obtain ⟨k, hk, r⟩ := mem_fil h; exact ⟨k, by omega, r⟩
        · simp at h; exact ⟨n, by omega, h, hp⟩
      | false =>
        rw [fil_no hp] at h
        obtain ⟨k, hk, r⟩ := mem_fil h
        exact ⟨k, by omega, r⟩
/-- The codes of the four, and that there is an order where they are counted. -/
theorem co_code {ops : List OpV} : ((roZ ops).2 ≠ 0 → (coZ ops).2 ≠ 0) ∧ ((roZ ops).2 = 0 → codeO ops = 0) ∧ ((coZ ops).2 = 0 → 1 ≤ (coZ ops).1) := by
  by_cases h : codeO ops = 0
  · obtain ⟨hok, hc⟩ := codeO_ok h
    have hb := bfs_ok hok rfl
    refine ⟨fun e => by rw [roZ_ok h] at e; exact absurd rfl e, fun _ => h, fun e => ?_⟩
    by_cases hn : ops.length ≤ 10
    · rw [coZ_ok h rfl hn]
      exact waysR_pos hb.hn hb.hb hb.hl hc _ _ (Nat.two_pow_pos _) rfl
    · rw [coZ_big h rfl hn] at e
      cases e
  · refine ⟨fun _ => by rw [coZ_no h]; exact h, fun e => by rw [roZ_no h] at e; exact absurd e h, fun e => by rw [coZ_no h] at e; exact absurd e h⟩

/-- The weights of the marked ones. -/
def wS (wt : Nat → Int) (d : List Bool) (n : Nat) : Int := sumK (fun k => if seenAt d k = true then wt k else 0) n
theorem wS_same {wt : Nat → Int} {d d' : List Bool} : ∀ {n : Nat}, (∀ k, k < n → seenAt d k = seenAt d' k) → wS wt d n = wS wt d' n := fun h => sumK_congr fun k hk => by simp only [h k hk]
theorem wS_set {wt : Nat → Int} {d : List Bool} {k : Nat} (hk : k < d.length) (hs : seenAt d k = false) : ∀ n, k < n → wS wt (d.set k true) n = wS wt d n + wt k
  | 0, h => absurd h (Nat.not_lt_zero _)
  | n + 1, h => by
    have e : ∀ (d : List Bool), wS wt d (n + 1) = wS wt d n + (if seenAt d n = true then wt n else 0) := fun _ => rfl
    rw [e, e]
    by_cases hkn : k = n
    · subst hkn
      have h1 : wS wt (d.set k true) k = wS wt d k := wS_same fun j hj => by rw [seen_set hk, if_neg (by omega)]
      rw [h1, seen_set hk, if_pos rfl, hs]
      simp
    · rw [wS_set hk hs n (by omega), seen_set hk, if_neg (show ¬ n = k by omega)]
      omega
theorem wS_le {wt : Nat → Int} (hw : ∀ k, 0 ≤ wt k) (d : List Bool) : ∀ n, wS wt d n ≤ sumK wt n
  | 0 => Int.le_refl _
  | n + 1 => by
    have ih := wS_le hw d n
    have h1 := hw n
    show wS wt d n + (if seenAt d n = true then wt n else 0) ≤ sumK wt n + wt n
    split <;> omega
theorem wS_nn {wt : Nat → Int} (hw : ∀ k, 0 ≤ wt k) (d : List Bool) : ∀ n, 0 ≤ wS wt d n
  | 0 => Int.le_refl _
  | n + 1 => by
    have ih := wS_nn hw d n
    have h1 := hw n
    show 0 ≤ wS wt d n + (if seenAt d n = true then wt n else 0)
    split <;> omega
theorem endG_sum {bfs : List (List Int)} {n : Nat} {wt : Nat → Int} (hw : ∀ k, 0 ≤ wt k) (hb : ∀ (i : Nat) (x : Int), x ∈ bfs.getD i [] → 0 ≤ x ∧ x < n) (hl : bfs.length = n) (hc : ∀ j, ¬ Rch (Eb bfs) j j) : ∀ r, r ≤ n → ∀ j, 0 ≤ (endG bfs wt n r).getD j 0 ∧ (endG bfs wt n r).getD j 0 ≤ wS wt (ordG bfs n r).2 n
  | 0, _, j => by
    have h0 : (endG bfs wt n 0).getD j 0 = 0 := by
      show (List.replicate n (0 : Int)).getD j 0 = 0
      simp only [List.getD, List.getElem?_replicate]
      split <;> rfl
    rw [h0]
    exact ⟨Int.le_refl _, wS_nn hw _ n⟩
  | r + 1, hr, j => by
    have ih := endG_sum hw hb hl hc r (by omega)
    have hI := ordG_ok hb hl hc r (by omega)
    have hE := endG_ok wt hb hl hc r (by omega)
    cases hn : nextK bfs n (ordG bfs n r).2 with
    | none => exact absurd hn (hI.2 (by omega))
    | some k =>
      obtain ⟨hk, hck⟩ := next_some hn
      have e1 : (ordG bfs n (r + 1)).2 = (ordG bfs n r).2.set k true := by
        show (match nextK bfs n (ordG bfs n r).2 with
          | some k => ((ordG bfs n r).1 ++ [(k : Int)], (ordG bfs n r).2.set k true)
          | none => ordG bfs n r).2 = _
        rw [hn]
      have e2 : endG bfs wt n (r + 1) = (endG bfs wt n r).set k (mx (endG bfs wt n r) (bfs.getD k []) + wt k) := by
        show (match nextK bfs n (ordG bfs n r).2 with
          | some k => (endG bfs wt n r).set k (mx (endG bfs wt n r) (bfs.getD k []) + wt k)
          | none => endG bfs wt n r) = _
        rw [hn]
      have hs := (can_iff.1 hck).1
      have hM := mx_bd (wS_nn hw (ordG bfs n r).2 n) ih (bfs.getD k [])
      have hwk := hw k
      have hj := ih j
      rw [e1, e2, wS_set (by rw [hE.dl]; exact hk) hs n hk, getD_set (by rw [hE.ol]; exact hk)]
      split <;> omega
theorem fold_le {M : Int} : ∀ (l : List Int) (a : Int), a ≤ M → (∀ x ∈ l, x ≤ M) → l.foldl max a ≤ M
  | [], a, h, _ => h
  | x :: l, a, h, hl => fold_le l (max a x) (by have := hl x (by simp); omega) (fun y hy => hl y (by simp [hy]))
theorem fold_ge : ∀ (l : List Int) (a : Int), a ≤ l.foldl max a ∧ ∀ x ∈ l, x ≤ l.foldl max a
  | [], a => ⟨Int.le_refl _, by simp⟩
  | x :: l, a => by
    obtain ⟨h1, h2⟩ := fold_ge l (max a x)
    have hm1 := Int.le_max_left a x
    have hm2 := Int.le_max_right a x
    refine ⟨by simp only [List.foldl_cons]; omega, fun y hy => ?_⟩
    rcases List.mem_cons.1 hy with e | hy
    · subst e; simp only [List.foldl_cons]; omega
    · exact h2 y hy
theorem maxL_le {l : List Int} {M : Int} (h0 : 0 ≤ M) (h : ∀ x ∈ l, x ≤ M) : maxL l ≤ M := fold_le l 0 h0 h
theorem maxL_ge {l : List Int} : 0 ≤ maxL l ∧ ∀ x ∈ l, x ≤ maxL l := fold_ge l 0
/-- The minutes of the first k together, and the greatest. -/
def smK (ops : List OpV) (k : Nat) : Int := sumK (wtM ops) k
def tpK (ops : List OpV) : Nat → Int
  | 0 => 0
  | k + 1 => max (tpK ops k) (wtM ops k)
theorem tpK_le {ops : List OpV} {M : Int} (h0 : 0 ≤ M) : ∀ {k : Nat}, (∀ j, j < k → wtM ops j ≤ M) → tpK ops k ≤ M
  | 0, _ => h0
  | k + 1, h => by
    have ih := tpK_le h0 (k := k) (fun j hj => h j (by omega))
    have := h k (by omega)
    simp only [tpK]
    omega
/-- What the law says of valid operations without a circle. -/
structure RdLaw (ops : List OpV) (n : Nat) (E : List Int) (least : Int) : Prop where
  el : E.length = n
  val : ∀ (i : Nat) (p : OpV), ops[i]? = some p → E.getD i 0 = mx E p.bf + 1
  bd : ∀ j, 0 ≤ E.getD j 0 ∧ E.getD j 0 ≤ 8400
  top : tpK ops n ≤ least
  sum : least ≤ smK ops n
  mn : ∀ (i : Nat) (p : OpV), ops[i]? = some p → 1 ≤ p.mn ∧ p.mn ≤ 600 ∧ wtM ops i = p.mn
  inn : ∀ (i : Nat) (p : OpV), ops[i]? = some p → ∀ (j : Nat) (b : Int), p.bf[j]? = some b → 0 ≤ b ∧ b < n
  smb : ∀ k, k ≤ n → 0 ≤ smK ops k ∧ smK ops k ≤ 600 * (k : Int)
theorem rd_law {ops : List OpV} {n : Nat} (hc0 : codeO ops = 0) (hl : ops.length = n) : RdLaw ops n (endL ops (wtR ops)) (maxL (endL ops (wtM ops))) := by
  obtain ⟨hok, hc⟩ := codeO_ok hc0
  have hb := bfs_ok hok hl
  have hI := (ordG_ok hb.hb hb.hl hc n (Nat.le_refl _)).1
  have eW : ∀ wt, endL ops wt = endG (bfsO ops) wt n n := fun wt => by unfold endL; rw [hl]
  have hA := all_seen hI
  have hER := endG_ok (wtR ops) hb.hb hb.hl hc n (Nat.le_refl _)
  have hEM := endG_ok (wtM ops) hb.hb hb.hl hc n (Nat.le_refl _)
  have hwM := fun k => (wtM_bd hok k).1
  have hsum := endG_sum hwM hb.hb hb.hl hc n (Nat.le_refl _)
  have hleS := wS_le hwM (ordG (bfsO ops) n n).2 n
  refine ⟨by rw [eW]; exact hER.ol, fun i p hp => ?_, fun j => endL_bd (wtR_bd ops) hok j, ?_, ?_, fun i p hp => ?_, fun i p hp j b hbj => ?_, fun k hk => sumK_bd (fun j => wtM_bd hok j) k⟩
  · have hi : i < n := by have := (List.getElem?_eq_some_iff.1 hp).1; omega
    rw [eW, hER.val i hi (hA i hi), bf_at hp]
    rfl
  · refine tpK_le maxL_ge.1 fun j hj => ?_
    have hv := hEM.val j hj (hA j hj)
    have hm := (mx_bd (wS_nn hwM (ordG (bfsO ops) n n).2 n) hsum ((bfsO ops).getD j [])).1
    have hmem : (endG (bfsO ops) (wtM ops) n n).getD j 0 ∈ endL ops (wtM ops) := by
      rw [eW]
      have hx := getD_of (l := endG (bfsO ops) (wtM ops) n n) (j := j) (by rw [hEM.ol]; exact hj)
      exact List.mem_of_getElem? hx
    have := maxL_ge.2 _ hmem
    omega
  · refine maxL_le ?_ fun x hx => ?_
    · exact (sumK_bd (fun j => wtM_bd hok j) n).1
    · rw [eW] at hx
      obtain ⟨j, hj⟩ := List.getElem?_of_mem hx
      have hjl := (List.getElem?_eq_some_iff.1 hj).1
      rw [getD_of hjl] at hj
      injection hj with hj
      have := (hsum j).2
      show x ≤ sumK (wtM ops) n
      omega
  · have := mn_leX hok hp
    exact ⟨this.1, this.2, wtM_at hp⟩
  · exact hb.hb i b (by rw [bf_at hp]; exact List.mem_of_getElem? hbj)
where
  mn_leX {ops : List OpV} (h : OOk ops) {k : Nat} {p : OpV} (hp : ops[k]? = some p) : 1 ≤ p.mn ∧ p.mn ≤ 600 := inB_true (h.op k p hp).2.1
theorem nd_pair {bfs : List (List Int)} : ∀ {n : Nat} {q : List Int}, q ∈ ndO bfs n → ∃ (i : Nat) (x : Int), i < n ∧ x ∈ bfs.getD i [] ∧ q = [(i : Int), x]
  | 0, _, h => by simp [ndO] at h
  | n + 1, q, h => by
    simp only [ndO, List.mem_append] at h
    rcases h with h | h
    · obtain ⟨i, x, hi, r⟩ := nd_pair h
      exact ⟨i, x, by omega, r⟩
    · unfold ndI at h
      obtain ⟨x, hx, rfl⟩ := List.mem_map.1 h
      exact ⟨n, x, by omega, (List.mem_filter.1 hx).1, rfl⟩
/-- A needless condition is one. -/
theorem nd_law {ops : List OpV} {t : Nat} {q : List Int} (h : (ndZ ops).1[t]? = some q) : ∃ (i : Nat) (p : OpV) (x : Int), ops[i]? = some p ∧ q = [(i : Int), x] ∧ hasB p.bf x = true := by
  by_cases hc : codeO ops = 0
  · rw [ndZ_ok hc rfl] at h
    obtain ⟨i, x, hi, hx, rfl⟩ := nd_pair (List.mem_of_getElem? h)
    have hp := List.getElem?_eq_getElem (l := ops) (i := i) hi
    rw [bf_at hp] at hx
    exact ⟨i, _, x, hp, rfl, decide_eq_true hx⟩
  · rw [ndZ_no hc] at h
    simp at h
theorem mx_take {E : List Int} {l : List Int} {j x : Nat} (h : l[j]? = some (x : Int)) : mx E (l.take (j + 1)) = max (mx E (l.take j)) (E.getD x 0) := by
  rw [List.take_add_one, h]
  exact mx_snoc _ _ _
end Go.Proofs.Ytgghjieeckkpbaa
