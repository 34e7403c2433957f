/- Longest ways (pure part): what the walks of longest and l13Ends keep; that it is unique. Plain lemmas; no program. -/
import Derived.Test.YtgghjieeckkpbaaRc
namespace Go.Proofs.Ytgghjieeckkpbaa

/-- The greatest of the numbers at some places, at least 0. -/
def mx (out : List Int) (l : List Int) : Int := l.foldl (fun m b => max m (out.getD b.toNat 0)) 0
theorem mx_nil (out : List Int) : mx out [] = 0 := rfl
theorem mx_snoc (out : List Int) (l : List Int) (b : Int) : mx out (l ++ [b]) = max (mx out l) (out.getD b.toNat 0) := by simp [mx, List.foldl_append]
theorem fold_congr {out out' : List Int} : ∀ (l : List Int) (m : Int), (∀ b ∈ l, out.getD b.toNat 0 = out'.getD b.toNat 0) → l.foldl (fun m b => max m (out.getD b.toNat 0)) m = l.foldl (fun m b => max m (out'.getD b.toNat 0)) m
  | [], _, _ => rfl
  | b :: l, m, h => by
    simp only [List.foldl_cons]
    rw [h b (by simp)]
    exact fold_congr l _ (fun x hx => h x (by simp [hx]))
theorem mx_congr {out out' : List Int} {l : List Int} (h : ∀ b ∈ l, out.getD b.toNat 0 = out'.getD b.toNat 0) : mx out l = mx out' l := fold_congr l 0 h
theorem getD_set {l : List Int} {k j : Nat} {v : Int} (hk : k < l.length) : (l.set k v).getD j 0 = if j = k then v else l.getD j 0 := by
  simp only [List.getD]
  by_cases h : j = k
  · subst h
    rw [List.getElem?_set_self hk, if_pos rfl]
    rfl
  · rw [List.getElem?_set_ne (by omega), if_neg h]
/-- What holds while the ends grow: of the marked ones each is its own weight behind the greatest of those before it. -/
structure EdI (bfs : List (List Int)) (wt : Nat → Int) (n : Nat) (d : List Bool) (out : List Int) : Prop where
  ol : out.length = n
  dl : d.length = n
  clo : ∀ k, seenAt d k = true → ∀ b ∈ bfs.getD k [], seenAt d b.toNat = true
  val : ∀ k, k < n → seenAt d k = true → out.getD k 0 = mx out (bfs.getD k []) + wt k
  zero : ∀ k, k < n → seenAt d k = false → out.getD k 0 = 0
theorem edI0 (bfs : List (List Int)) (wt : Nat → Int) (n : Nat) : EdI bfs wt n (List.replicate n false) (List.replicate n 0) := by
  have hs : ∀ k, seenAt (List.replicate n false) k = false := by
    intro k
    unfold seenAt
    simp only [List.getD, List.getElem?_replicate]
    split <;> rfl
  refine ⟨by simp, by simp, fun k h => ?_, fun k _ h => ?_, fun k _ _ => ?_⟩
  · rw [hs k] at h; cases h
  · rw [hs k] at h; cases h
  · simp only [List.getD, List.getElem?_replicate]
    split <;> rfl
theorem EdI.step {bfs : List (List Int)} {wt : Nat → Int} {n : Nat} {d : List Bool} {out : List Int} (h : EdI bfs wt n d out) {k : Nat} (hk : k < n) (hc : canB bfs d k = true) :
    EdI bfs wt n (d.set k true) (out.set k (mx out (bfs.getD k []) + wt k)) := by
  obtain ⟨h1, h2⟩ := can_iff.1 hc
  have hk' : k < out.length := by rw [h.ol]; exact hk
  have hsame : ∀ l : List Int, (∀ b ∈ l, seenAt d b.toNat = true) → mx (out.set k (mx out (bfs.getD k []) + wt k)) l = mx out l := fun l hl => mx_congr fun b hb => by
    rw [getD_set hk', if_neg]
    intro e
    have := hl b hb
    rw [e, h1] at this
    cases this
  refine ⟨by simp [h.ol], by simp [h.dl], fun j hj b hb => ?_, fun j hj hs => ?_, fun j hj hs => ?_⟩
  · rw [seen_set (by rw [h.dl]; exact hk)]
    split
    · rfl
    · rw [seen_set (by rw [h.dl]; exact hk)] at hj
      split at hj
      · rename_i e
        subst e
        exact h2 b hb
      · exact h.clo j hj b hb
  · rw [seen_set (by rw [h.dl]; exact hk)] at hs
    rw [getD_set hk']
    split at hs
    · rename_i e
      subst e
      rw [if_pos rfl, hsame _ h2]
    · rename_i e
      rw [if_neg e, hsame _ (h.clo j hs)]
      exact h.val j hj hs
  · rw [seen_set (by rw [h.dl]; exact hk)] at hs
    split at hs
    · cases hs
    · rename_i e
      rw [getD_set hk', if_neg e]
      exact h.zero j hj hs
/-- All places stand in a whole order. -/
theorem ord_all {bfs : List (List Int)} {n : Nat} {o : List Int} {dd : List Bool} (ho : OrdI bfs n n o dd) : ∀ k, k < n → (k : Int) ∈ o := by
  intro k hk
  have hsub := List.Nodup.length_le_of_subset (l₁ := (k : Int) :: o) (l₂ := upto n)
  apply Classical.byContradiction
  intro hno
  have := hsub (List.nodup_cons.2 ⟨hno, ho.nd⟩) (fun x hx => by
    rcases List.mem_cons.1 hx with rfl | hx
    · exact upto_mem'.2 (by omega)
    · exact upto_mem'.2 (ho.rg x hx))
  rw [upto_len] at this
  simp [ho.ol] at this
  omega
/-- The ends are unique, once all are marked. -/
theorem ed_uniq {bfs : List (List Int)} {wt : Nat → Int} {n : Nat} {d d' dd : List Bool} {out out' o : List Int} (h : EdI bfs wt n d out) (h' : EdI bfs wt n d' out') (ho : OrdI bfs n n o dd) (ha : ∀ k, k < n → seenAt d k = true) (ha' : ∀ k, k < n → seenAt d' k = true) : out = out' := by
  have key : ∀ r, r ≤ n → ∀ b ∈ o.take r, out.getD b.toNat 0 = out'.getD b.toNat 0 := by
    intro r
    induction r with
    | zero => intro _ b hb; simp at hb
    | succ r ih =>
      intro hr b hb
      have hx := List.getElem?_eq_getElem (l := o) (i := r) (by rw [ho.ol]; omega)
      rw [List.take_add_one, hx] at hb
      rcases List.mem_append.1 hb with hb | hb
      · exact ih (by omega) b hb
      · simp at hb
        have hrg := ho.rg b (by rw [hb]; exact List.getElem_mem _)
        obtain ⟨y, rfl⟩ := Int.eq_ofNat_of_zero_le hrg.1
        rw [← hb] at hx
        have hyn : y < n := by omega
        rw [Int.toNat_natCast, h.val y hyn (ha y hyn), h'.val y hyn (ha' y hyn)]
        congr 1
        exact mx_congr fun z hz => ih (by omega) z (ho.bef r y hx z hz)
  have hmem := ord_all ho
  apply List.ext_getElem?
  intro j
  by_cases hj : j < n
  · have hm := hmem j hj
    have := key n (Nat.le_refl _) j (by rw [List.take_of_length_le (by rw [ho.ol]; exact Nat.le_refl _)]; exact hm)
    rw [Int.toNat_natCast] at this
    rw [getD_of (by rw [h.ol]; exact hj), getD_of (by rw [h'.ol]; exact hj), this]
  · rw [List.getElem?_eq_none (by rw [h.ol]; omega), List.getElem?_eq_none (by rw [h'.ol]; omega)]
/-- The ends behind r steps of the first order. -/
def endG (bfs : List (List Int)) (wt : Nat → Int) (n : Nat) : Nat → List Int
  | 0 => List.replicate n 0
  | r + 1 => match nextK bfs n (ordG bfs n r).2 with
    | some k => (endG bfs wt n r).set k (mx (endG bfs wt n r) (bfs.getD k []) + wt k)
    | none => endG bfs wt n r
theorem endG_ok {bfs : List (List Int)} {n : Nat} (wt : Nat → Int) (hb : ∀ (i : Nat) (x : Int), x ∈ bfs.getD i [] → 0 ≤ x ∧ x < n) (hl : bfs.length = n) (hc : ∀ j, ¬ Rch (Eb bfs) j j) : ∀ r, r ≤ n → EdI bfs wt n (ordG bfs n r).2 (endG bfs wt n r)
  | 0, _ => edI0 bfs wt n
  | r + 1, hr => by
    have ih := endG_ok wt hb hl hc r (by omega)
    have hne := (ordG_ok hb hl hc r (by omega)).2 (by omega)
    cases hn : nextK bfs n (ordG bfs n r).2 with
    | none => exact absurd hn hne
    | some k =>
      obtain ⟨hk, hck⟩ := next_some hn
      have e1 : (ordG bfs n (r + 1)).2 = (ordG bfs n r).2.set k true := by
        show (match nextK bfs n (ordG bfs n r).2 with
          | some k => ((ordG bfs n r).1 ++ [(k : Int)], (ordG bfs n r).2.set k true)
          | none => ordG bfs n r).2 = _
        rw [hn]
      have e2 : endG bfs wt n (r + 1) = (endG bfs wt n r).set k (mx (endG bfs wt n r) (bfs.getD k []) + wt k) := by
        show (match nextK bfs n (ordG bfs n r).2 with
          | some k => (endG bfs wt n r).set k (mx (endG bfs wt n r) (bfs.getD k []) + wt k)
          | none => endG bfs wt n r) = _
        rw [hn]
      rw [e1, e2]
      exact ih.step hk hck
theorem all_seen {bfs : List (List Int)} {n : Nat} {o : List Int} {d : List Bool} (ho : OrdI bfs n n o d) : ∀ k, k < n → seenAt d k = true := fun k hk => (ho.mem k).2 (ord_all ho k hk)
/-- Whatever keeps the ends, and marks all, has these. -/
theorem endG_is {bfs : List (List Int)} {n : Nat} {wt : Nat → Int} {d : List Bool} {out : List Int} (hb : ∀ (i : Nat) (x : Int), x ∈ bfs.getD i [] → 0 ≤ x ∧ x < n) (hl : bfs.length = n) (hc : ∀ j, ¬ Rch (Eb bfs) j j) (h : EdI bfs wt n d out) (ha : ∀ k, k < n → seenAt d k = true) : out = endG bfs wt n n := by
  have ho := (ordG_ok hb hl hc n (Nat.le_refl _)).1
  exact ed_uniq h (endG_ok wt hb hl hc n (Nat.le_refl _)) ho ha (all_seen ho)
theorem mx_bd {out : List Int} {M : Int} (hM : 0 ≤ M) (h : ∀ j, 0 ≤ out.getD j 0 ∧ out.getD j 0 ≤ M) (l : List Int) : 0 ≤ mx out l ∧ mx out l ≤ M := by
  unfold mx
  have key : ∀ (l : List Int) (a : Int), 0 ≤ a → a ≤ M → 0 ≤ l.foldl (fun m b => max m (out.getD b.toNat 0)) a ∧ l.foldl (fun m b => max m (out.getD b.toNat 0)) a ≤ M := by
    intro l
    induction l with
    | nil => intro a h0 h1; exact ⟨h0, h1⟩
    | cons b l ih =>
      intro a h0 h1
      have := h b.toNat
      exact ih (max a (out.getD b.toNat 0)) (by omega) (by omega)
  exact key l 0 (Int.le_refl _) hM
/-- How the reference's ends stand in pass p before place k. -/
structure EsI (bfs : List (List Int)) (wt : Nat → Int) (n : Nat) (o : List Int) (p k : Nat) (d : List Bool) (out : List Int) : Prop where
  ed : EdI bfs wt n d out
  bd : ∀ j, 0 ≤ out.getD j 0 ∧ out.getD j 0 ≤ 600 * ((14 * p + k : Nat) : Int)
  pre : ∀ x ∈ o.take p, seenAt d x.toNat = true
  now : ∀ y : Nat, o[p]? = some (y : Int) → y < k → seenAt d y = true
theorem esI0 (bfs : List (List Int)) (wt : Nat → Int) (n : Nat) (o : List Int) : EsI bfs wt n o 0 0 (List.replicate n false) (List.replicate n 0) :=
  ⟨edI0 bfs wt n, fun j => by simp [List.getD, List.getElem?_replicate]; split <;> simp, by simp, fun y _ h => absurd h (Nat.not_lt_zero _)⟩
theorem seen_mono {d : List Bool} {k a : Nat} (hk : k < d.length) (h : seenAt d a = true) : seenAt (d.set k true) a = true := by
  rw [seen_set hk, h]; simp
theorem EsI.skip {bfs : List (List Int)} {wt : Nat → Int} {n p k : Nat} {o : List Int} {d dd : List Bool} {out : List Int} (h : EsI bfs wt n o p k d out) (ho : OrdI bfs n n o dd) (hc : canB bfs d k = false) : EsI bfs wt n o p (k + 1) d out := by
  refine ⟨h.ed, fun j => by have := h.bd j; omega, h.pre, fun y hy hyk => ?_⟩
  by_cases e : y = k
  · subst e
    cases hs : seenAt d y with
    | true => rfl
    | false =>
      exfalso
      have : canB bfs d y = true := can_iff.2 ⟨hs, fun b hb => h.pre b (ho.bef p y hy b hb)⟩
      rw [hc] at this
      cases this
  · exact h.now y hy (by omega)
theorem EsI.put {bfs : List (List Int)} {wt : Nat → Int} {n p k : Nat} {o : List Int} {d : List Bool} {out : List Int} (h : EsI bfs wt n o p k d out) (hk : k < n) (hw : 0 ≤ wt k ∧ wt k ≤ 600) (hc : canB bfs d k = true) :
    EsI bfs wt n o p (k + 1) (d.set k true) (out.set k (mx out (bfs.getD k []) + wt k)) := by
  have hkd : k < d.length := by rw [h.ed.dl]; exact hk
  refine ⟨h.ed.step hk hc, fun j => ?_, fun x hx => seen_mono hkd (h.pre x hx), fun y hy hyk => ?_⟩
  · rw [getD_set (by rw [h.ed.ol]; exact hk)]
    have h1 := mx_bd (by omega) h.bd (bfs.getD k [])
    have h2 := h.bd j
    split <;> omega
  · by_cases e : y = k
    · subst e
      rw [seen_set hkd, if_pos rfl]
    · exact seen_mono hkd (h.now y hy (by omega))
theorem EsI.pass {bfs : List (List Int)} {wt : Nat → Int} {n p : Nat} {o : List Int} {d dd : List Bool} {out : List Int} (h : EsI bfs wt n o p n d out) (ho : OrdI bfs n n o dd) (hn : n ≤ 14) : EsI bfs wt n o (p + 1) 0 d out := by
  refine ⟨h.ed, fun j => by have := h.bd j; omega, fun x hx => ?_, fun y _ h => absurd h (Nat.not_lt_zero _)⟩
  rw [List.take_add_one] at hx
  rcases List.mem_append.1 hx with hx | hx
  · exact h.pre x hx
  · cases hq : o[p]? with
    | none => rw [hq] at hx; simp at hx
    | some z =>
      rw [hq] at hx
      simp at hx
      subst hx
      have hr := ho.rg x (List.mem_of_getElem? hq)
      obtain ⟨y, rfl⟩ := Int.eq_ofNat_of_zero_le hr.1
      exact h.now y hq (by omega)
theorem EsI.fin {bfs : List (List Int)} {wt : Nat → Int} {n : Nat} {d : List Bool} {out : List Int} (hb : ∀ (i : Nat) (x : Int), x ∈ bfs.getD i [] → 0 ≤ x ∧ x < n) (hl : bfs.length = n) (hc : ∀ j, ¬ Rch (Eb bfs) j j) (h : EsI bfs wt n (ordG bfs n n).1 n 0 d out) : out = endG bfs wt n n := by
  have ho := (ordG_ok hb hl hc n (Nat.le_refl _)).1
  refine endG_is hb hl hc h.ed fun k hk => ?_
  have := h.pre (k : Int) (by rw [List.take_of_length_le (by rw [ho.ol]; exact Nat.le_refl _)]; exact ord_all ho k hk)
  simpa using this
theorem endG_bd {bfs : List (List Int)} {wt : Nat → Int} {n : Nat} (hw : ∀ k, 0 ≤ wt k ∧ wt k ≤ 600) : ∀ (r j : Nat), 0 ≤ (endG bfs wt n r).getD j 0 ∧ (endG bfs wt n r).getD j 0 ≤ 600 * (r : Int)
  | 0, j => by
    show 0 ≤ (List.replicate n (0 : Int)).getD j 0 ∧ _
    simp [endG, List.getD, List.getElem?_replicate]; split <;> simp
  | r + 1, j => by
    have ih := endG_bd (bfs := bfs) (n := n) hw r
    show 0 ≤ (match nextK bfs n (ordG bfs n r).2 with
          | some k => (endG bfs wt n r).set k (mx (endG bfs wt n r) (bfs.getD k []) + wt k)
          | none => endG bfs wt n r).getD j 0 ∧ (match nextK bfs n (ordG bfs n r).2 with
          | some k => (endG bfs wt n r).set k (mx (endG bfs wt n r) (bfs.getD k []) + wt k)
          | none => endG bfs wt n r).getD j 0 ≤ _
    cases nextK bfs n (ordG bfs n r).2 with
    | none => have := ih j; simp only; omega
    | some k =>
      simp only
      by_cases hk : k < (endG bfs wt n r).length
      · rw [getD_set hk]
        have h1 := mx_bd (by omega) ih (bfs.getD k [])
        have h2 := ih j
        have h3 := hw k
        split <;> omega
      · rw [List.set_eq_of_length_le (by omega)]
        have := ih j
        omega
end Go.Proofs.Ytgghjieeckkpbaa
