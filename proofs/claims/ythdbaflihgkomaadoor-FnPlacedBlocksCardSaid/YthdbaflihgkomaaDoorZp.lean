/- Plain part of FnPlacedBlocks: placed blocks do not overlap and stay on the roll, waste is a share, turned blocks are no taller. Plain lemmas; no program. -/
import Derived.Test.YthdbaflihgkomaaDoorRp
import Derived.Test.YthdbaflihgkomaaDoorWs
import Derived.Test.YthdbaflihgkomaaDoorTb
namespace Go.Proofs.YthdbaflihgkomaaDoor
open Go.RowKit Go.Shelf

theorem getD_setI {l : List Int} {i j : Nat} {v : Int} (hi : i < l.length) : (l.set i v).getD j 0 = if j = i then v else l.getD j 0 := by
  simp only [List.getD]
  by_cases e : j = i
  · subst e
    rw [if_pos rfl, List.getElem?_set_self hi]; rfl
  · rw [if_neg e, List.getElem?_set_ne (fun h => e h.symm)]
theorem ptL_at (ps : List (Int × Int)) (rs : List Int) (n : Nat) : ∀ (k i : Nat), i < k → (ptL ps rs n k)[i]? = some (ptK ps rs n i)
  | 0, i, h => by omega
  | k + 1, i, h => by
    unfold ptL
    by_cases e : i = k
    · subst e
      rw [List.getElem?_append_right (by rw [ptL_len]; exact Nat.le_refl _), ptL_len, Nat.sub_self]; rfl
    · rw [List.getElem?_append_left (by rw [ptL_len]; omega)]
      exact ptL_at ps rs n k i (by omega)
theorem sum_mono {xs : List Int} (h : ∀ (j : Nat) (x : Int), xs[j]? = some x → 0 ≤ x) (i : Nat) : ∀ d, i + d ≤ xs.length → sumI (xs.take i) ≤ sumI (xs.take (i + d))
  | 0, _ => Int.le_refl _
  | d + 1, hd => by
    have ih := sum_mono h i d (by omega)
    have hx := List.getElem?_eq_getElem (l := xs) (i := i + d) (by omega)
    have := h _ _ hx
    rw [← Nat.add_assoc, sum_step hx]
    omega
/-- The rows grow. -/
theorem rowsK_mono {ps : List (Int × Int)} {roll : Int} {rs : List Int} (ho : BOk ps roll) (hr : ∀ (j : Nat) (r : Int), rs[j]? = some r → 0 ≤ r ∧ r ≤ 8) (hl : rs.length = ps.length) (k j : Nat) : ∀ d, k + d ≤ rs.length →
    (rowsK ps rs k).1.getD j 0 ≤ (rowsK ps rs (k + d)).1.getD j 0 ∧ (rowsK ps rs k).2.getD j 0 ≤ (rowsK ps rs (k + d)).2.getD j 0
  | 0, _ => ⟨Int.le_refl _, Int.le_refl _⟩
  | d + 1, hd => by
    have ih := rowsK_mono ho hr hl k j d (by omega)
    have hB := rowsK_B ho hr (k + d) (by omega) (by omega)
    obtain ⟨r, hr'⟩ : ∃ r, rs[k + d]? = some r := ⟨_, List.getElem?_eq_getElem (by omega)⟩
    obtain ⟨⟨x, y⟩, hp⟩ : ∃ r, ps[k + d]? = some r := ⟨_, List.getElem?_eq_getElem (by omega)⟩
    have hb := ho.blk (k + d) _ hp
    have x0 : 1 ≤ x := by have := hb.1.1; simpa using this
    have hq := hr (k + d) r hr'
    have st := rowsK_step (W := (rowsK ps rs (k + d)).1) (H := (rowsK ps rs (k + d)).2) rfl hr' hp
    rw [← Nat.add_assoc, st]
    simp only
    rw [getD_setI (by rw [hB.wl]; omega), getD_setI (by rw [hB.hl]; omega)]
    refine ⟨?_, ?_⟩
    · split
      · rename_i e; subst e; omega
      · exact ih.1
    · split
      · rename_i e; subst e; omega
      · exact ih.2
/-- Where one block lies. -/
structure OneP (ps : List (Int × Int)) (rs : List Int) (roll high : Int) (i q : Nat) (a b x y : Int) : Prop where
  pt : ptK ps rs rs.length i = [a, b]
  ae : a = (rowsK ps rs i).1.getD q 0
  be : b = sumI ((rowsK ps rs rs.length).2.take q)
  a0 : 0 ≤ a
  a1 : a + x ≤ roll
  an : a + x = (rowsK ps rs (i + 1)).1.getD q 0
  b0 : 0 ≤ b
  yh : y ≤ (rowsK ps rs rs.length).2.getD q 0
  bn : b + y ≤ sumI ((rowsK ps rs rs.length).2.take (q + 1))
  b1 : b + y ≤ high
  xb : 1 ≤ x ∧ x ≤ roll
  yb : 1 ≤ y ∧ y ≤ 5000
theorem one_at {ps : List (Int × Int)} {roll : Int} {rs : List Int} (h : fineZ ps roll rs = 0) {i : Nat} {x y : Int} (hp : ps[i]? = some (x, y)) :
    ∃ (q : Nat) (a b : Int), q ≤ 8 ∧ rs[i]? = some (q : Int) ∧ OneP ps rs roll (lenZ ps rs) i q a b x y := by
  obtain ⟨hc, hf⟩ := fine_ok h
  obtain ⟨ho, hlen, hr⟩ := rowsC_ok hc
  have hi : i < ps.length := (List.getElem?_eq_some_iff.1 hp).1
  obtain ⟨r, hr'⟩ : ∃ r, rs[i]? = some r := ⟨_, List.getElem?_eq_getElem (by omega)⟩
  have hq := hr i r hr'
  obtain ⟨q, rfl⟩ := Int.eq_ofNat_of_zero_le hq.1
  have hB := rowsK_B ho hr i (by omega) (by omega)
  have hN := rowsK_B ho hr rs.length (Nat.le_refl _) (by omega)
  have hb := ho.blk i _ hp
  have x0 : 1 ≤ x ∧ x ≤ roll := by simpa using hb.1
  have y0 : 1 ≤ y ∧ y ≤ 5000 := by simpa using hb.2
  have st := rowsK_step (W := (rowsK ps rs i).1) (H := (rowsK ps rs i).2) rfl hr' hp
  have mn := rowsK_mono ho hr hlen (i + 1) q (rs.length - (i + 1)) (by omega)
  rw [show i + 1 + (rs.length - (i + 1)) = rs.length by omega, st] at mn
  simp only [Int.toNat_natCast] at mn
  rw [getD_setI (by rw [hB.wl]; omega), getD_setI (by rw [hB.hl]; omega), if_pos rfl, if_pos rfl] at mn
  have hw := idx_neg hf q _ (getD_of (by rw [hN.wl]; omega))
  have ha := hB.wb q _ (getD_of (by rw [hB.wl]; omega))
  have hxn : (rowsK ps rs rs.length).2[q]? = some ((rowsK ps rs rs.length).2.getD q 0) := getD_of (by rw [hN.hl]; omega)
  have ss := sum_step hxn
  have s0 := sumI_bd hN.hb q (by rw [hN.hl]; omega)
  have sm := sum_mono (xs := (rowsK ps rs rs.length).2) (fun j x hx => (hN.hb j x hx).1) (q + 1) (9 - (q + 1)) (by rw [hN.hl]; omega)
  rw [show q + 1 + (9 - (q + 1)) = 9 by omega, List.take_of_length_le (l := (rowsK ps rs rs.length).2) (i := 9) (by rw [hN.hl]; exact Nat.le_refl _)] at sm
  have hrD : rs.getD i 0 = (q : Int) := by simp [List.getD, hr']
  simp only [decide_eq_false_iff_not] at hw
  refine ⟨q, (rowsK ps rs i).1.getD q 0, sumI ((rowsK ps rs rs.length).2.take q), by omega, hr', ⟨?_, rfl, rfl, ha.1, by omega, ?_, s0.1, by omega, by omega, ?_, x0, y0⟩⟩
  · unfold ptK; rw [hrD]; rfl
  · rw [st]
    simp only [Int.toNat_natCast]
    rw [getD_setI (by rw [hB.wl]; omega), if_pos rfl]
  · unfold lenZ; omega
/-- Two blocks do not lie over one another. -/
theorem two_at {ps : List (Int × Int)} {roll : Int} {rs : List Int} (h : fineZ ps roll rs = 0) {i k q q' : Nat} {x y x' y' a b a' b' : Int} (hki : k < i) (hi : i < ps.length) (hq : q ≤ 8) (hq' : q' ≤ 8)
    (h1 : OneP ps rs roll (lenZ ps rs) i q a b x y) (h2 : OneP ps rs roll (lenZ ps rs) k q' a' b' x' y') : a < a' + x' → a' < a + x → b < b' + y' → b' < b + y → False := by
  obtain ⟨hc, hf⟩ := fine_ok h
  obtain ⟨ho, hlen, hr⟩ := rowsC_ok hc
  have hN := rowsK_B ho hr rs.length (Nat.le_refl _) (by omega)
  intro c1 c2 c3 c4
  have e1 := h1.ae
  have e2 := h1.be
  have e3 := h1.bn
  have f1 := h2.an
  have f2 := h2.be
  have f3 := h2.bn
  have sm := fun s d (hd : s + d ≤ 9) => sum_mono (xs := (rowsK ps rs rs.length).2) (fun j x hx => (hN.hb j x hx).1) s d (by rw [hN.hl]; exact hd)
  by_cases e : q = q'
  · subst e
    have mn := (rowsK_mono ho hr hlen (k + 1) q (i - (k + 1)) (by omega)).1
    rw [show k + 1 + (i - (k + 1)) = i by omega] at mn
    omega
  · by_cases l : q < q'
    · have := sm (q + 1) (q' - (q + 1)) (by omega)
      rw [show q + 1 + (q' - (q + 1)) = q' by omega] at this
      omega
    · have := sm (q' + 1) (q - (q' + 1)) (by omega)
      rw [show q' + 1 + (q - (q' + 1)) = q by omega] at this
      omega
theorem turn_at {ps : List (Int × Int)} {roll : Int} {i : Nat} {x y : Int} (hp : ps[i]? = some (x, y)) (hb : blocksB ps roll = true) :
    ∃ a b : Int, (ps.map (turnZ roll))[i]? = some (a, b) ∧ b ≤ y ∧ a * b = x * y ∧ 1 ≤ a ∧ a ≤ 5000 ∧ 1 ≤ b ∧ b ≤ 5000 ∧ 1 ≤ x ∧ x ≤ 5000 ∧ 1 ≤ y ∧ y ≤ 5000 := by
  have ho := bok hb
  have hr := ho.r0
  have hr1 := ho.r1
  have hk := ho.blk i _ hp
  have x0 : 1 ≤ x ∧ x ≤ roll := by simpa using hk.1
  have y0 : 1 ≤ y ∧ y ≤ 5000 := by simpa using hk.2
  by_cases h : x < y ∧ y ≤ roll
  · exact ⟨y, x, by rw [List.getElem?_map, hp]; show some (turnZ roll (x, y)) = _; rw [turn_yes h.1 h.2], by omega, Int.mul_comm _ _, by omega, by omega, by omega, by omega, by omega, by omega, by omega, by omega⟩
  · exact ⟨x, y, by rw [List.getElem?_map, hp]; show some (turnZ roll (x, y)) = _; unfold turnZ; rw [if_neg h], by omega, rfl, by omega, by omega, by omega, by omega, by omega, by omega, by omega, by omega⟩
/-- The share is one. -/
theorem waste_share {ps : List (Int × Int)} {roll : Int} {rs : List Int} (h : wasteC ps roll rs = 0) : 0 ≤ wasteN ps roll rs ∧ wasteN ps roll rs < wasteD ps roll rs := by
  have hw := h
  unfold wasteC at h
  split at h
  · rename_i hf
    split at h
    · omega
    · rename_i hl
      obtain ⟨ho, hlen, hr⟩ := rowsC_ok (fine_ok hf).1
      have ha := area_le hf
      have hpos : 1 ≤ areaF ps := by
        obtain ⟨p, l, e⟩ : ∃ p l, ps = p :: l := by
          cases hp : ps with
          | nil => rw [hp] at hl; simp at hl
          | cons p l => exact ⟨p, l, rfl⟩
        have hp0 : ps[0]? = some p := by rw [e]; rfl
        have hk := ho.blk 0 _ hp0
        have x0 : 1 ≤ p.1 := hk.1.1
        have y0 : 1 ≤ p.2 := hk.2.1
        have hrest : ∀ (l : List (Int × Int)), (∀ q ∈ l, 1 ≤ q.1 ∧ 1 ≤ q.2) → 0 ≤ areaF l := fun l => by
          induction l with
          | nil => intro _; exact Int.le_refl _
          | cons q l ih =>
            intro hq
            have := ih (fun z hz => hq z (by simp [hz]))
            have h1 := hq q (by simp)
            have := Int.mul_nonneg (show 0 ≤ q.1 by omega) (show 0 ≤ q.2 by omega)
            show 0 ≤ q.1 * q.2 + areaF l
            omega
        have h2 := hrest l (fun q hq => by
          obtain ⟨j, hj⟩ := List.getElem?_of_mem hq
          have := ho.blk (j + 1) q (by rw [e]; simpa using hj)
          exact ⟨this.1.1, this.2.1⟩)
        have h3 := Int.mul_le_mul_of_nonneg_right x0 (show 0 ≤ p.2 by omega)
        rw [e]
        show 1 ≤ p.1 * p.2 + areaF l
        omega
      unfold wasteN wasteD
      rw [if_pos hw, if_pos hw]
      generalize roll * lenZ ps rs = D at *
      generalize areaF ps = a at *
      unfold lowN lowD
      obtain ⟨p, hp⟩ := Int.eq_ofNat_of_zero_le (show 0 ≤ D - a by omega)
      obtain ⟨q, hq⟩ := Int.eq_ofNat_of_zero_le (show 0 ≤ D by omega)
      have hpq : p < q := by omega
      rw [hp, hq]
      unfold gcdZ
      rw [Int.toNat_natCast, Int.toNat_natCast, ← Int.natCast_ediv, ← Int.natCast_ediv]
      have hg : 0 < Nat.gcd p q := Nat.gcd_pos_of_pos_right _ (by omega)
      obtain ⟨u, hu⟩ := Nat.gcd_dvd_left p q
      obtain ⟨v, hv⟩ := Nat.gcd_dvd_right p q
      generalize Nat.gcd p q = G at *
      subst hu
      subst hv
      rw [Nat.mul_div_cancel_left _ hg, Nat.mul_div_cancel_left _ hg]
      have := Nat.lt_of_mul_lt_mul_left hpq
      omega
  · rename_i hf; exact absurd h hf
end Go.Proofs.YthdbaflihgkomaaDoor
