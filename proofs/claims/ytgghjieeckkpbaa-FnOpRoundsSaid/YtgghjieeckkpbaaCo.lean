/- Counting orders (pure part): ways forward and backward over sets; sums modulo 2 ^ 64. Plain lemmas; no program. -/
import Derived.Test.YtgghjieeckkpbaaCan
import Derived.Test.YtgghjieeckkpbaaEd
namespace Go.Proofs.Ytgghjieeckkpbaa
open Go.RowKit

/-- The marks of a set of bits. -/
def bitsL (n x : Nat) : List Bool := (List.range n).map x.testBit
theorem bitsL_len (n x : Nat) : (bitsL n x).length = n := by simp [bitsL]
theorem bitsL_at {n x : Nat} (hx : x < 2 ^ n) (j : Nat) : seenAt (bitsL n x) j = x.testBit j := by
  unfold seenAt bitsL
  simp only [List.getD, List.getElem?_map]
  by_cases h : j < n
  · rw [List.getElem?_range h]; rfl
  · rw [List.getElem?_eq_none (by simp; omega)]
    have h1 : 2 ^ n ≤ 2 ^ j := Nat.pow_le_pow_right (by omega) (by omega)
    rw [Nat.testBit_lt_two_pow (by omega)]
    rfl
theorem bitsL_set {n x : Nat} (hn : n ≤ 14) (hx : x < 2 ^ n) : SetD n (bitsL n x) x := ⟨bitsL_len n x, hn, bitsL_at hx⟩
theorem SetD.eq {n x : Nat} {d : List Bool} (h : SetD n d x) : d = bitsL n x := by
  apply List.ext_getElem?
  intro j
  by_cases hj : j < n
  · have h1 := h.bit j
    unfold seenAt at h1
    have hd := List.getElem?_eq_getElem (l := d) (i := j) (by rw [h.len]; exact hj)
    simp only [List.getD, hd, Option.getD_some] at h1
    rw [hd, h1]
    unfold bitsL
    rw [List.getElem?_map, List.getElem?_range hj]
    rfl
  · rw [List.getElem?_eq_none (by rw [h.len]; omega), List.getElem?_eq_none (by rw [bitsL_len]; omega)]
theorem SetD.up {n x : Nat} {d : List Bool} (h : SetD n d x) : x < 2 ^ n := by
  apply Nat.lt_pow_two_of_testBit
  intro b hb
  rw [← h.bit b]
  exact seen_out (by rw [h.len]; exact hb)

theorem getD_ofB {d : List Bool} {k : Nat} (h : k < d.length) : d.getD k false = d[k] := by simp [List.getD, List.getElem?_eq_getElem h]
/-- How many are not marked. -/
def freeN (d : List Bool) : Nat := d.count false
theorem free_set : ∀ {d : List Bool} {k : Nat}, k < d.length → seenAt d k = false → freeN (d.set k true) + 1 = freeN d
  | [], k, h, _ => absurd h (Nat.not_lt_zero _)
  | b :: d, 0, _, hs => by
    have : b = false := by simpa [seenAt] using hs
    subst this
    simp [freeN]
  | b :: d, k + 1, h, hs => by
    have ih := free_set (d := d) (k := k) (by simpa using h) (by simpa [seenAt] using hs)
    unfold freeN at ih ⊢
    simp only [List.set_cons_succ, List.count_cons]
    omega
theorem free_zero {d : List Bool} : freeN d = 0 ↔ ∀ k, k < d.length → seenAt d k = true := by
  unfold freeN
  rw [List.count_eq_zero]
  constructor
  · intro h k hk
    unfold seenAt
    rw [getD_ofB hk]
    cases e : d[k] with
    | true => rfl
    | false => exact absurd (by rw [← e]; exact List.getElem_mem _) h
  · intro h hm
    obtain ⟨k, hk, e⟩ := List.getElem_of_mem hm
    have := h k hk
    unfold seenAt at this
    rw [getD_ofB hk, e] at this
    cases this
theorem free_rep (n : Nat) : freeN (List.replicate n false) = n := by simp [freeN]
theorem free_le (d : List Bool) : freeN d ≤ d.length := List.count_le_length
/-- All bits are set just where nothing is free. -/
theorem full_iff {n x : Nat} {d : List Bool} (h : SetD n d x) : x = 2 ^ n - 1 ↔ freeN d = 0 := by
  rw [free_zero, h.len]
  constructor
  · intro hx k hk
    rw [h.bit, hx, Nat.testBit_two_pow_sub_one]
    simpa using hk
  · intro ha
    apply Nat.eq_of_testBit_eq
    intro j
    rw [Nat.testBit_two_pow_sub_one, ← h.bit]
    by_cases hj : j < n
    · rw [ha j hj]; simp [hj]
    · rw [seen_out (by rw [h.len]; omega)]; simp [hj]

/-- f 0 + .. + f (n - 1). -/
def sumK (f : Nat → Int) : Nat → Int
  | 0 => 0
  | n + 1 => sumK f n + f n
theorem sumK_bd {f : Nat → Int} {M : Int} (h : ∀ k, 0 ≤ f k ∧ f k ≤ M) : ∀ n, 0 ≤ sumK f n ∧ sumK f n ≤ M * n
  | 0 => by simp [sumK]
  | n + 1 => by
    have ih := sumK_bd h n
    have := h n
    have e : M * ((n + 1 : Nat) : Int) = M * n + M := by rw [Int.natCast_add, Int.mul_add]; simp
    simp only [sumK]
    omega
theorem sumK_pos {f : Nat → Int} (h : ∀ k, 0 ≤ f k) {j : Nat} (hj : 1 ≤ f j) : ∀ n, j < n → 1 ≤ sumK f n
  | 0, hn => absurd hn (Nat.not_lt_zero _)
  | n + 1, hn => by
    have h0 : 0 ≤ sumK f n := by
      clear hn
      induction n with
      | zero => simp [sumK]
      | succ m ih => have := h m; simp only [sumK]; omega
    have h1 := h n
    simp only [sumK]
    by_cases e : j = n
    · subst e; omega
    · have := sumK_pos h hj n (by omega)
      omega
theorem sumK_zero {f : Nat → Int} : ∀ {n : Nat}, (∀ k, k < n → f k = 0) → sumK f n = 0
  | 0, _ => rfl
  | n + 1, h => by
    simp only [sumK]
    rw [sumK_zero (fun k hk => h k (by omega)), h n (by omega)]
    rfl
theorem sumK_congr {f g : Nat → Int} : ∀ {n : Nat}, (∀ k, k < n → f k = g k) → sumK f n = sumK g n
  | 0, _ => rfl
  | n + 1, h => by
    simp only [sumK]
    rw [sumK_congr (fun k hk => h k (by omega)), h n (by omega)]
/-- The number of ways to do the r that are left, behind the set x. -/
def waysR (bfs : List (List Int)) (n : Nat) : Nat → Nat → Int
  | 0, _ => 1
  | r + 1, x => sumK (fun k => if canB bfs (bitsL n x) k = true then waysR bfs n r (x ||| 2 ^ k) else 0) n
def wayF (bfs : List (List Int)) (n r x : Nat) (k : Nat) : Int := if canB bfs (bitsL n x) k = true then waysR bfs n r (x ||| 2 ^ k) else 0
theorem waysR_succ (bfs : List (List Int)) (n r x : Nat) : waysR bfs n (r + 1) x = sumK (wayF bfs n r x) n := rfl
theorem waysR_bd (bfs : List (List Int)) (n : Nat) : ∀ r x, 0 ≤ waysR bfs n r x ∧ waysR bfs n r x ≤ ((n ^ r : Nat) : Int)
  | 0, x => by simp [waysR]
  | r + 1, x => by
    have h : ∀ k, 0 ≤ wayF bfs n r x k ∧ wayF bfs n r x k ≤ ((n ^ r : Nat) : Int) := fun k => by
      unfold wayF
      split
      · exact waysR_bd bfs n r _
      · exact ⟨Int.le_refl _, by omega⟩
    have := sumK_bd h n
    rw [waysR_succ, Nat.pow_succ, Int.natCast_mul]
    exact this
theorem wayF_bd (bfs : List (List Int)) (n r x k : Nat) : 0 ≤ wayF bfs n r x k ∧ wayF bfs n r x k ≤ ((n ^ r : Nat) : Int) := by
  unfold wayF
  split
  · exact waysR_bd bfs n r _
  · exact ⟨Int.le_refl _, by omega⟩
theorem pow_ten {n r : Nat} (hn : n ≤ 10) (hr : r ≤ 10) : n ^ r ≤ 10000000000 := by
  have h1 : n ^ r ≤ 10 ^ r := Nat.pow_le_pow_left hn r
  have h2 : 10 ^ r ≤ 10 ^ 10 := Nat.pow_le_pow_right (by omega) hr
  omega
theorem waysR_ten (bfs : List (List Int)) {n r : Nat} (hn : n ≤ 10) (hr : r ≤ 10) (x : Nat) : 0 ≤ waysR bfs n r x ∧ waysR bfs n r x ≤ 10000000000 := by
  have h1 := waysR_bd bfs n r x
  have h2 := pow_ten hn hr
  omega
theorem part_ten (bfs : List (List Int)) {n r k : Nat} (hn : n ≤ 10) (hr : r ≤ 10) (hk : k ≤ 10) (x : Nat) : 0 ≤ sumK (wayF bfs n r x) k ∧ sumK (wayF bfs n r x) k ≤ 100000000000 := by
  have h2 := pow_ten hn hr
  have h1 := sumK_bd (fun j => by have := wayF_bd bfs n r x j; exact ⟨this.1, show _ ≤ (10000000000 : Int) by omega⟩) k
  omega
/-- Without circles there is a way. -/
theorem waysR_pos {bfs : List (List Int)} {n : Nat} (hn : n ≤ 14) (hb : ∀ (i : Nat) (x : Int), x ∈ bfs.getD i [] → 0 ≤ x ∧ x < n) (hl : bfs.length = n) (hc : ∀ j, ¬ Rch (Eb bfs) j j) : ∀ (r x : Nat), x < 2 ^ n → freeN (bitsL n x) = r → 1 ≤ waysR bfs n r x
  | 0, _, _, _ => by simp [waysR]
  | r + 1, x, hx, hf => by
    have hD := bitsL_set hn hx
    have hex : ∃ k, k < n ∧ seenAt (bitsL n x) k = false := by
      apply Classical.byContradiction
      intro hno
      have : freeN (bitsL n x) = 0 := free_zero.2 fun k hk => by
        cases h : seenAt (bitsL n x) k with
        | true => rfl
        | false => exact absurd ⟨k, by rw [bitsL_len] at hk; exact hk, h⟩ hno
      omega
    obtain ⟨a, ha, hs⟩ := hex
    obtain ⟨k, hk, hck⟩ := can_some hb hl hc ha hs
    have hp := hD.put hk
    have hf2 := free_set (d := bitsL n x) (k := k) (by rw [bitsL_len]; exact hk) (can_iff.1 hck).1
    have ih := waysR_pos hn hb hl hc r (x ||| 2 ^ k) hp.up (by rw [← hp.eq]; omega)
    rw [waysR_succ]
    refine sumK_pos (fun j => (wayF_bd bfs n r x j).1) (j := k) ?_ n hk
    unfold wayF
    rw [if_pos hck]
    exact ih

/-- The number of ways behind the set x. -/
def waysG (bfs : List (List Int)) (n x : Nat) : Int := waysR bfs n (freeN (bitsL n x)) x
/-- The ways behind x by its first step k. -/
def stepG (bfs : List (List Int)) (n x k : Nat) : Int := if canB bfs (bitsL n x) k = true then waysG bfs n (x ||| 2 ^ k) else 0
theorem can_lt {bfs : List (List Int)} {n x k : Nat} (hn : n ≤ 14) (hx : x < 2 ^ n) (hk : k < n) (hc : canB bfs (bitsL n x) k = true) : x < x ||| 2 ^ k ∧ x ||| 2 ^ k < 2 ^ n ∧ freeN (bitsL n (x ||| 2 ^ k)) + 1 = freeN (bitsL n x) := by
  have hD := bitsL_set hn hx
  have hp := hD.put hk
  have h1 := (can_iff.1 hc).1
  refine ⟨?_, hp.up, ?_⟩
  · have h2 : x ≤ x ||| 2 ^ k := Nat.left_le_or
    have h3 : x ≠ x ||| 2 ^ k := fun e => by
      have : (x ||| 2 ^ k).testBit k = true := by rw [Nat.testBit_or, Nat.testBit_two_pow]; simp
      rw [← e, ← hD.bit k, h1] at this
      cases this
    omega
  · rw [← hp.eq]
    exact free_set (by rw [bitsL_len]; exact hk) h1
theorem waysG_full {bfs : List (List Int)} {n : Nat} (hn : n ≤ 14) : waysG bfs n (2 ^ n - 1) = 1 := by
  have hp : 0 < 2 ^ n := Nat.two_pow_pos n
  have hD := bitsL_set hn (x := 2 ^ n - 1) (by omega)
  unfold waysG
  rw [(full_iff hD).1 rfl]
  rfl
theorem waysG_sum {bfs : List (List Int)} {n x : Nat} (hn : n ≤ 14) (hx : x + 1 < 2 ^ n) : waysG bfs n x = sumK (stepG bfs n x) n := by
  have hD := bitsL_set hn (x := x) (by omega)
  have hne : freeN (bitsL n x) ≠ 0 := fun h => by have := (full_iff hD).2 h; omega
  obtain ⟨r, hr⟩ := Nat.exists_eq_succ_of_ne_zero hne
  unfold waysG
  rw [hr, waysR_succ]
  refine sumK_congr fun k hk => ?_
  unfold wayF stepG
  by_cases hc : canB bfs (bitsL n x) k = true
  · rw [if_pos hc, if_pos hc]
    have := (can_lt hn (by omega) hk hc).2.2
    unfold waysG
    rw [show freeN (bitsL n (x ||| 2 ^ k)) = r by omega]
  · rw [if_neg hc, if_neg hc]
theorem can_full {bfs : List (List Int)} {n k : Nat} (hn : n ≤ 14) (hk : k < n) : canB bfs (bitsL n (2 ^ n - 1)) k = false := by
  have hp : 0 < 2 ^ n := Nat.two_pow_pos n
  cases h : canB bfs (bitsL n (2 ^ n - 1)) k with
  | false => rfl
  | true => have := can_lt hn (by omega) hk h; omega

/-- c 0 * g i + c 1 * g (i + 1) + .. -/
def wsum (g : Nat → Int) : List Int → Nat → Int
  | [], _ => 0
  | x :: c, i => x * g i + wsum g c (i + 1)
theorem wsum_set (g : Nat → Int) : ∀ (c : List Int) (i j : Nat) (v : Int), j < c.length → wsum g (c.set j v) i = wsum g c i + (v - c.getD j 0) * g (i + j)
  | [], _, _, _, h => absurd h (Nat.not_lt_zero _)
  | x :: c, i, 0, v, _ => by
    simp only [List.set_cons_zero, wsum, List.getD_cons_zero, Nat.add_zero, Int.sub_mul]
    omega
  | x :: c, i, j + 1, v, h => by
    have ih := wsum_set g c (i + 1) j v (by simpa using h)
    simp only [List.set_cons_succ, wsum, List.getD_cons_succ]
    rw [ih, show i + 1 + j = i + (j + 1) by omega]
    omega
theorem wsum_drop (g : Nat → Int) {c : List Int} {a : Nat} (h : a < c.length) : wsum g (c.drop a) a = c.getD a 0 * g a + wsum g (c.drop (a + 1)) (a + 1) := by
  rw [List.drop_eq_getElem_cons h]
  simp only [wsum, List.getD, List.getElem?_eq_getElem h, Option.getD_some]
/-- How the forward counts stand before step k of the set s: what is left to spread, times the ways behind, is the whole (modulo 2 ^ 64). -/
structure CtI (bfs : List (List Int)) (n s k : Nat) (c : List Int) : Prop where
  len : c.length = 2 ^ n
  rg : ∀ j, i64R (c.getD j 0)
  mid : s + 1 < 2 ^ n → ∃ q : Int, wsum (waysG bfs n) (c.drop (s + 1)) (s + 1) + c.getD s 0 * (sumK (stepG bfs n s) n - sumK (stepG bfs n s) k) = waysG bfs n 0 + q * 18446744073709551616
  fin : 2 ^ n ≤ s + 1 → ∃ q : Int, c.getD (2 ^ n - 1) 0 = waysG bfs n 0 + q * 18446744073709551616
theorem wsum_zero (g : Nat → Int) : ∀ (m i : Nat), wsum g (List.replicate m 0) i = 0
  | 0, _ => rfl
  | m + 1, i => by
    rw [List.replicate_succ]
    simp only [wsum]
    rw [wsum_zero g m (i + 1)]
    simp
theorem one_at (m j : Nat) : ((List.replicate (m + 1) (0 : Int)).set 0 1).getD j 0 = if j = 0 then 1 else 0 := by
  rw [List.replicate_succ, List.set_cons_zero]
  cases j with
  | zero => rfl
  | succ j =>
    rw [if_neg (by omega), List.getD_cons_succ]
    simp only [List.getD, List.getElem?_replicate]
    split <;> rfl
theorem ct0 {bfs : List (List Int)} {n : Nat} (hn : n ≤ 14) : CtI bfs n 0 0 ((List.replicate (2 ^ n) 0).set 0 1) := by
  have hp : 0 < 2 ^ n := Nat.two_pow_pos n
  obtain ⟨m, hm⟩ := Nat.exists_eq_succ_of_ne_zero (show 2 ^ n ≠ 0 by omega)
  have hm' : 2 ^ n = m + 1 := hm
  refine ⟨by simp, fun j => ?_, fun h => ⟨0, ?_⟩, fun h => ⟨0, ?_⟩⟩
  · rw [hm', one_at]
    unfold i64R
    split <;> omega
  · have hs := waysG_sum (bfs := bfs) hn h
    rw [hm'] at h ⊢
    rw [one_at, if_pos rfl, List.replicate_succ, List.set_cons_zero]
    simp only [List.drop_succ_cons, List.drop_zero]
    rw [wsum_zero, hs]
    simp [sumK]
  · have e : n = 0 := by
      cases n with
      | zero => rfl
      | succ a => rw [Nat.pow_succ] at h; have := Nat.two_pow_pos a; omega
    subst e
    have := waysG_full (bfs := bfs) hn
    rw [show 2 ^ 0 - 1 = 0 from rfl] at this
    rw [this]
    rfl
theorem CtI.skip {bfs : List (List Int)} {n s k : Nat} {c : List Int} (h : CtI bfs n s k c) (hc : canB bfs (bitsL n s) k = false) : CtI bfs n s (k + 1) c := by
  refine ⟨h.len, h.rg, fun hs => ?_, h.fin⟩
  have := h.mid hs
  simp only [sumK]
  rw [show stepG bfs n s k = 0 by unfold stepG; rw [if_neg (by rw [hc]; simp)], Int.add_zero]
  exact this
theorem CtI.put {bfs : List (List Int)} {n s k : Nat} {c : List Int} (h : CtI bfs n s k c) (hn : n ≤ 14) (hs : s < 2 ^ n) (hk : k < n) (hc : canB bfs (bitsL n s) k = true) :
    CtI bfs n s (k + 1) (c.set (s ||| 2 ^ k) (IntKind.i64.wrap (c.getD (s ||| 2 ^ k) 0 + c.getD s 0))) := by
  obtain ⟨h1, h2, h3⟩ := can_lt hn hs hk hc
  have hs1 : s + 1 < 2 ^ n := by omega
  obtain ⟨q, hq⟩ := h.mid hs1
  have hst : stepG bfs n s k = waysG bfs n (s ||| 2 ^ k) := by unfold stepG; rw [if_pos hc]
  generalize s ||| 2 ^ k = t at *
  obtain ⟨q2, hq2⟩ : ∃ q2 : Int, IntKind.i64.wrap (c.getD t 0 + c.getD s 0) = c.getD t 0 + c.getD s 0 + q2 * 18446744073709551616 :=
    ⟨-((c.getD t 0 + c.getD s 0 + 9223372036854775808) / 18446744073709551616), by rw [IntKind.wrap_i64]; omega⟩
  have hwr : i64R (IntKind.i64.wrap (c.getD t 0 + c.getD s 0)) := by rw [IntKind.wrap_i64]; unfold i64R; omega
  have htl : t < c.length := by rw [h.len]; exact h2
  refine ⟨by simp [h.len], fun j => ?_, fun _ => ?_, fun hf => absurd hf (by omega)⟩
  · rw [getD_set htl]
    split
    · exact hwr
    · exact h.rg j
  · rw [getD_set htl, if_neg (by omega), List.drop_set, if_neg (by omega), wsum_set _ _ _ _ _ (by simp; omega)]
    have e1 : (c.drop (s + 1)).getD (t - (s + 1)) 0 = c.getD t 0 := by
      simp only [List.getD, List.getElem?_drop]
      rw [show s + 1 + (t - (s + 1)) = t by omega]
    rw [e1, show s + 1 + (t - (s + 1)) = t by omega, hq2]
    simp only [sumK]
    rw [hst]
    refine ⟨q + q2 * waysG bfs n t, ?_⟩
    generalize wsum (waysG bfs n) (c.drop (s + 1)) (s + 1) = W at *
    generalize waysG bfs n t = g at *
    generalize waysG bfs n 0 = g0 at *
    generalize c.getD t 0 = ct at *
    generalize c.getD s 0 = cs at *
    generalize sumK (stepG bfs n s) n = T at *
    generalize sumK (stepG bfs n s) k = S at *
    have e2 : ct + cs + q2 * 18446744073709551616 - ct = cs + q2 * 18446744073709551616 := by omega
    rw [e2, Int.add_mul, Int.add_mul, Int.mul_assoc q2, Int.mul_comm 18446744073709551616 g, ← Int.mul_assoc]
    have e3 : cs * (T - (S + g)) = cs * (T - S) - cs * g := by rw [← Int.sub_sub, Int.mul_sub cs (T - S) g]
    rw [e3]
    generalize q2 * g * 18446744073709551616 = X at *
    generalize cs * g = Y at *
    generalize cs * (T - S) = Z at *
    generalize q * 18446744073709551616 = V at *
    omega
theorem CtI.next {bfs : List (List Int)} {n s : Nat} {c : List Int} (h : CtI bfs n s n c) (hn : n ≤ 14) (hs : s < 2 ^ n) : CtI bfs n (s + 1) 0 c := by
  refine ⟨h.len, h.rg, fun hs2 => ?_, fun hs2 => ?_⟩
  · obtain ⟨q, hq⟩ := h.mid (by omega)
    refine ⟨q, ?_⟩
    rw [Int.sub_self, Int.mul_zero, Int.add_zero, wsum_drop _ (by rw [h.len]; omega), waysG_sum hn hs2] at hq
    rw [← hq]
    simp only [sumK, Int.sub_zero]
    omega
  · by_cases e : s + 1 < 2 ^ n
    · obtain ⟨q, hq⟩ := h.mid e
      refine ⟨q, ?_⟩
      have e1 : s + 1 = 2 ^ n - 1 := by omega
      rw [Int.sub_self, Int.mul_zero, Int.add_zero, wsum_drop _ (by rw [h.len]; omega), e1, waysG_full hn, List.drop_of_length_le (by rw [h.len]; omega)] at hq
      simp only [wsum, Int.mul_one, Int.add_zero] at hq
      exact hq
    · exact h.fin (by omega)
theorem CtI.done {bfs : List (List Int)} {n : Nat} {c : List Int} (h : CtI bfs n (2 ^ n) 0 c) (hn : n ≤ 10) : c.getD (2 ^ n - 1) 0 = waysG bfs n 0 := by
  obtain ⟨q, hq⟩ := h.fin (by omega)
  have h1 := h.rg (2 ^ n - 1)
  have h2 : 0 ≤ waysG bfs n 0 ∧ waysG bfs n 0 ≤ 10000000000 := waysR_ten bfs hn (by have := free_le (bitsL n 0); rw [bitsL_len] at this; omega) 0
  unfold i64R at h1
  omega
theorem bitsL_zero (n : Nat) : bitsL n 0 = List.replicate n false := by
  apply List.ext_getElem?
  intro j
  unfold bitsL
  rw [List.getElem?_map, List.getElem?_replicate]
  by_cases h : j < n
  · rw [List.getElem?_range h, if_pos h]; simp
  · rw [List.getElem?_eq_none (by simp; omega), if_neg h]; rfl
end Go.Proofs.Ytgghjieeckkpbaa
