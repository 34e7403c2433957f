/- Several texts in one: Md. -/
import Derived.Test.YthdbaflihgkomaaDoorMc
import Derived.Test.YthdbaflihgkomaaDoorIns
/- Several texts in one: Tl, Tl2, Tl3, Tl4, Tl5, Tl6. -/
/- Sorting by insertion from the right (pure part): for slices.SortStableFunc over few elements, and for the reference's insertion. -/
namespace Go.Proofs.YthdbaflihgkomaaDoor
open Go.RowKit Go.Shelf

/-- Where x comes among the first k of l: behind the last one that x does not come before. -/
def posK (lt : Int → Int → Bool) (l : List Int) (x : Int) : Nat → Nat
  | 0 => 0
  | k + 1 => if lt x (l.getD k 0) = true then posK lt l x k else k + 1
theorem posK_le (lt : Int → Int → Bool) (l : List Int) (x : Int) : ∀ k, posK lt l x k ≤ k
  | 0 => Nat.le_refl _
  | k + 1 => by
    unfold posK
    split
    · have := posK_le lt l x k; omega
    · omega
/-- l with x put in. -/
def insK (lt : Int → Int → Bool) (l : List Int) (x : Int) : List Int := l.take (posK lt l x l.length) ++ x :: l.drop (posK lt l x l.length)
theorem insK_len (lt : Int → Int → Bool) (l : List Int) (x : Int) : (insK lt l x).length = l.length + 1 := by
  have := posK_le lt l x l.length
  unfold insK
  simp
  omega
/-- The first k of os, sorted. -/
def sortK (lt : Int → Int → Bool) (os : List Int) : Nat → List Int
  | 0 => []
  | k + 1 => insK lt (sortK lt os k) (os.getD k 0)
theorem sortK_len (lt : Int → Int → Bool) (os : List Int) : ∀ k, (sortK lt os k).length = k
  | 0 => rfl
  | k + 1 => by unfold sortK; rw [insK_len, sortK_len lt os k]
theorem insK_mem {lt : Int → Int → Bool} {l : List Int} {x y : Int} (h : y ∈ insK lt l x) : y = x ∨ y ∈ l := by
  unfold insK at h
  rcases List.mem_append.1 h with h | h
  · exact .inr (List.mem_of_mem_take h)
  · rcases List.mem_cons.1 h with h | h
    · exact .inl h
    · exact .inr (List.mem_of_mem_drop h)
theorem sortK_mem {lt : Int → Int → Bool} {os : List Int} {y : Int} : ∀ {k : Nat}, k ≤ os.length → y ∈ sortK lt os k → y ∈ os
  | 0, _, h => by simp [sortK] at h
  | k + 1, hk, h => by
    unfold sortK at h
    rcases insK_mem h with h | h
    · subst h
      have : os[k]? = some (os.getD k 0) := getD_of (by omega)
      exact List.mem_of_getElem? this
    · exact sortK_mem (by omega) h
end Go.Proofs.YthdbaflihgkomaaDoor
/- cmp.Compare, and the comparison that TallRows hands to the sort. -/
namespace Go.Proofs.YthdbaflihgkomaaDoor
open Go.RowKit Go.Shelf

def cmpZ (a b : Int) : Int := if a < b then -1 else if b < a then 1 else 0
end Go.Proofs.YthdbaflihgkomaaDoor
/- slices.insertionSortCmpFunc over []int, at most nine elements, any comparison. -/
namespace Go.Proofs.YthdbaflihgkomaaDoor
open Go.RowKit Go.Shelf

/-- The row while x goes down through the sorted part L and stands at j. -/
def stA (L : List Int) (x : Int) (j : Nat) (rest : List Int) : List Int := L.take j ++ x :: (L.drop j ++ rest)
theorem stA_len {L : List Int} {x : Int} {j : Nat} {rest : List Int} (hj : j ≤ L.length) : (stA L x j rest).length = L.length + 1 + rest.length := by
  unfold stA
  simp
  omega
theorem stA_at {L : List Int} {x : Int} {j : Nat} {rest : List Int} (hj : j ≤ L.length) : (stA L x j rest).getD j 0 = x := by
  unfold stA
  simp [List.getD, Nat.min_eq_left hj]
theorem stA_below {L : List Int} {x : Int} {j : Nat} {rest : List Int} (hj : j + 1 ≤ L.length) : (stA L x (j + 1) rest).getD j 0 = L.getD j 0 := by
  unfold stA
  simp only [List.getD]
  rw [List.getElem?_append_left (by simp; omega), List.getElem?_take_of_lt (by omega)]
theorem stA_swap {L : List Int} {x : Int} {j : Nat} {rest : List Int} (hj : j + 1 ≤ L.length) : ((stA L x (j + 1) rest).set (j + 1) (L.getD j 0)).set j x = stA L x j rest := by
  have hd : L.drop j = L.getD j 0 :: L.drop (j + 1) := by
    rw [List.drop_eq_getElem_cons (by omega)]
    simp [List.getD, List.getElem?_eq_getElem (by omega : j < L.length)]
  have ht : L.take (j + 1) = L.take j ++ [L.getD j 0] := by
    rw [List.take_add_one, getD_of (by omega)]
    rfl
  unfold stA
  rw [hd, ht]
  generalize L.getD j 0 = y
  rw [List.set_append_right _ _ (by simp; omega)]
  simp only [List.length_append, List.length_take, List.length_cons, List.length_nil, Nat.min_eq_left (show j ≤ L.length by omega), Nat.sub_self, List.set_cons_zero, List.append_assoc, List.cons_append, List.nil_append]
  rw [List.set_append_right _ _ (by simp; omega)]
  simp [Nat.min_eq_left (show j ≤ L.length by omega)]
theorem stA_start {L : List Int} {x : Int} {rest : List Int} : stA L x L.length rest = L ++ x :: rest := by unfold stA; simp
theorem stA_end {lt : Int → Int → Bool} {L : List Int} {x : Int} {rest : List Int} : stA L x (posK lt L x L.length) rest = insK lt L x ++ rest := by unfold stA insK; simp

/-- A closure that compares: its contract in every world with a property. -/
def CmpB (P : Program) (g : Nat) (lb : Array Value) (cf : Int → Int → Int) (os : List Int) (K : World → Prop) : Prop :=
  ∀ (W : World), K W → ∀ i j : Int, i ∈ os → j ∈ os → Calls P g (#[.int .i64 i, .int .i64 j] ++ lb) W fun e w' => e = .returned (.int .i64 (cf i j)) ∧ ∃ q, w' = W.drewN q
def ltC (cf : Int → Int → Int) (i j : Int) : Bool := decide (cf i j < 0)
theorem drewN_add (w : World) (a b : Nat) : (w.drewN a).drewN b = w.drewN (a + b) := by
  simp [World.drewN, Nat.add_assoc]

theorem posK_succ (lt : Int → Int → Bool) (l : List Int) (x : Int) (k : Nat) : posK lt l x (k + 1) = if lt x (l.getD k 0) = true then posK lt l x k else k + 1 := rfl
theorem sort1 (lt : Int → Int → Bool) {os : List Int} (h : 1 ≤ os.length) : sortK lt os 1 ++ os.drop 1 = os := by
  cases os with
  | nil => simp at h
  | cons a l => simp [sortK, insK, posK]
theorem sort_split (lt : Int → Int → Bool) {os : List Int} {k : Nat} (hk : k < os.length) : sortK lt os k ++ os.drop k = stA (sortK lt os k) (os.getD k 0) k (os.drop (k + 1)) := by
  have hd : os.drop k = os.getD k 0 :: os.drop (k + 1) := by
    rw [List.drop_eq_getElem_cons hk]
    simp [List.getD, List.getElem?_eq_getElem hk]
  unfold stA
  have e : (sortK lt os k).drop k = [] := List.drop_of_length_le (by rw [sortK_len]; exact Nat.le_refl _)
  rw [hd, List.take_of_length_le (by rw [sortK_len]; exact Nat.le_refl _), e]
  rfl

end Go.Proofs.YthdbaflihgkomaaDoor
/- slices.stableCmpFunc and slices.SortStableFunc over []int, at most nine elements, any comparison. -/
namespace Go.Proofs.YthdbaflihgkomaaDoor
open Go.RowKit Go.Shelf

end Go.Proofs.YthdbaflihgkomaaDoor
/- TallRows of the program. -/
namespace Go.Proofs.YthdbaflihgkomaaDoor
open Go.RowKit Go.Shelf

def tallH (ps : List (Int × Int)) (i : Int) : Int := (ps.getD i.toNat (0, 0)).2
def tallC (ps : List (Int × Int)) (i j : Int) : Int := cmpZ (tallH ps j) (tallH ps i)
theorem cmpZ_bd (a b : Int) : -1 ≤ cmpZ a b ∧ cmpZ a b ≤ 1 := by unfold cmpZ; split <;> (try split) <;> omega
theorem cmpZ_neg (a b : Int) : decide (cmpZ a b < 0) = decide (a < b) := by
  unfold cmpZ
  by_cases h : a < b
  · rw [if_pos h]; simp [h]
  · rw [if_neg h]; split <;> simp [h]
theorem tall_lt (ps : List (Int × Int)) (i j : Int) : ltC (tallC ps) i j = decide (tallH ps j < tallH ps i) := by
  unfold ltC tallC
  exact cmpZ_neg _ _
def tallZ (ps : List (Int × Int)) (roll : Int) : List Int × Int := if blocksB ps roll = true then ((firstK ps roll (sortK (ltC (tallC ps)) (upto ps.length) ps.length) ps.length).1, 0) else ([], 1)
theorem tall_len (ps : List (Int × Int)) (roll : Int) : (tallZ ps roll).1.length ≤ ps.length := by
  unfold tallZ
  split
  · rw [firstK_len]; exact Nat.le_refl _
  · simp
theorem mem_upto {n : Nat} {i : Int} (h : i ∈ upto n) : ∃ a : Nat, i = (a : Int) ∧ a < n := by
  obtain ⟨j, hj⟩ := List.getElem?_of_mem h
  exact ⟨j, upto_get hj⟩
theorem pairD {ps : List (Int × Int)} {a : Nat} (h : a < ps.length) : ∃ x, ps[a]? = some (x, tallH ps (a : Int)) := by
  refine ⟨(ps.getD a (0, 0)).1, ?_⟩
  unfold tallH
  simp [List.getD, List.getElem?_eq_getElem h]

end Go.Proofs.YthdbaflihgkomaaDoor
/- TallRows of the reference, and the law. Printed by mktl6.py. -/
namespace Go.Proofs.YthdbaflihgkomaaDoor
open Go.RowKit Go.Shelf

theorem Rd.other {w w' : World} {b o k n c g : Nat} {cs : List Value} (h : Rd w k (some ⟨b, o, none⟩) n c cs) (hg : w.grownBy w' (some g)) (hne : 0 < cs.length → b ≠ g) : Rd w' k (some ⟨b, o, none⟩) n c cs :=
  ⟨h.len, h.cap, h.max, fun h0 => by
    obtain ⟨b', o', hA, hlt, hc⟩ := h.at0 h0
    injection hA with hA
    injection hA with e1 e2
    subst e1
    subst e2
    exact ⟨_, _, rfl, Nat.lt_of_lt_of_le hlt hg.size, fun j hj => (World.cell?_of_block (hg.block b hlt (by simpa using hne h0))).trans (hc j hj)⟩⟩

set_option maxRecDepth 100000 in
set_option maxHeartbeats 8000000 in
theorem specTallRows_any (b o : Nat) (n c : Nat) (ps : List (Int × Int)) (roll : Int) (w : World) (h : Rd w 2 (some ⟨b, o, none⟩) n c (pr ps)) :
    Calls Tryd.prog 62 #[.slice (some ⟨b, o, none⟩) n c, .int .i64 roll] w (IntPost w (tallZ ps roll).1 (tallZ ps roll).2) := by
  obtain ⟨i0, hi, hz0, hz1, hz2⟩ := info_parts info_i64r
  have hl := h.plen
  have h1 := h.cap
  have h2 := h.max
  have hcall := fun W h => l11Ok_any (some ⟨b, o, none⟩) n c ps roll W h
  unfold tallZ
  cases hz : blocksB ps roll with
  | false =>
    rw [hz] at hcall
    rw [if_neg (by simp)]
    have HC := Lib.hid hcall
    have H := Lib.hid h
    clear hcall h hz hi hz0 hz1 hz2 i0
    go_enter Tryd.func62, Tryd.ntmps62
    go_wp2_with fail
    refine (HC.out _ H.out).mono ?_
    rintro e w1 ⟨rfl, rfl⟩
    go_wp2
    go_ret2
    exact intPost_nil (Below.refl _ _)
  | true =>
    have ho := bok hz
    have hn9 := ho.len
    have hn9' : n ≤ 9 := by omega
    rw [hz] at hcall
    rw [if_pos rfl]
    have hmem : ∀ (j : Nat) (i : Int), (sortK (ltC (tallC ps)) (upto n) n)[j]? = some i → 0 ≤ i ∧ i < n := fun j i hj => by
      have hm := sortK_mem (lt := ltC (tallC ps)) (os := upto n) (k := n) (by rw [upto_len]; exact Nat.le_refl _) (List.mem_of_getElem? hj)
      obtain ⟨a, rfl, ha⟩ := mem_upto hm
      omega
    have hf := fun W B d h hB => l11First_any (some ⟨b, o, none⟩) n c ps roll B n d (sortK (ltC (tallC ps)) (upto n) n) W h hB ho hn9' hmem
    have hR : (firstK ps roll (sortK (ltC (tallC ps)) (upto ps.length) ps.length) ps.length).1 = (firstK ps roll (sortK (ltC (tallC ps)) (upto n) n) n).1 := by rw [hl]
    rw [hR]
    have hlt := tall_lt ps
    generalize ltC (tallC ps) = lt at *
    generalize (firstK ps roll (sortK lt (upto n) n) n).1 = R at *
    have HC := Lib.hid hcall
    have HF := Lib.hid hf
    have H := Lib.hid h
    have HL := Lib.hid hl
    have HT := Lib.hid hlt
    clear hcall h hz hl ho hn9 hf hR hmem hlt
    go_enter Tryd.func62, Tryd.ntmps62
    go_wp2_with fail
    refine (HC.out _ H.out).mono ?_
    rintro e w1 ⟨rfl, rfl⟩
    go_wp2_with fail
    have hown0 : (w.alloc (.cells #[] 2)).ownsRow w.heap.size 2 1 (.slice (some ⟨w.heap.size, 0, none⟩) 0 0) 0 (ints (sortK lt (upto n) 0)) := World.ownsRow_made w #[] 0 (Nat.le_refl _) (by unfold maxLen; omega) rfl
    go_loopw [6, 7] (fun vo vi wr => ∃ (k g oc : Nat), k ≤ n ∧ vi = .int .i64 k ∧ vo = .slice (some ⟨g, 0, none⟩) k oc ∧ wr.ownsRow w.heap.size 2 1 (.slice (some ⟨g, 0, none⟩) k oc) k (ints (sortK lt (upto n) k)) ∧ Below w.heap.size w wr) (fun _ vi _ => n - (intOf vi).toNat)
    case atStart => exact ⟨0, _, _, Nat.zero_le _, rfl, rfl, hown0, (Below.refl _ _).alloc (Nat.le_refl _) _⟩
    case round =>
      obtain ⟨k, g, oc, hk, rfl, rfl, hown, hb⟩ := hrel
      by_cases hlt : k < n
      · have hk0 : (0 : Int) ≤ (k : Int) := by omega
        have hk1 : (k : Int) < (n : Int) := by omega
        have hkd : decide ((k : Int) < (n : Int)) = true := decide_eq_true hk1
        have hLl := sortK_len lt (upto n) k
        have hxk : (upto n).getD k 0 = (k : Int) := by
          have := getD_of (l := upto n) (j := k) (by rw [upto_len]; exact hlt)
          exact (upto_get this).1
        have hnext : insK lt (sortK lt (upto n) k) (k : Int) = sortK lt (upto n) (k + 1) := by rw [← hxk]; rfl
        have hLm : ∀ j, j < k → ∃ a : Nat, (sortK lt (upto n) k).getD j 0 = (a : Int) ∧ a < n := fun j hj => by
          have hm := sortK_mem (lt := lt) (os := upto n) (k := k) (by rw [upto_len]; omega) (List.mem_of_getElem? (getD_of (l := sortK lt (upto n) k) (j := j) (by rw [hLl]; exact hj)))
          exact mem_upto hm
        generalize sortK lt (upto n) k = L at *
        have HO := Lib.hid hown
        have HB := Lib.hid hb
        have HLL := Lib.hid hLl
        have HN := Lib.hid hnext
        have HLM := Lib.hid hLm
        clear hown hb hLl hnext hLm hxk
        go_wp2
        generalize hwr : wr = w5 at *
        clear hwr
        go_loopw [8] (fun vj wq => ∃ j : Nat, j ≤ k ∧ vj = .int .i64 j ∧ Hid (posK lt L (k : Int) j = posK lt L (k : Int) k) ∧ Below w5.heap.size w5 wq) (fun vj _ => (intOf vj).toNat)
        case atStart => exact ⟨k, Nat.le_refl _, rfl, (show Hid _ from rfl), Below.refl _ _⟩
        case round =>
          obtain ⟨j, hj, rfl, HP, hbq⟩ := hrel
          have HQ := Lib.hid hbq
          clear hbq
          cases j with
          | zero =>
            have hgd : decide ((0 : Int) < ((0 : Nat) : Int)) = false := by decide
            go_wp2
            go_quiet (fail)
            have q6 := below_drewN HQ.out nq
            generalize wr.drewN nq = w6 at *
            have HP2 : Hid (0 = posK lt L (k : Int) k) := HP.out
            have O6 := Lib.hid (own_below HO.out q6)
            have HB6 := Lib.hid (HB.out.trans (q6.mono HB.out.size))
            clear q6 HP HQ HO HB hgd
            have R1 := Rd.of_own O6.out
            have Rt := Lib.hid (R1.takeI (j := 0) hj)
            obtain ⟨b2, o2, hsl, hrd⟩ := slice_tail R1 (j := 0) 0 (by omega) hj
            have hsh := slice_head g 0 k oc 0 0 (by omega) (Nat.le_trans hj R1.cap)
            have Rt2 := Lib.hid hrd
            have hj0' : (0 : Int) ≤ ((0 : Nat) : Int) := by omega
            have hj1' : ((0 : Nat) : Int) ≤ (k : Int) := by omega
            have hj2' : ((0 : Nat) : Int) ≤ (oc : Int) := by have := R1.cap; omega
            have hs6 := HB6.out.size
            clear hrd R1
            go_wp2_with fail
            refine (l00Own_any g 0 0 oc (L.take 0) _ Rt.out (by omega)).mono ?_
            rintro e w8 ⟨g8, d8, rfl, hown8, hb8⟩
            have HO8 := Lib.hid (own_base hown8 hs6)
            have HOB8 := Lib.hid (own_block hown8)
            have HB8 := Lib.hid (HB6.out.trans (hb8.mono hs6))
            have Rt8 := Lib.hid (Rt2.out.below hb8)
            have HBO : Hid (0 < k - 0 → b2 < w6.heap.size) := Lib.hid (fun h0 => by
              obtain ⟨b', o', hA, hlt', _⟩ := Rt2.out.at0 (by rw [ints_len, List.length_drop, HLL.out]; exact h0)
              injection hA with hA
              injection hA with e1 e2
              omega)
            have hs8 := HB8.out.size
            have hg8 := own_block hown8 g8 rfl
            clear hown8 hb8 Rt2 Rt
            have hA8 : Below w8.heap.size w8 (w8.alloc (.cells #[.int .i64 k] 2)) := (by go_grown)
            have HA8 := Lib.hid hA8
            have hdl : (L.drop 0).length = k - 0 := by rw [List.length_drop, HLL.out]
            have HDL := Lib.hid hdl
            clear hA8 hdl
            go_wp2_with (first | (at_builtin; refine wpList_append_own _ rfl (.tmp 47) (.tmp 49) 31 rfl w.heap.size 2 i0 (.int .i64 0) 1 8 Tryd.underlying31 hi hz0 hz1 hz2 rfl (by decide) (Value.slice (some ⟨g8, 0, none⟩) 0 d8) _ _ rfl (HO8.out.alloc _) ⟨_, 0, none⟩ 1 1 [.int .i64 k] rfl rfl (cell_one_new _ _ _) (by intro u hu; simp at hu; subst hu; rfl) (by unfold maxLen; omega) (by omega) (by simp; omega) ?_; intro v' wa hown' hga hdel; clear hdel) | (at_builtin; (refine wpList_append_own _ rfl (.tmp 51) (.tmp 54) 31 rfl w.heap.size 2 i0 (.int .i64 0) 1 8 Tryd.underlying31 hi hz0 hz1 hz2 rfl (by decide) v' _ _ rfl hown' ⟨b2, o2, none⟩ (k - 0) (oc - 0) (ints (L.drop 0)) rfl (by rw [ints_len, HDL.out]; omega) (Rd.newsI (Rd.other (g := g8) (Rt8.out.below HA8.out) hga (by intro h0; have := HBO.out (by rw [ints_len, HDL.out] at h0; exact h0); omega))) (ints_one _) (by unfold maxLen; omega) (by omega) (by have := hga.size; simp at this; omega) ?_; intro v2 wb hown2 hga2 hdel; clear hdel)))
            have b9 : Below w.heap.size w wa := (HB8.out.trans (HA8.out.mono hs8)).grown hga (by simp; omega) (fun y hy => by simp [Value.ownBlock] at hy; omega)
            have b10 : Below w.heap.size w wb := b9.grown hga2 b9.size (fun y hy => (hown'.lt y hy).1)
            have hlen : 0 + 1 + (k - 0) = k + 1 := by omega
            rw [ints_snoc, ← ints_append, hlen] at hown2
            have hfin : L.take 0 ++ [(k : Int)] ++ L.drop 0 = sortK lt (upto n) (k + 1) := by
              rw [← HN.out]
              unfold insK
              rw [HLL.out, ← HP2.out]
              simp
            rw [hfin] at hown2
            obtain ⟨g10, d10, hv10, hg10, _⟩ := own_form hown2 (by omega)
            subst hv10
            clear hga hga2 hfin hlen
            go_roundw
            case rel => exact ⟨k + 1, _, _, by omega, by go_num, by go_num, hown2, b10⟩
            case measure => simp [intOf]; omega
          | succ j =>
            have hgd : decide ((0 : Int) < ((j + 1 : Nat) : Int)) = true := decide_eq_true (by omega)
            obtain ⟨a, ha, han⟩ := HLM.out j (by omega)
            obtain ⟨p1, p2, x1, y1, hA1, hl1, hx1, _, hc1⟩ := H.out.pair han
            obtain ⟨p3, p4, x2, y2, hA2, hl2, hx2, _, hc2⟩ := H.out.pair hlt
            injection hA1 with hA1
            injection hA1 with e1 e2
            subst e1
            subst e2
            injection hA2 with hA2
            injection hA2 with e1 e2
            subst e1
            subst e2
            have hbb := HB.out.trans (HQ.out.mono HB.out.size)
            have c1 := (hbb.cell (p := ⟨b, o + a * 2 + 1, none⟩) hl1).trans hc1
            have c2 := (hbb.cell (p := ⟨b, o + k * 2 + 1, none⟩) hl2).trans hc2
            have c3 := own_int (own_below HO.out HQ.out) (i := j) (by omega) HLL.out
            have hP := HP.out
            rw [posK_succ] at hP
            rw [HT.out] at hP
            rw [ha] at c3 hP
            have t1 : tallH ps (a : Int) = y1 := by unfold tallH; simp [List.getD, hx1]
            have t2 : tallH ps (k : Int) = y2 := by unfold tallH; simp [List.getD, hx2]
            rw [t1, t2] at hP
            have HP3 := Lib.hid hP
            have hj0 : (0 : Int) ≤ (j : Int) := by omega
            have hj1 : (j : Int) < (k : Int) := by omega
            have ha0 : (0 : Int) ≤ (a : Int) := by omega
            have ha1 : (a : Int) < (n : Int) := by omega
            clear hbb hc1 hc2 hP t1 t2 hx1 hx2 ha HP
            by_cases hyy : y1 < y2
            · have hyd : decide (y1 < y2) = true := decide_eq_true hyy
              have hP := HP3.out
              rw [hyd, if_pos rfl] at hP
              have HP4 := Lib.hid hP
              clear hP
              go_wp2
              go_quiet (fail)
              go_wp2
              go_roundw
              case rel => exact ⟨j, by omega, by go_num, HP4, below_drewN HQ.out _⟩
              case measure => simp [intOf]
            · have hyd : decide (y1 < y2) = false := decide_eq_false hyy
              have hP := HP3.out
              rw [hyd, if_neg (by simp)] at hP
              have HP2 := Lib.hid hP
              clear hP
              go_wp2
              go_quiet (fail)
              have q6 := below_drewN HQ.out nq
              generalize wr.drewN nq = w6 at *
              have O6 := Lib.hid (own_below HO.out q6)
              have HB6 := Lib.hid (HB.out.trans (q6.mono HB.out.size))
              clear q6 HP3 HQ HO HB hgd c1 c2 c3
              have R1 := Rd.of_own O6.out
              have Rt := Lib.hid (R1.takeI (j := (j + 1)) hj)
              obtain ⟨b2, o2, hsl, hrd⟩ := slice_tail R1 (j := (j + 1)) ((j : Int) + 1) (by omega) hj
              have hsh := slice_head g 0 k oc (j + 1) ((j : Int) + 1) (by omega) (Nat.le_trans hj R1.cap)
              have Rt2 := Lib.hid hrd
              have hj0' : (0 : Int) ≤ (((j + 1) : Nat) : Int) := by omega
              have hj1' : (((j + 1) : Nat) : Int) ≤ (k : Int) := by omega
              have hj2' : (((j + 1) : Nat) : Int) ≤ (oc : Int) := by have := R1.cap; omega
              have hs6 := HB6.out.size
              clear hrd R1
              go_wp2_with fail
              refine (l00Own_any g 0 (j + 1) oc (L.take (j + 1)) _ Rt.out (by omega)).mono ?_
              rintro e w8 ⟨g8, d8, rfl, hown8, hb8⟩
              have HO8 := Lib.hid (own_base hown8 hs6)
              have HOB8 := Lib.hid (own_block hown8)
              have HB8 := Lib.hid (HB6.out.trans (hb8.mono hs6))
              have Rt8 := Lib.hid (Rt2.out.below hb8)
              have HBO : Hid (0 < k - (j + 1) → b2 < w6.heap.size) := Lib.hid (fun h0 => by
                obtain ⟨b', o', hA, hlt', _⟩ := Rt2.out.at0 (by rw [ints_len, List.length_drop, HLL.out]; exact h0)
                injection hA with hA
                injection hA with e1 e2
                omega)
              have hs8 := HB8.out.size
              have hg8 := own_block hown8 g8 rfl
              clear hown8 hb8 Rt2 Rt
              have hA8 : Below w8.heap.size w8 (w8.alloc (.cells #[.int .i64 k] 2)) := (by go_grown)
              have HA8 := Lib.hid hA8
              have hdl : (L.drop (j + 1)).length = k - (j + 1) := by rw [List.length_drop, HLL.out]
              have HDL := Lib.hid hdl
              clear hA8 hdl
              go_wp2_with (first | (at_builtin; refine wpList_append_own _ rfl (.tmp 47) (.tmp 49) 31 rfl w.heap.size 2 i0 (.int .i64 0) 1 8 Tryd.underlying31 hi hz0 hz1 hz2 rfl (by decide) (Value.slice (some ⟨g8, 0, none⟩) (j + 1) d8) _ _ rfl (HO8.out.alloc _) ⟨_, 0, none⟩ 1 1 [.int .i64 k] rfl rfl (cell_one_new _ _ _) (by intro u hu; simp at hu; subst hu; rfl) (by unfold maxLen; omega) (by omega) (by simp; omega) ?_; intro v' wa hown' hga hdel; clear hdel) | (at_builtin; (refine wpList_append_own _ rfl (.tmp 51) (.tmp 54) 31 rfl w.heap.size 2 i0 (.int .i64 0) 1 8 Tryd.underlying31 hi hz0 hz1 hz2 rfl (by decide) v' _ _ rfl hown' ⟨b2, o2, none⟩ (k - (j + 1)) (oc - (j + 1)) (ints (L.drop (j + 1))) rfl (by rw [ints_len, HDL.out]; omega) (Rd.newsI (Rd.other (g := g8) (Rt8.out.below HA8.out) hga (by intro h0; have := HBO.out (by rw [ints_len, HDL.out] at h0; exact h0); omega))) (ints_one _) (by unfold maxLen; omega) (by omega) (by have := hga.size; simp at this; omega) ?_; intro v2 wb hown2 hga2 hdel; clear hdel)))
              have b9 : Below w.heap.size w wa := (HB8.out.trans (HA8.out.mono hs8)).grown hga (by simp; omega) (fun y hy => by simp [Value.ownBlock] at hy; omega)
              have b10 : Below w.heap.size w wb := b9.grown hga2 b9.size (fun y hy => (hown'.lt y hy).1)
              have hlen : (j + 1) + 1 + (k - (j + 1)) = k + 1 := by omega
              rw [ints_snoc, ← ints_append, hlen] at hown2
              have hfin : L.take (j + 1) ++ [(k : Int)] ++ L.drop (j + 1) = sortK lt (upto n) (k + 1) := by
                rw [← HN.out]
                unfold insK
                rw [HLL.out, ← HP2.out]
                simp
              rw [hfin] at hown2
              obtain ⟨g10, d10, hv10, hg10, _⟩ := own_form hown2 (by omega)
              subst hv10
              clear hga hga2 hfin hlen
              go_roundw
              case rel => exact ⟨k + 1, _, _, by omega, by go_num, by go_num, hown2, b10⟩
              case measure => simp [intOf]; omega
      · have : k = n := by omega
        subst this
        have HR := Lib.hid (Rd.of_own hown)
        have HB := Lib.hid hb
        have H2 := Lib.hid (H.out.below hb)
        clear hown hb
        go_wp2_with fail
        refine (HF.out _ _ _ H2.out HR.out).mono ?_
        rintro e w3 ⟨g3, rfl, hown, hb3⟩
        have b3 := HB.out.trans (hb3.mono HB.out.size)
        have HO4 := Lib.hid (own_base hown HB.out.size)
        clear hown hb3
        go_wp2
        go_ret2
        exact ⟨_, _, _, rfl, HO4.out, b3⟩

end Go.Proofs.YthdbaflihgkomaaDoor
