/- cmp.Compare; slices.SortStableFunc over []int64, at most nine elements, any comparison. Printed by mksb.py. -/
import Derived.Test.YtfjmohnlllbgmaaWd
import Derived.Shelf.Abstract
namespace Go.Proofs.Ytfjmohnlllbgmaa
open Go.RowKit Go.Shelf

theorem sortK_mem {lt : Int → Int → Bool} {os : List Int} {y : Int} {k : Nat} (hk : k ≤ os.length) (h : y ∈ sortK lt os k) : y ∈ os := List.mem_of_mem_take ((sortK_perm lt os k hk).subset h)
theorem cmpZ_bd0 (a b : Int) : -1 ≤ (if a < b then -1 else if b < a then 1 else (0 : Int)) ∧ (if a < b then -1 else if b < a then 1 else (0 : Int)) ≤ 1 := by split <;> (try split) <;> omega
def cmpZ (a b : Int) : Int := if a < b then -1 else if b < a then 1 else 0
theorem isNaN_any (a : Int) (w : World) : Calls Try.prog 97 #[.int .i64 a] w fun e w' => e = .returned (.bool false) ∧ w = w' := by
  go_enter Try.func97, Try.ntmps97
  go_wp2
  go_ret
  exact ⟨by simp, rfl⟩
set_option maxHeartbeats 1000000 in
theorem compare_any (a b : Int) (w : World) : Calls Try.prog 85 #[.int .i64 a, .int .i64 b] w fun e w' => e = .returned (.int .i64 (cmpZ a b)) ∧ w = w' := by
  unfold cmpZ
  by_cases h1 : a < b
  · rw [if_pos h1]
    go_enter Try.func85, Try.ntmps85
    go_wp2_with (go_at_call 97; refine (isNaN_any _ _).mono ?_; rintro e w' ⟨rfl, rfl⟩)
    go_ret
    exact ⟨rfl, rfl⟩
  · rw [if_neg h1]
    by_cases h2 : b < a
    · rw [if_pos h2]
      go_enter Try.func85, Try.ntmps85
      go_wp2_with (go_at_call 97; refine (isNaN_any _ _).mono ?_; rintro e w' ⟨rfl, rfl⟩)
      go_ret
      exact ⟨rfl, rfl⟩
    · rw [if_neg h2]
      go_enter Try.func85, Try.ntmps85
      go_wp2_with (go_at_call 97; refine (isNaN_any _ _).mono ?_; rintro e w' ⟨rfl, rfl⟩)
      go_ret
      exact ⟨rfl, rfl⟩

theorem stA_len {L : List Int} {x : Int} {j : Nat} {rest : List Int} (hj : j ≤ L.length) : (stA L x j rest).length = L.length + 1 + rest.length := by
  unfold stA
  simp
  omega
theorem stA_at {L : List Int} {x : Int} {j : Nat} {rest : List Int} (hj : j ≤ L.length) : (stA L x j rest).getD j 0 = x := by
  unfold stA
  simp [List.getD, Nat.min_eq_left hj]
theorem stA_below {L : List Int} {x : Int} {j : Nat} {rest : List Int} (hj : j + 1 ≤ L.length) : (stA L x (j + 1) rest).getD j 0 = L.getD j 0 := by
  unfold stA
  simp only [List.getD]
  rw [List.getElem?_append_left (by simp; omega), List.getElem?_take_of_lt (by omega)]
theorem stA_swap {L : List Int} {x : Int} {j : Nat} {rest : List Int} (hj : j + 1 ≤ L.length) : ((stA L x (j + 1) rest).set (j + 1) (L.getD j 0)).set j x = stA L x j rest := by
  have hd : L.drop j = L.getD j 0 :: L.drop (j + 1) := by
    rw [List.drop_eq_getElem_cons (by omega)]
    simp [List.getD, List.getElem?_eq_getElem (by omega : j < L.length)]
  have ht : L.take (j + 1) = L.take j ++ [L.getD j 0] := by
    rw [List.take_add_one, getD_of (by omega)]
    rfl
  unfold stA
  rw [hd, ht]
  generalize L.getD j 0 = y
  rw [List.set_append_right _ _ (by simp; omega)]
  simp only [List.length_append, List.length_take, List.length_cons, List.length_nil, Nat.min_eq_left (show j ≤ L.length by omega), Nat.sub_self, List.set_cons_zero, List.append_assoc, List.cons_append, List.nil_append]
  rw [List.set_append_right _ _ (by simp; omega)]
  simp [Nat.min_eq_left (show j ≤ L.length by omega)]
/-- A closure that compares: its contract in every world with a property. -/
def CmpB (P : Program) (g : Nat) (lb : Array Value) (cf : Int → Int → Int) (os : List Int) (K : World → Prop) : Prop :=
  ∀ (W : World), K W → ∀ i j : Int, i ∈ os → j ∈ os → Calls P g (#[.int .i64 i, .int .i64 j] ++ lb) W fun e w' => e = .returned (.int .i64 (cf i j)) ∧ ∃ q, w' = W.drewN q
def ltC (cf : Int → Int → Int) (i j : Int) : Bool := decide (cf i j < 0)
theorem drewN_add (w : World) (a b : Nat) : (w.drewN a).drewN b = w.drewN (a + b) := by
  simp [World.drewN, Nat.add_assoc]

theorem posK_succ (lt : Int → Int → Bool) (l : List Int) (x : Int) (k : Nat) : posK lt l x (k + 1) = if lt x (l.getD k 0) = true then posK lt l x k else k + 1 := rfl
theorem sort1 (lt : Int → Int → Bool) {os : List Int} (h : 1 ≤ os.length) : sortK lt os 1 ++ os.drop 1 = os := by
  cases os with
  | nil => simp at h
  | cons a l => simp [sortK, insK, posK]
theorem sort_split (lt : Int → Int → Bool) {os : List Int} {k : Nat} (hk : k < os.length) : sortK lt os k ++ os.drop k = stA (sortK lt os k) (os.getD k 0) k (os.drop (k + 1)) := by
  have hd : os.drop k = os.getD k 0 :: os.drop (k + 1) := by
    rw [List.drop_eq_getElem_cons hk]
    simp [List.getD, List.getElem?_eq_getElem hk]
  unfold stA
  have e : (sortK lt os k).drop k = [] := List.drop_of_length_le (by rw [sortK_len]; exact Nat.le_refl _)
  rw [hd, List.take_of_length_le (by rw [sortK_len]; exact Nat.le_refl _), e]
  rfl

set_option maxRecDepth 100000 in
set_option maxHeartbeats 4000000 in
theorem insSort_any (g' : Nat) (lb : Array Value) (eg : ∀ args w, (callFunc g' args).run Try.prog w = .ok (.enter g' args) w) (cf : Int → Int → Int) (hcf : ∀ i j, -1 ≤ cf i j ∧ cf i j ≤ 1) (os : List Int) (K : World → Prop) (base g m d : Nat) (w : World) (hm : m ≤ 9)
    (h : w.ownsRow base 2 1 (.slice (some ⟨g, 0, none⟩) m d) m (ints os)) (hK : K w) (hKs : ∀ W i u, K W → K (W.setCell ⟨g, i, none⟩ u)) (hKd : ∀ W q, K W → K (W.drewN q)) (hc : CmpB Try.prog g' lb cf os K) :
    Calls Try.prog 102 #[.slice (some ⟨g, 0, none⟩) m d, .int .i64 0, .int .i64 m, .func (.func g') #[] lb] w fun e w' => e = .returned (.tuple #[]) ∧
      w'.ownsRow base 2 1 (.slice (some ⟨g, 0, none⟩) m d) m (ints (sortK (ltC cf) os m)) ∧ K w' ∧ w.grownBy w' (some g) := by
  have hl : os.length = m := by have := h.1; rw [ints_len] at this; omega
  have H := Lib.hid h
  have HL := Lib.hid hl
  have HK := Lib.hid hK
  have HKS := Lib.hid hKs
  have HKD := Lib.hid hKd
  have HC := Lib.hid hc
  clear h hl hK hKs hKd hc
  by_cases hm0 : m = 0
  · subst hm0
    have hnil : os = [] := List.eq_nil_of_length_eq_zero HL.out
    subst hnil
    go_enter Try.func102, Try.ntmps102
    go_wp2
    go_loop [8] (fun i => i = .int .i64 1) (fun _ => 0)
    case atStart => rfl
    case round =>
      subst hrel
      go_wp2
      go_end0
      exact ⟨rfl, H.out, HK.out, World.grownBy.refl _ _⟩
  have hmp : 1 ≤ m := by omega
  have hst : w.ownsRow base 2 1 (.slice (some ⟨g, 0, none⟩) m d) m (ints (sortK (ltC cf) os 1 ++ os.drop 1)) := by rw [sort1 _ (by rw [HL.out]; exact hmp)]; exact H.out
  have HST := Lib.hid hst
  clear hst
  go_enter Try.func102, Try.ntmps102
  go_wp2
  go_loopw [8] (fun vi wr => ∃ k : Nat, 1 ≤ k ∧ k ≤ m ∧ vi = .int .i64 k ∧ wr.ownsRow base 2 1 (.slice (some ⟨g, 0, none⟩) m d) m (ints (sortK (ltC cf) os k ++ os.drop k)) ∧ Hid (K wr) ∧ w.grownBy wr (some g)) (fun vi _ => m - (intOf vi).toNat)
  case atStart => exact ⟨1, Nat.le_refl _, hmp, rfl, HST.out, HK, World.grownBy.refl _ _⟩
  case round =>
    obtain ⟨k, hk1, hkm, rfl, hown, hKw, hgr⟩ := hrel
    by_cases hlt : k < m
    · rw [sort_split _ (by rw [HL.out]; exact hlt)] at hown
      have hLl := sortK_len (ltC cf) os k
      have hrl : (os.drop (k + 1)).length = m - (k + 1) := by rw [List.length_drop, HL.out]
      have hxm : os.getD k 0 ∈ os := List.mem_of_getElem? (getD_of (by rw [HL.out]; exact hlt))
      have hLm : ∀ j, j < k → (sortK (ltC cf) os k).getD j 0 ∈ os := fun j hj => sortK_mem (lt := ltC cf) (k := k) (by rw [HL.out]; omega) (List.mem_of_getElem? (getD_of (by rw [hLl]; exact hj)))
      have hnext : insK (ltC cf) (sortK (ltC cf) os k) (os.getD k 0) = sortK (ltC cf) os (k + 1) := rfl
      generalize hx : os.getD k 0 = x at *
      generalize hL : sortK (ltC cf) os k = L at *
      generalize hR : os.drop (k + 1) = R at *
      have HO := Lib.hid hown
      have HLL := Lib.hid hLl
      have HLM := Lib.hid hLm
      have HN := Lib.hid hnext
      have HRR := Lib.hid hR
      have HXM := Lib.hid hxm
      have HG := Lib.hid hgr
      have hki : (k : Int) < (m : Int) := by omega
      have hkd : decide ((k : Int) < (m : Int)) = true := decide_eq_true hki
      clear hown hLl hLm hnext hR hxm hgr hx hL hrl
      go_wp2
      go_loopw [9] (fun vj wq => ∃ j : Nat, j ≤ k ∧ vj = .int .i64 j ∧ wq.ownsRow base 2 1 (.slice (some ⟨g, 0, none⟩) m d) m (ints (stA L x j R)) ∧ Hid (posK (ltC cf) L x j = posK (ltC cf) L x k) ∧ Hid (K wq) ∧ w.grownBy wq (some g)) (fun vj _ => (intOf vj).toNat)
      case atStart => exact ⟨k, Nat.le_refl _, rfl, HO.out, (show Hid _ from rfl), hKw, HG.out⟩
      case round =>
        obtain ⟨j, hj, rfl, hown, HP, hKq, hgq⟩ := hrel
        cases j with
        | zero =>
          have hgd : decide ((0 : Int) < ((0 : Nat) : Int)) = false := by decide
          have HO2 := Lib.hid hown
          have HGQ := Lib.hid hgq
          clear hown hgq
          go_wp2
          go_quiet (fail)
          have e0 : stA L x 0 R = sortK (ltC cf) os (k + 1) ++ os.drop (k + 1) := by
            rw [← HN.out, HRR.out, ← stA_end, HLL.out, ← HP.out]
            rfl
          have HE := Lib.hid e0
          clear e0
          go_wp2
          go_roundw
          case rel => exact ⟨k + 1, by omega, by omega, by go_num, by rw [← HE.out]; exact own_drewN HO2.out _, Lib.hid (HKD.out _ _ hKq.out), ⟨HGQ.out.os, HGQ.out.tape, HGQ.out.output, HGQ.out.size, HGQ.out.block⟩⟩
          case measure => simp [intOf]; omega
        | succ j =>
          have hgd : decide ((0 : Int) < ((j + 1 : Nat) : Int)) = true := decide_eq_true (by omega)
          have hLj : j + 1 ≤ L.length := by rw [HLL.out]; exact hj
          have hsl : (stA L x (j + 1) R).length = m := by have := hown.1; rw [ints_len] at this; omega
          have c1 := own_int hown (i := j + 1) (by omega) hsl
          have c2 := own_int hown (i := j) (by omega) hsl
          rw [stA_at hLj] at c1
          rw [stA_below hLj] at c2
          have hym := HLM.out j (by omega)
          have hsw := stA_swap (x := x) (rest := R) hLj
          have hP := HP.out
          rw [posK_succ] at hP
          generalize hy : L.getD j 0 = y at *
          obtain ⟨z, hz⟩ : ∃ z, cf x y = z := ⟨_, rfl⟩
          have hzb := hcf x y
          have hcall := fun n => HC.out (wr.drewN n) (HKD.out _ _ hKq.out) x y HXM.out hym
          rw [hz] at hzb hcall
          have hlz : ltC cf x y = decide (z < 0) := by unfold ltC; rw [hz]
          rw [hlz] at hP
          have HCA := Lib.hid hcall
          have HSW := Lib.hid hsw
          have HPP := Lib.hid hP
          have HO2 := Lib.hid hown
          have HGQ := Lib.hid hgq
          have hj0 : (0 : Int) ≤ (j : Int) := by omega
          have hj1 : ((j : Int) + 1) < (m : Int) := by omega
          clear hcall hsw hP hown hgq hym hy hz hlz hsl hLj HP
          by_cases hlz : z < 0
          · have hzd : decide (z < 0) = true := decide_eq_true hlz
            go_wp2
            go_quiet (first | (go_at_fn g'; refine (HCA.out _).mono ?_; rintro e w' ⟨rfl, q, rfl⟩; exact ⟨rfl, _, drewN_add _ _ _⟩))
            have p6 := own_drewN HO2.out nq
            have k6 := HKD.out _ nq hKq.out
            have g6 : w.grownBy (wr.drewN nq) (some g) := ⟨HGQ.out.os, HGQ.out.tape, HGQ.out.output, HGQ.out.size, HGQ.out.block⟩
            have d1 : (wr.drewN nq).cell? ⟨g, j + 1, none⟩ = some (.int .i64 x) := c1
            have d2 : (wr.drewN nq).cell? ⟨g, j, none⟩ = some (.int .i64 y) := c2
            generalize wr.drewN nq = w6 at *
            have f6 := p6.frozenAt
            have S1 := own_iset p6 (j + 1) y
            have S2 := own_iset S1.1 j x
            rw [HSW.out] at S2
            have T1 := Lib.hid S2.1.drew
            have T2 := Lib.hid (grown_drew (World.grownBy.trans g6 (World.grownBy.trans S1.2 S2.2)))
            have T3 := Lib.hid (HKD.out _ 1 (HKS.out _ j (.int .i64 x) (HKS.out _ (j + 1) (.int .i64 y) k6)))
            have hP := HPP.out
            rw [hzd, if_pos rfl] at hP
            have HP2 := Lib.hid hP
            clear p6 k6 g6 S1 S2 hP c1 c2 HO2 HGQ HPP HSW
            go_wp2
            go_region
            go_wp2
            go_roundw
            case rel => exact ⟨j, by omega, by go_num, T1.out, HP2, T3, T2.out⟩
            case measure => simp [intOf]
          · have hzd : decide (z < 0) = false := decide_eq_false hlz
            have hP := HPP.out
            rw [hzd, if_neg (by simp)] at hP
            have e0 : stA L x (j + 1) R = sortK (ltC cf) os (k + 1) ++ os.drop (k + 1) := by
              rw [← HN.out, HRR.out, ← stA_end, HLL.out, ← hP]
            have HE := Lib.hid e0
            clear e0 hP HPP HSW
            go_wp2
            go_quiet (first | (go_at_fn g'; refine (HCA.out _).mono ?_; rintro e w' ⟨rfl, q, rfl⟩; exact ⟨rfl, _, drewN_add _ _ _⟩))
            go_wp2
            go_roundw
            case rel => exact ⟨k + 1, by omega, by omega, by go_num, by rw [← HE.out]; exact own_drewN HO2.out _, Lib.hid (HKD.out _ _ hKq.out), ⟨HGQ.out.os, HGQ.out.tape, HGQ.out.output, HGQ.out.size, HGQ.out.block⟩⟩
            case measure => simp [intOf]; omega
    · have : k = m := by omega
      subst this
      rw [List.drop_of_length_le (by rw [HL.out]; exact Nat.le_refl _), List.append_nil] at hown
      have HO3 := Lib.hid hown
      have HG := Lib.hid hgr
      clear hown hgr
      go_wp2
      go_end0
      exact ⟨rfl, HO3.out, hKw.out, HG.out⟩
set_option maxRecDepth 100000 in
set_option maxHeartbeats 4000000 in
theorem stable_any (g' : Nat) (lb : Array Value) (eg : ∀ args w, (callFunc g' args).run Try.prog w = .ok (.enter g' args) w) (cf : Int → Int → Int) (hcf : ∀ i j, -1 ≤ cf i j ∧ cf i j ≤ 1) (os : List Int) (K : World → Prop) (base g m d : Nat) (w : World) (hm : m ≤ 9)
    (h : w.ownsRow base 2 1 (.slice (some ⟨g, 0, none⟩) m d) m (ints os)) (hK : K w) (hKs : ∀ W i u, K W → K (W.setCell ⟨g, i, none⟩ u)) (hKd : ∀ W q, K W → K (W.drewN q)) (hc : CmpB Try.prog g' lb cf os K) :
    Calls Try.prog 96 #[.slice (some ⟨g, 0, none⟩) m d, .int .i64 m, .func (.func g') #[] lb] w fun e w' => e = .returned (.tuple #[]) ∧
      w'.ownsRow base 2 1 (.slice (some ⟨g, 0, none⟩) m d) m (ints (sortK (ltC cf) os m)) ∧ K w' ∧ w.grownBy w' (some g) := by
  have hcall := insSort_any g' lb eg cf hcf os K base g m d w hm h hK hKs hKd hc
  generalize sortK (ltC cf) os m = R at *
  have HC := Lib.hid hcall
  clear hcall h hK hKs hKd hc eg hcf
  have hmi : (m : Int) ≤ 9 := by omega
  go_enter Try.func96, Try.ntmps96
  go_wp2
  go_loop [7, 8] (fun a b => a = .int .i64 0 ∧ b = .int .i64 20) (fun _ _ => 0)
  case atStart => exact ⟨rfl, rfl⟩
  case round =>
    obtain ⟨rfl, rfl⟩ := hrel
    go_wp2_with fail
    refine (HC.out).mono ?_
    rintro e w1 ⟨rfl, ho, hk, hg⟩
    have HR := Lib.hid (And.intro ho (And.intro hk hg))
    clear ho hk hg HC
    go_wp2
    go_loop [6] (fun a => a = .int .i64 20) (fun _ => 0)
    case atStart => rfl
    case round =>
      subst hrel
      go_wp2
      go_end0
      exact ⟨rfl, HR.out.1, HR.out.2.1, HR.out.2.2⟩

set_option maxHeartbeats 2000000 in
theorem sortStable_any (g' : Nat) (lb : Array Value) (eg : ∀ args w, (callFunc g' args).run Try.prog w = .ok (.enter g' args) w) (cf : Int → Int → Int) (hcf : ∀ i j, -1 ≤ cf i j ∧ cf i j ≤ 1) (os : List Int) (K : World → Prop) (base g m d : Nat) (w : World) (hm : m ≤ 9)
    (h : w.ownsRow base 2 1 (.slice (some ⟨g, 0, none⟩) m d) m (ints os)) (hK : K w) (hKs : ∀ W i u, K W → K (W.setCell ⟨g, i, none⟩ u)) (hKd : ∀ W q, K W → K (W.drewN q)) (hc : CmpB Try.prog g' lb cf os K) :
    Calls Try.prog 83 #[.slice (some ⟨g, 0, none⟩) m d, .func (.func g') #[] lb] w fun e w' => e = .returned (.tuple #[]) ∧
      w'.ownsRow base 2 1 (.slice (some ⟨g, 0, none⟩) m d) m (ints (sortK (ltC cf) os m)) ∧ K w' ∧ w.grownBy w' (some g) := by
  have hcall := stable_any g' lb eg cf hcf os K base g m d w hm h hK hKs hKd hc
  generalize sortK (ltC cf) os m = R at *
  have HC := Lib.hid hcall
  clear hcall h hK hKs hKd hc eg hcf
  go_enter Try.func83, Try.ntmps83
  go_wp2_with fail
  refine (HC.out).mono ?_
  rintro e w1 ⟨rfl, ho, hk, hg⟩
  have HR := Lib.hid (And.intro ho (And.intro hk hg))
  clear ho hk hg HC
  go_wp2
  go_end0
  exact ⟨rfl, HR.out.1, HR.out.2.1, HR.out.2.2⟩
theorem cmpZ_bd (a b : Int) : -1 ≤ cmpZ a b ∧ cmpZ a b ≤ 1 := by unfold cmpZ; exact cmpZ_bd0 a b
theorem cmpZ_neg (a b : Int) : decide (cmpZ a b < 0) = decide (a < b) := by
  unfold cmpZ
  by_cases h : a < b
  · rw [if_pos h]; simp [h]
  · rw [if_neg h]; split <;> simp [h]
end Go.Proofs.Ytfjmohnlllbgmaa
