/- ChartLines, plain: what the two lines show. -/
import Derived.Test.YtfjmohnlllbgmaaSp
import Derived.Test.YtfjmohnlllbgmaaHf
namespace Go.Proofs.Ytfjmohnlllbgmaa
open Go.RowKit

/-- The sign at minute t when k jobs have been drawn. -/
def chK (lo hi : Nat → Int) : Nat → Nat → Int
  | 0, _ => 46
  | k + 1, t => if lo k ≤ (t : Int) ∧ (t : Int) < hi k then 97 + (k : Int) else chK lo hi k t
theorem chK_yes {lo hi : Nat → Int} {k t : Nat} (h : lo k ≤ (t : Int) ∧ (t : Int) < hi k) : chK lo hi (k + 1) t = 97 + (k : Int) := if_pos h
theorem chK_no {lo hi : Nat → Int} {k t : Nat} (h : ¬ (lo k ≤ (t : Int) ∧ (t : Int) < hi k)) : chK lo hi (k + 1) t = chK lo hi k t := if_neg h
def fLo (ps : List (Int × Int)) (F : List Int) (k : Nat) : Int := F.getD k 0 - (ps.getD k (0, 0)).1
def fHi (F : List Int) (k : Nat) : Int := F.getD k 0
def sLo (B : List Int) (k : Nat) : Int := B.getD k 0
def sHi (ps : List (Int × Int)) (B : List Int) (k : Nat) : Int := B.getD k 0 + (ps.getD k (0, 0)).2
def chL (ps : List (Int × Int)) (t : Tim) (n : Nat) : List ByteArray :=
  [strOfNums (rowF 0 t.b.toNat (chK (fLo ps t.F) (fHi t.F) n)), strOfNums (rowF 0 t.b.toNat (chK (sLo t.B) (sHi ps t.B) n))]
def chZ (ps : List (Int × Int)) (os : List Int) : List ByteArray × Int :=
  if codeJ ps os = 0 then (if 120 < (timK ps os os.length).b then ([], 5) else (chL ps (timK ps os os.length) ps.length, 0)) else ([], codeJ ps os)
theorem chZ_n {ps : List (Int × Int)} {os : List Int} (h : ¬ codeJ ps os = 0) : chZ ps os = ([], codeJ ps os) := if_neg h
theorem chZ_5 {ps : List (Int × Int)} {os : List Int} (h : codeJ ps os = 0) (h2 : 120 < (timK ps os os.length).b) : chZ ps os = ([], 5) := by unfold chZ; rw [if_pos h, if_pos h2]
theorem chZ_0 {ps : List (Int × Int)} {os : List Int} (h : codeJ ps os = 0) (h2 : ¬ 120 < (timK ps os os.length).b) : chZ ps os = (chL ps (timK ps os os.length) ps.length, 0) := by unfold chZ; rw [if_pos h, if_neg h2]
theorem chZ_len (ps : List (Int × Int)) (os : List Int) : (chZ ps os).1.length ≤ 1048576 := by
  unfold chZ
  split
  · split
    · simp
    · simp [chL]
  · simp
/-- Where a job that has come lies. -/
structure FitJ (ps : List (Int × Int)) (t : Tim) (i : Nat) : Prop where
  f0 : 0 ≤ fLo ps t.F i
  fb : t.F.getD i 0 ≤ t.B.getD i 0
  s : t.S.getD i 0 = t.B.getD i 0 + (ps.getD i (0, 0)).2
  sb : t.S.getD i 0 ≤ t.b
theorem tim_fit {ps : List (Int × Int)} {os : List Int} (hj : JOk ps) (hb : ∀ (j : Nat) (i : Int), os[j]? = some i → 0 ≤ i ∧ i < ps.length) : ∀ k, k ≤ os.length → ∀ i : Nat, (i : Int) ∈ os.take k → FitJ ps (timK ps os k) i
  | 0, _, i, h => by simp at h
  | k + 1, hk, i, h => by
    have hk' := List.getElem?_eq_getElem (l := os) (i := k) (by omega)
    have hji := hb k _ hk'
    obtain ⟨j, hj'⟩ := Int.eq_ofNat_of_zero_le hji.1
    rw [hj'] at hk' hji
    have hp := List.getElem?_eq_getElem (l := ps) (i := j) (by omega)
    have ht : os.take (k + 1) = os.take k ++ [(j : Int)] := by
      rw [List.take_add_one, hk']
      rfl
    rw [ht] at h
    rw [tim_step rfl hk' hp]
    have htb := timB_all hj hb k (by omega)
    have hpp := hj.job j _ hp
    have ha := htb.a0
    have hbb := htb.b0
    by_cases e : i = j
    · subst e
      have hg : ps.getD i (0, 0) = ps[i]'(by omega) := by simp [List.getD, hp]
      refine ⟨?_, ?_, ?_, ?_⟩
      · unfold fLo
        rw [hg]
        simp only [Tim.step, List.getD]
        rw [List.getElem?_set_self (by rw [htb.fl]; omega)]
        simp
        omega
      · simp only [Tim.step, List.getD]
        rw [List.getElem?_set_self (by rw [htb.fl]; omega), List.getElem?_set_self (by rw [htb.bl]; omega)]
        simp
        omega
      · rw [hg]
        simp only [Tim.step, List.getD]
        rw [List.getElem?_set_self (by rw [htb.sl]; omega), List.getElem?_set_self (by rw [htb.bl]; omega)]
        rfl
      · simp only [Tim.step, List.getD]
        rw [List.getElem?_set_self (by rw [htb.sl]; omega)]
        exact Int.le_refl _
    · have hm : (i : Int) ∈ os.take k := by
        rcases List.mem_append.1 h with h | h
        · exact h
        · simp at h; omega
      have ih := tim_fit hj hb k (by omega) i hm
      have e1 : ∀ (l : List Int) (v : Int), (l.set j v).getD i 0 = l.getD i 0 := fun l v => by
        simp only [List.getD]
        rw [List.getElem?_set_ne (by omega)]
      refine ⟨?_, ?_, ?_, ?_⟩
      · unfold fLo
        show 0 ≤ (List.set _ _ _).getD i 0 - _
        rw [e1]
        exact ih.f0
      · show (List.set _ _ _).getD i 0 ≤ (List.set _ _ _).getD i 0
        rw [e1, e1]
        exact ih.fb
      · show (List.set _ _ _).getD i 0 = (List.set _ _ _).getD i 0 + _
        rw [e1, e1]
        exact ih.s
      · show (List.set _ _ _).getD i 0 ≤ max ((timK ps os k).a + _) (timK ps os k).b + _
        rw [e1]
        have := ih.sb
        have hm := Int.le_max_right ((timK ps os k).a + (ps[j]'(by omega)).1) (timK ps os k).b
        omega
theorem tim_fits {ps : List (Int × Int)} {os : List Int} {n : Nat} (hj : JOk ps) (hl : ps.length = n) (hp : os.Perm (upto n)) {i : Nat} (hi : i < n) : FitJ ps (timK ps os n) i := by
  obtain ⟨hlo, hin⟩ := perm_in hp
  refine tim_fit hj (fun j x hx => by have := hin j x hx; omega) n (by omega) i ?_
  rw [List.take_of_length_le (by omega)]
  exact hp.symm.subset (upto_mem'.2 ⟨by omega, by omega⟩)
end Go.Proofs.Ytfjmohnlllbgmaa
