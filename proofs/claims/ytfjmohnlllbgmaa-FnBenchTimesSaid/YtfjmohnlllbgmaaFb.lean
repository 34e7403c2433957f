/- The walk of the law FnBenches. Printed by mkfb.py. -/
import Derived.Test.YtfjmohnlllbgmaaBj
import Derived.Test.YtfjmohnlllbgmaaSh
import Derived.Test.YtfjmohnlllbgmaaLx
namespace Go.Proofs.Ytfjmohnlllbgmaa
open Go.RowKit Go.Shelf

theorem own_plen {w : World} {base : Nat} {t : TypeId} {A : Option Addr} {n c : Nat} {ps : List (Int × Int)} (h : w.ownsRow base t 2 (.slice A n c) n (pr ps)) : ps.length = n := by
  have := h.1
  rw [pr_len] at this
  omega
theorem codeJ_perm {ps : List (Int × Int)} {os : List Int} {n : Nat} (hj : jobsB ps = true) (hl : ps.length = n) (h : os.Perm (upto n)) : codeJ ps os = 0 := by
  unfold codeJ
  rw [hj, hl]
  have : ordB n os = true := decide_eq_true h
  rw [this]
  rfl
theorem spanZ_perm {ps : List (Int × Int)} {os : List Int} {n : Nat} (hj : jobsB ps = true) (hl : ps.length = n) (h : os.Perm (upto n)) : spanZ ps os = (spanL ps os, 0) := by
  obtain ⟨_, hin⟩ := perm_in h
  unfold spanZ
  rw [codeJ_perm hj hl h, if_pos rfl, tim_span (fun j i hi => by have := hin j i hi; omega)]
theorem boundZ_ok {ps : List (Int × Int)} (hj : jobsB ps = true) (hne : ps ≠ []) : ∃ a b, boundZ ps = (max (sumG Prod.fst ps + minG Prod.snd b ps) (sumG Prod.snd ps + minG Prod.fst a ps), 0) := by
  unfold boundZ
  rw [if_pos hj]
  cases ps with
  | nil => exact absurd rfl hne
  | cons p ps => exact ⟨p.1, p.2, rfl⟩

set_option maxRecDepth 100000 in
set_option maxHeartbeats 8000000 in
theorem law_Benches (A : Option Addr) (n cp : Nat) (A' : Option Addr) (n' cp' : Nat) (w : World) (h1 : Bytes w A n cp) (h2 : Bytes w A' n' cp') :
    Calls Try.prog 5 #[.slice A n cp, .slice A' n' cp'] w fun e w' => e = .returned (.bool true) ∧ Below w.heap.size w w' := by
  have nn := h1.1
  have nn' := h2.1
  have nc := h1.2.1
  have nc' := h2.2.1
  have H1 := Lib.hid h1
  have H2 := Lib.hid h2
  clear h1 h2
  go_enter Try.func5, Try.ntmps5
  go_wp2_with fail
  refine (a2Long_any _ _ _ _ _ _ _ (by omega) (by omega)).mono ?_
  rintro e w' ⟨rfl, rfl⟩
  cases hz : (decide (3000 < n) || decide (3000 < n')) with
  | true =>
    go_wp2
    go_returns
    exact ⟨rfl, Below.refl _ _⟩
  | false =>
  clear hz
  go_wp2_with fail
  refine (a2Jobs_any _ _ _ _ H1.out).mono ?_
  rintro e w1 ⟨g, m, c, ps, rfl, ho, hD, hm1, hm6, b1⟩
  have K2 := Lib.hid (H2.out.below b1)
  have hpl := own_plen ho
  have HP1 := Lib.hid (Rd.of_own ho)
  have HB1 := Lib.hid b1
  have s1 := b1.size
  have hjb := hD.jobs (by omega)
  clear ho b1 H1 H2 hD
  go_wp2_with fail
  refine (a2Order_any _ _ _ _ _ K2.out (by omega)).mono ?_
  rintro e w2 ⟨go, co, os, rfl, ho, hperm, b2⟩
  have HP2 := Lib.hid (HP1.out.below b2)
  have HO2 := Lib.hid (Rd.of_own ho)
  have HB2 := Lib.hid (HB1.out.trans (b2.mono s1))
  have s2 := HB2.out.size
  clear ho b2 K2 HP1 HB1 s1
  have hne : ps ≠ [] := by intro e; subst e; simp at hpl; omega
  obtain ⟨ba, bb, hbz⟩ := boundZ_ok hjb hne
  have hbl := bound_le (os := ruleL ps m) (a := ba) (b := bb) hne (by rw [hpl]; exact rule_perm ps m)
  have hle := least_le (ps := ps) hperm
  have hlex := firstO_lex (n := m) (P := fun os => decide (spanL ps os = leastS ps m)) (R := os) hperm
  have hsh := short_some ps m
  have hc1 := fun W h => implLeastSpan_any g 0 m c ps W h
  have hc2 := fun W h => implBoundOf_any (some ⟨g, 0, none⟩) m c ps W h
  have hc3 := fun W h => implRuleOrder_any g 0 m c ps W h
  have hc4 := fun W h => implShortestOrder_any g 0 m c ps W h
  have hc5 := fun B k d W h hB hm => implSpanOf_any (some ⟨g, 0, none⟩) m c ps B k d (ruleL ps m) W h hB hm
  have hc6 := fun B k d W h hB hm => implSpanOf_any (some ⟨g, 0, none⟩) m c ps B k d (shortL ps m) W h hB hm
  have hc7 := fun B k d W h hB hm => implSpanOf_any (some ⟨g, 0, none⟩) m c ps B k d os W h hB hm
  have e1 : leastZ ps = (leastS ps m, 0) := by unfold leastZ; rw [if_pos hjb, hpl, tim_least hpl]
  have e3 : ruleZ ps = (ruleL ps m, 0) := by unfold ruleZ; rw [if_pos hjb, hpl]
  have e4 : shortZ ps = (shortL ps m, 0) := by unfold shortZ; rw [if_pos hjb, hpl]
  have e5 := spanZ_perm hjb hpl (rule_perm ps m)
  have e5' : spanL ps (ruleL ps m) = leastS ps m := rfl
  rw [e5'] at e5 hbl
  have e6 := spanZ_perm hjb hpl (short_perm ps m)
  rw [short_span] at e6
  have e7 := spanZ_perm hjb hpl hperm
  rw [e1] at hc1
  rw [hbz] at hc2
  rw [e3] at hc3
  rw [e4] at hc4
  rw [e5] at hc5
  rw [e6] at hc6
  rw [e7] at hc7
  have hsl : (shortL ps m).length = m := by rw [(short_perm ps m).length_eq, upto_len]
  have hol : os.length = m := by rw [hperm.length_eq, upto_len]
  have hrl : (ruleL ps m).length = m := by rw [(rule_perm ps m).length_eq, upto_len]
  simp only at hc1 hc2 hc3 hc4 hc5 hc6 hc7
  have hlex2 : ∀ (i : Nat) (x y : Int), spanL ps os = leastS ps m → (∀ j, j < i → (shortL ps m)[j]? = os[j]?) → (shortL ps m)[i]? = some x → os[i]? = some y → x ≠ y → x < y := fun i x y hv => hlex (decide_eq_true hv) m (b := []) (c := os) (by omega) (by simp) hsh i x y
  generalize max (sumG Prod.fst ps + minG Prod.snd bb ps) (sumG Prod.snd ps + minG Prod.fst ba ps) = D at *
  generalize spanL ps os = V at *
  generalize leastS ps m = S at *
  generalize shortL ps m = sh at *
  generalize ruleL ps m = ru at *
  have HC1 := Lib.hid hc1
  have HC2 := Lib.hid hc2
  have HC3 := Lib.hid hc3
  have HC4 := Lib.hid hc4
  have HC5 := Lib.hid hc5
  have HC6 := Lib.hid hc6
  have HC7 := Lib.hid hc7
  have HSL := Lib.hid hsl
  have HOL := Lib.hid hol
  have HRL := Lib.hid hrl
  have HLX := Lib.hid hlex2
  clear hc1 hc2 hc3 hc4 hc5 hc6 hc7 hsl hol hrl hlex2 hlex hsh hbz e1 e3 e4 e5 e6 e7 e5' hperm hjb hpl hne
  go_wp2_with fail
  refine (HC1.out _ HP2.out).mono ?_
  rintro e w3 ⟨rfl, b3⟩
  have HP3 := Lib.hid (HP2.out.below b3)
  have HO3 := Lib.hid (HO2.out.below b3)
  have HB3 := Lib.hid (HB2.out.trans (b3.mono s2))
  have s3 := HB3.out.size
  clear b3 HP2 HO2 HB2 s2
  go_wp2_with fail
  refine (HC2.out _ HP3.out).mono ?_
  rintro e w4 ⟨rfl, b4⟩
  have HP4 := Lib.hid (HP3.out.below b4)
  have HO4 := Lib.hid (HO3.out.below b4)
  have HB4 := Lib.hid (HB3.out.trans (b4.mono s3))
  have s4 := HB4.out.size
  clear b4 HP3 HO3 HB3 s3
  go_wp2_with fail
  refine (HC3.out _ HP4.out).mono ?_
  rintro e w5 ⟨Ar, nr, cr, rfl, ho, b5⟩
  have HP5 := Lib.hid (HP4.out.below b5)
  have HO5 := Lib.hid (HO4.out.below b5)
  have HB5 := Lib.hid (HB4.out.trans (b5.mono s4))
  have s5 := HB5.out.size
  have hnr : nr = m := by have := (Rd.of_own ho).ilen; have := HRL.out; omega
  subst hnr
  have HR5 := Lib.hid (Rd.of_own ho)
  clear ho
  clear b5 HP4 HO4 HB4 s4
  go_wp2_with fail
  refine (HC4.out _ HP5.out).mono ?_
  rintro e w6 ⟨As, ns, cs, rfl, ho, b6⟩
  have HP6 := Lib.hid (HP5.out.below b6)
  have HO6 := Lib.hid (HO5.out.below b6)
  have HB6 := Lib.hid (HB5.out.trans (b6.mono s5))
  have s6 := HB6.out.size
  have hns : ns = nr := by have := (Rd.of_own ho).ilen; have := HSL.out; omega
  subst hns
  have HS6 := Lib.hid (Rd.of_own ho)
  have HR6 := Lib.hid (HR5.out.below b6)
  clear ho HR5
  clear b6 HP5 HO5 HB5 s5
  go_wp2_with fail
  refine (HC5.out _ _ _ _ HP6.out HR6.out (by omega)).mono ?_
  rintro e w7 ⟨rfl, b7⟩
  have HP7 := Lib.hid (HP6.out.below b7)
  have HO7 := Lib.hid (HO6.out.below b7)
  have HB7 := Lib.hid (HB6.out.trans (b7.mono s6))
  have s7 := HB7.out.size
  have HS7 := Lib.hid (HS6.out.below b7)
  clear HS6 HR6
  clear b7 HP6 HO6 HB6 s6
  go_wp2_with fail
  refine (HC6.out _ _ _ _ HP7.out HS7.out (by omega)).mono ?_
  rintro e w8 ⟨rfl, b8⟩
  have HP8 := Lib.hid (HP7.out.below b8)
  have HO8 := Lib.hid (HO7.out.below b8)
  have HB8 := Lib.hid (HB7.out.trans (b8.mono s7))
  have s8 := HB8.out.size
  have HS8 := Lib.hid (HS7.out.below b8)
  clear HS7
  clear b8 HP7 HO7 HB7 s7
  go_wp2_with fail
  refine (HC7.out _ _ _ _ HP8.out HO8.out (by omega)).mono ?_
  rintro e w9 ⟨rfl, b9⟩
  have HP9 := Lib.hid (HP8.out.below b9)
  have HO9 := Lib.hid (HO8.out.below b9)
  have HB9 := Lib.hid (HB8.out.trans (b9.mono s8))
  have s9 := HB9.out.size
  have HS9 := Lib.hid (HS8.out.below b9)
  clear HS8
  clear b9 HP8 HO8 HB8 s8
  have hd1 : decide (S < D) = false := decide_eq_false (by omega)
  have hd2 : decide (V < S) = false := decide_eq_false (by omega)
  by_cases hv : V = S
  · have hvb : (V == S) = true := by simp [hv]
    have HV := Lib.hid hv
    clear hv
    go_wp2_with fail
    go_loopw [21] (fun vi wr => ∃ k : Nat, k ≤ ns ∧ vi = .int .i64 k ∧ Hid (∀ j, j < k → sh[j]? = os[j]?) ∧ Below w9.heap.size w9 wr) (fun vi _ => ns - (intOf vi).toNat)
    case atStart => exact ⟨0, Nat.zero_le _, rfl, (show Hid _ from fun j hj => absurd hj (Nat.not_lt_zero _)), Below.refl _ _⟩
    case round =>
      obtain ⟨k, hk, rfl, HE, hb⟩ := hrel
      have Hb := Lib.hid hb
      clear hb
      by_cases hlt : k < ns
      · have hk0 : (0 : Int) ≤ (k : Int) := by omega
        have hk1 : (k : Int) < (ns : Int) := by omega
        have hkd : decide ((k : Int) < (ns : Int)) = true := decide_eq_true hk1
        obtain ⟨p1, o1, x, hA1, hl1, hx, hcx⟩ := HS9.out.int hlt
        obtain ⟨p2, o2, y, hA2, hl2, hy, hcy⟩ := HO9.out.int hlt
        subst hA1
        injection hA2 with hA2
        injection hA2 with e1 e2
        subst e1
        subst e2
        rw [Nat.zero_add] at hcy
        have HCX := Lib.hid hcx
        have HCY := Lib.hid hcy
        have c1 := cell_bel hcx Hb.out
        have c2 := cell_bel hcy Hb.out
        have HX := Lib.hid hx
        have HY := Lib.hid hy
        clear hx hy hcx hcy
        by_cases hxy : y = x
        · have hne : (y != x) = false := by simp [hxy]
          subst hxy
          go_wp2
          go_quiet (fail)
          go_wp2
          go_roundw
          case rel => exact ⟨k + 1, by omega, by go_num, (show Hid _ from fun j hj => by
            by_cases e : j = k
            · subst e; rw [HX.out, HY.out]
            · exact HE.out j (by omega)), below_drewN Hb.out _⟩
          case measure => simp [intOf]; omega
        · have hne : (y != x) = true := by simpa using hxy
          have hlt2 := HLX.out k x y HV.out HE.out HX.out HY.out (fun e => hxy e.symm)
          have hd : decide (x < y) = true := decide_eq_true hlt2
          clear HE
          go_wp2
          go_quiet (fail)
          go_wp2
          have q2 := below_drewN Hb.out nq
          generalize wr.drewN nq = w10 at *
          have Q2 := Lib.hid q2
          have c1 := cell_bel HCX.out Q2.out
          have c2 := cell_bel HCY.out Q2.out
          clear q2 Hb
          go_quiet (fail)
          go_wp2
          go_ret
          exact ⟨rfl, HB9.out.trans ((below_drewN Q2.out _).mono s9)⟩
      · go_wp2
        go_ret
        exact ⟨rfl, HB9.out.trans (Hb.out.mono s9)⟩
  · have hvb : (V == S) = false := by simpa using hv
    clear hv
    go_wp2
    go_ret
    exact ⟨rfl, HB9.out⟩
end Go.Proofs.Ytfjmohnlllbgmaa
