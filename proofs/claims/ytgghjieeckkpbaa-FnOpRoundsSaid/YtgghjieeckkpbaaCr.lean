/- Circles and codes: l13Circle, CircleOf, l13Code, opsCode; the law of CircleOf. Printed by mkcr.py. -/
import Derived.Test.YtgghjieeckkpbaaBf
import Derived.Test.YtgghjieeckkpbaaOwn
namespace Go.Proofs.Ytgghjieeckkpbaa
open Go.RowKit

set_option maxRecDepth 100000 in
set_option maxHeartbeats 4000000 in
theorem l13Circle_any (A : Option Addr) (n c : Nat) (ops : List OpV) (w : World) (h : RdO w A n c ops) (hok : OOk ops) :
    Calls Try.prog 90 #[.slice A n c] w fun e w' => e = .returned (.int .i64 (circZ (bfsO ops) n)) ∧ Below w.heap.size w w' := by
  have hl := h.len
  have h1 := h.cap
  have h2 := h.max
  have hbf := bfs_ok hok hl
  have hn14 := hbf.hn
  have hmiss := circZ_miss (bfs := bfsO ops) (n := n)
  have hhit := fun k => circZ_hit (bfs := bfsO ops) (n := n) (k := k)
  generalize circZ (bfsO ops) n = R at *
  have HMI := Lib.hid hmiss
  have HHI := Lib.hid hhit
  have H := Lib.hid h
  have HK := Lib.hid hok
  clear hmiss hhit hbf h hl hok
  go_enter Try.func90, Try.ntmps90
  go_wp2_with fail
  go_loopw [3] (fun vi wr => ∃ k : Nat, k ≤ n ∧ vi = .int .i64 k ∧ Hid (scanF (circF (bfsO ops)) k = none) ∧ Below w.heap.size w wr) (fun vi _ => n - (intOf vi).toNat)
  case atStart => exact ⟨0, Nat.zero_le _, rfl, (show Hid _ from rfl), Below.refl _ _⟩
  case round =>
    obtain ⟨k, hk, rfl, HS, hb⟩ := hrel
    have Hb := Lib.hid hb
    by_cases hlt : k < n
    · have hk0 : (0 : Int) ≤ (k : Int) := by omega
      have hk1 : (k : Int) < (n : Int) := by omega
      have hcall := l13Before_any A n c ops k wr (H.out.below hb) HK.out hlt
      have HC := Lib.hid hcall
      have hhk := HHI.out k HS.out hlt
      have hnx := fun hc => circ_next HS.out hc
      have hci := circ_iff (bfsO ops) k
      generalize circB (bfsO ops) k = q at *
      have HHK := Lib.hid hhk
      have HNX := Lib.hid hnx
      have HCI := Lib.hid hci
      clear hhk hnx hcall hci hb
      go_wp2_with fail
      refine (HC.out).mono ?_
      rintro e w2 ⟨g, s, rfl, hown, hsl, hse, hb2⟩
      have cs := own_bool hown hlt hsl
      have hsq : seenAt s k = q := by rw [Bool.eq_iff_iff, hse k, HCI.out]
      rw [hsq] at cs
      have HB2 := Lib.hid (Hb.out.trans (hb2.mono Hb.out.size))
      clear hown hse hb2 hsq
      cases q with
      | true =>
        have hr := HHK.out (by trivial)
        subst hr
        clear HHI HMI HHK HNX
        go_wp2
        go_ret
        exact ⟨rfl, HB2.out⟩
      | false =>
        go_wp2
        go_roundw
        case rel => exact ⟨k + 1, by omega, by go_num, Lib.hid (HNX.out (by trivial)), HB2.out⟩
        case measure => simp [intOf]; omega
    · have hkn : k = n := by omega
      subst hkn
      have hr := HMI.out HS.out
      subst hr
      clear HHI HMI
      go_wp2
      go_ret
      exact ⟨rfl, Hb.out⟩

/-- The code of operations; the first circle and the code. -/
noncomputable def codeO (ops : List OpV) : Int := if okO ops = true then (if 0 ≤ circZ (bfsO ops) ops.length then 9 else 0) else 1
noncomputable def circP (ops : List OpV) : Int × Int := if okO ops = true then (circZ (bfsO ops) ops.length, 0) else (0, 1)
theorem codeO_bd (ops : List OpV) : codeO ops = 0 ∨ codeO ops = 1 ∨ codeO ops = 9 := by
  unfold codeO
  split
  · split <;> simp
  · simp
theorem codeO_ok {ops : List OpV} (h : codeO ops = 0) : OOk ops ∧ ∀ j, ¬ Rch (Eb (bfsO ops)) j j := by
  unfold codeO at h
  split at h
  · rename_i hk
    split at h
    · omega
    · rename_i hc
      have ho := okO_true hk
      refine ⟨ho, fun j hr => ?_⟩
      have hbf := bfs_ok ho rfl
      exact circZ_none (by omega) j (rch_lt hbf.eb hr).1 hr
  · omega

set_option maxHeartbeats 1000000 in
theorem implCircleOf_any (A : Option Addr) (n c : Nat) (ops : List OpV) (w : World) (h : RdO w A n c ops) :
    Calls Try.prog 43 #[.slice A n c] w fun e w' => e = .returned (.tuple #[.int .i64 (circP ops).1, .int .i64 (circP ops).2]) ∧ Below w.heap.size w w' := by
  have hl := h.len
  have hcall := implValidOps_any A n c ops w h
  unfold circP
  by_cases hq : okO ops = true
  · rw [if_pos hq]
    have hok := okO_true hq
    rw [hq] at hcall
    have hcirc := fun W h => circleOf_any A n c ops W h hok
    have hbd := circZ_bd (bfsO ops) n
    rw [hl]
    generalize circZ (bfsO ops) n = z at *
    have HC := Lib.hid hcall
    have HCC := Lib.hid hcirc
    have H := Lib.hid h
    clear hcall hcirc h hq hok hl
    go_enter Try.func43, Try.ntmps43
    go_wp2_with fail
    refine (HC.out).mono ?_
    rintro e w1 ⟨rfl, hb1⟩
    have H1 := Lib.hid (H.out.below hb1)
    have HB1 := Lib.hid hb1
    clear hb1
    go_wp2_with fail
    refine (HCC.out _ H1.out).mono ?_
    rintro e w2 ⟨rfl, hb2⟩
    have HB2 := Lib.hid (HB1.out.trans (hb2.mono HB1.out.size))
    clear hb2
    go_wp2
    go_ret2
    exact ⟨rfl, HB2.out⟩
  · rw [if_neg hq]
    have hq' : okO ops = false := by simpa using hq
    rw [hq'] at hcall
    have HC := Lib.hid hcall
    clear hcall h hq hq' hl
    go_enter Try.func43, Try.ntmps43
    go_wp2_with fail
    refine (HC.out).mono ?_
    rintro e w1 ⟨rfl, hb1⟩
    go_wp2
    go_ret2
    exact ⟨rfl, hb1⟩

set_option maxHeartbeats 1000000 in
theorem specCircleOf_any (A : Option Addr) (n c : Nat) (ops : List OpV) (w : World) (h : RdO w A n c ops) :
    Calls Try.prog 42 #[.slice A n c] w fun e w' => e = .returned (.tuple #[.int .i64 (circP ops).1, .int .i64 (circP ops).2]) ∧ Below w.heap.size w w' := by
  have hl := h.len
  have hcall := l13Ok_any A n c ops w h
  unfold circP
  by_cases hq : okO ops = true
  · rw [if_pos hq]
    have hok := okO_true hq
    rw [hq] at hcall
    have hcirc := fun W h => l13Circle_any A n c ops W h hok
    have hbd := circZ_bd (bfsO ops) n
    rw [hl]
    generalize circZ (bfsO ops) n = z at *
    have HC := Lib.hid hcall
    have HCC := Lib.hid hcirc
    have H := Lib.hid h
    clear hcall hcirc h hq hok hl
    go_enter Try.func42, Try.ntmps42
    go_wp2_with fail
    refine (HC.out).mono ?_
    rintro e w1 ⟨rfl, hb1⟩
    have H1 := Lib.hid (H.out.below hb1)
    have HB1 := Lib.hid hb1
    clear hb1
    go_wp2_with fail
    refine (HCC.out _ H1.out).mono ?_
    rintro e w2 ⟨rfl, hb2⟩
    have HB2 := Lib.hid (HB1.out.trans (hb2.mono HB1.out.size))
    clear hb2
    go_wp2
    go_ret2
    exact ⟨rfl, HB2.out⟩
  · rw [if_neg hq]
    have hq' : okO ops = false := by simpa using hq
    rw [hq'] at hcall
    have HC := Lib.hid hcall
    clear hcall h hq hq' hl
    go_enter Try.func42, Try.ntmps42
    go_wp2_with fail
    refine (HC.out).mono ?_
    rintro e w1 ⟨rfl, hb1⟩
    go_wp2
    go_ret2
    exact ⟨rfl, hb1⟩

set_option maxHeartbeats 1000000 in
theorem opsCode_any (A : Option Addr) (n c : Nat) (ops : List OpV) (w : World) (h : RdO w A n c ops) :
    Calls Try.prog 56 #[.slice A n c] w fun e w' => e = .returned (.int .i64 (codeO ops)) ∧ Below w.heap.size w w' := by
  have hl := h.len
  have hcall := implValidOps_any A n c ops w h
  unfold codeO
  by_cases hq : okO ops = true
  · rw [if_pos hq]
    have hok := okO_true hq
    rw [hq] at hcall
    have hcirc := fun W h => circleOf_any A n c ops W h hok
    have hbd := circZ_bd (bfsO ops) n
    rw [hl]
    generalize circZ (bfsO ops) n = z at *
    have HC := Lib.hid hcall
    have HCC := Lib.hid hcirc
    have H := Lib.hid h
    clear hcall hcirc h hq hok hl
    by_cases hz : 0 ≤ z
    · rw [if_pos hz]
      go_enter Try.func56, Try.ntmps56
      go_wp2_with fail
      refine (HC.out).mono ?_
      rintro e w1 ⟨rfl, hb1⟩
      have H1 := Lib.hid (H.out.below hb1)
      have HB1 := Lib.hid hb1
      clear hb1
      go_wp2_with fail
      refine (HCC.out _ H1.out).mono ?_
      rintro e w2 ⟨rfl, hb2⟩
      have HB2 := Lib.hid (HB1.out.trans (hb2.mono HB1.out.size))
      clear hb2
      go_wp2
      go_ret
      exact ⟨rfl, HB2.out⟩
    · rw [if_neg hz]
      go_enter Try.func56, Try.ntmps56
      go_wp2_with fail
      refine (HC.out).mono ?_
      rintro e w1 ⟨rfl, hb1⟩
      have H1 := Lib.hid (H.out.below hb1)
      have HB1 := Lib.hid hb1
      clear hb1
      go_wp2_with fail
      refine (HCC.out _ H1.out).mono ?_
      rintro e w2 ⟨rfl, hb2⟩
      have HB2 := Lib.hid (HB1.out.trans (hb2.mono HB1.out.size))
      clear hb2
      go_wp2
      go_ret
      exact ⟨rfl, HB2.out⟩
  · rw [if_neg hq]
    have hq' : okO ops = false := by simpa using hq
    rw [hq'] at hcall
    have HC := Lib.hid hcall
    clear hcall h hq hq' hl
    go_enter Try.func56, Try.ntmps56
    go_wp2_with fail
    refine (HC.out).mono ?_
    rintro e w1 ⟨rfl, hb1⟩
    go_wp2
    go_ret
    exact ⟨rfl, hb1⟩

set_option maxHeartbeats 1000000 in
theorem l13Code_any (A : Option Addr) (n c : Nat) (ops : List OpV) (w : World) (h : RdO w A n c ops) :
    Calls Try.prog 58 #[.slice A n c] w fun e w' => e = .returned (.int .i64 (codeO ops)) ∧ Below w.heap.size w w' := by
  have hl := h.len
  have hcall := l13Ok_any A n c ops w h
  unfold codeO
  by_cases hq : okO ops = true
  · rw [if_pos hq]
    have hok := okO_true hq
    rw [hq] at hcall
    have hcirc := fun W h => l13Circle_any A n c ops W h hok
    have hbd := circZ_bd (bfsO ops) n
    rw [hl]
    generalize circZ (bfsO ops) n = z at *
    have HC := Lib.hid hcall
    have HCC := Lib.hid hcirc
    have H := Lib.hid h
    clear hcall hcirc h hq hok hl
    by_cases hz : 0 ≤ z
    · rw [if_pos hz]
      go_enter Try.func58, Try.ntmps58
      go_wp2_with fail
      refine (HC.out).mono ?_
      rintro e w1 ⟨rfl, hb1⟩
      have H1 := Lib.hid (H.out.below hb1)
      have HB1 := Lib.hid hb1
      clear hb1
      go_wp2_with fail
      refine (HCC.out _ H1.out).mono ?_
      rintro e w2 ⟨rfl, hb2⟩
      have HB2 := Lib.hid (HB1.out.trans (hb2.mono HB1.out.size))
      clear hb2
      go_wp2
      go_ret
      exact ⟨rfl, HB2.out⟩
    · rw [if_neg hz]
      go_enter Try.func58, Try.ntmps58
      go_wp2_with fail
      refine (HC.out).mono ?_
      rintro e w1 ⟨rfl, hb1⟩
      have H1 := Lib.hid (H.out.below hb1)
      have HB1 := Lib.hid hb1
      clear hb1
      go_wp2_with fail
      refine (HCC.out _ H1.out).mono ?_
      rintro e w2 ⟨rfl, hb2⟩
      have HB2 := Lib.hid (HB1.out.trans (hb2.mono HB1.out.size))
      clear hb2
      go_wp2
      go_ret
      exact ⟨rfl, HB2.out⟩
  · rw [if_neg hq]
    have hq' : okO ops = false := by simpa using hq
    rw [hq'] at hcall
    have HC := Lib.hid hcall
    clear hcall h hq hq' hl
    go_enter Try.func58, Try.ntmps58
    go_wp2_with fail
    refine (HC.out).mono ?_
    rintro e w1 ⟨rfl, hb1⟩
    go_wp2
    go_ret
    exact ⟨rfl, hb1⟩

set_option maxRecDepth 100000 in
set_option maxHeartbeats 8000000 in
theorem law_CircleOf (A : Option Addr) (n c : Nat) (ops : List OpV) (w : World) (hA : RdO w A n c ops) :
    Calls Try.prog 7 #[.slice A n c] w fun e w' => e = .returned (.bool true) ∧ Below w.heap.size w w' := by
  have eA1 := hA.cap
  have eA2 := hA.max
  have lA := hA.len
  have hsp := fun A n c W h => specCircleOf_any A n c ops W h
  have him := fun A n c W h => implCircleOf_any A n c ops W h
  generalize (circP ops).1 = R at *
  generalize (circP ops).2 = z at *
  have HA := Lib.hid hA
  have HSP := Lib.hid hsp
  have HIM := Lib.hid him
  clear hA hsp him lA
  have bz : Below w.heap.size w w := Below.refl _ _
  go_enter Try.func7, Try.ntmps7
  go_wp2_with fail
  refine (szOpS_any _ _ _ ops _ _ (HA.out.below bz) (by omega) (by omega)).mono ?_
  rintro e w0 ⟨q0, rfl, hq, hbz⟩
  have b0 : Below w.heap.size w w0 := bz.trans (hbz.mono bz.size)
  clear hbz
  rcases hq with rfl | ⟨hq0, hq1, hsh⟩
  · go_wp2
    go_ret
    exact ⟨rfl, b0⟩
  have SHA := Lib.hid hsh
  have hqn : ¬ q0 < 0 := by omega
  clear hsh
  go_wp2_with fail
  refine (toOpS_any A n c ops _ (HA.out.below b0) SHA.out).mono ?_
  rintro e w1 ⟨gt0, cst0, Gt0, rfl, hP, hM, hb1⟩
  have b1 : Below w.heap.size w w1 := b0.trans (hb1.mono b0.size)
  have s1 := hb1.size
  have Pt01 := Lib.hid hP
  have Mt01 := Lib.hid hM
  clear hb1 hP hM
  go_wp2_with fail
  refine (HSP.out _ _ _ _ Pt01.out).mono ?_
  rintro e w2 ⟨rfl, hb2⟩
  have b2 : Below w.heap.size w w2 := b1.trans (hb2.mono b1.size)
  have s2 := hb2.size
  have Pt02 := Lib.hid (Pt01.out.below hb2)
  have Mt02 := Lib.hid (Mt01.out.below hb2)
  clear hb2 Pt01 Mt01
  go_wp2_with fail
  refine (toOpS_any A n c ops _ (HA.out.below b2) SHA.out).mono ?_
  rintro e w3 ⟨gx0, csx0, Gx0, rfl, hP, hM, hb3⟩
  have b3 : Below w.heap.size w w3 := b2.trans (hb3.mono b2.size)
  have s3 := hb3.size
  have Pt03 := Lib.hid (Pt02.out.below hb3)
  have Mt03 := Lib.hid (Mt02.out.below hb3)
  have Px03 := Lib.hid hP
  have Mx03 := Lib.hid hM
  clear hb3 Pt02 Mt02 hP hM
  go_wp2_with fail
  refine (HIM.out _ _ _ _ Px03.out).mono ?_
  rintro e w4 ⟨rfl, hb4⟩
  have b4 : Below w.heap.size w w4 := b3.trans (hb4.mono b3.size)
  have s4 := hb4.size
  have Pt04 := Lib.hid (Pt03.out.below hb4)
  have Mt04 := Lib.hid (Mt03.out.below hb4)
  have Px04 := Lib.hid (Px03.out.below hb4)
  have Mx04 := Lib.hid (Mx03.out.below hb4)
  clear hb4 Pt03 Mt03 Px03 Mx03
  go_wp2_with fail
  refine (toOpS_any A n c ops _ (HA.out.below b4) SHA.out).mono ?_
  rintro e w5 ⟨gy0, csy0, Gy0, rfl, hP, hM, hb5⟩
  have b5 : Below w.heap.size w w5 := b4.trans (hb5.mono b4.size)
  have s5 := hb5.size
  have Pt05 := Lib.hid (Pt04.out.below hb5)
  have Mt05 := Lib.hid (Mt04.out.below hb5)
  have Px05 := Lib.hid (Px04.out.below hb5)
  have Mx05 := Lib.hid (Mx04.out.below hb5)
  have Py05 := Lib.hid hP
  have My05 := Lib.hid hM
  clear hb5 Pt04 Mt04 Px04 Mx04 hP hM
  go_wp2_with fail
  refine (eqOpS_any _ _ _ _ _ ops _ Px05.out Py05.out).mono ?_
  rintro e w6 ⟨rfl, hb6⟩
  have b6 : Below w.heap.size w w6 := b5.trans (hb6.mono b5.size)
  have s6 := hb6.size
  have Pt06 := Lib.hid (Pt05.out.below hb6)
  have Mt06 := Lib.hid (Mt05.out.below hb6)
  have Px06 := Lib.hid (Px05.out.below hb6)
  have Mx06 := Lib.hid (Mx05.out.below hb6)
  have Py06 := Lib.hid (Py05.out.below hb6)
  have My06 := Lib.hid (My05.out.below hb6)
  clear hb6 Pt05 Mt05 Px05 Mx05 Py05 My05
  go_wp2_with fail
  go_ret
  exact ⟨rfl, b6⟩

end Go.Proofs.Ytgghjieeckkpbaa
