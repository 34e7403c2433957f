/- Circles and codes: l13Circle, CircleOf, l13Code, opsCode; the law of CircleOf. Printed by mkcr.py. -/
import Derived.Test.YtgghjieeckkpbaaDoorBf
import Derived.Test.YtgghjieeckkpbaaDoorOwn
namespace Go.Proofs.YtgghjieeckkpbaaDoor
open Go.RowKit

set_option maxRecDepth 100000 in
set_option maxHeartbeats 4000000 in
theorem l13Circle_any (A : Option Addr) (n c : Nat) (ops : List OpV) (w : World) (h : RdO w A n c ops) (hok : OOk ops) :
    Calls Tryd.prog 46 #[.slice A n c] w fun e w' => e = .returned (.int .i64 (circZ (bfsO ops) n)) ∧ Below w.heap.size w w' := by
  have hl := h.len
  have h1 := h.cap
  have h2 := h.max
  have hbf := bfs_ok hok hl
  have hn14 := hbf.hn
  have hmiss := circZ_miss (bfs := bfsO ops) (n := n)
  have hhit := fun k => circZ_hit (bfs := bfsO ops) (n := n) (k := k)
  generalize circZ (bfsO ops) n = R at *
  have HMI := Lib.hid hmiss
  have HHI := Lib.hid hhit
  have H := Lib.hid h
  have HK := Lib.hid hok
  clear hmiss hhit hbf h hl hok
  go_enter Tryd.func46, Tryd.ntmps46
  go_wp2_with fail
  go_loopw [3] (fun vi wr => ∃ k : Nat, k ≤ n ∧ vi = .int .i64 k ∧ Hid (scanF (circF (bfsO ops)) k = none) ∧ Below w.heap.size w wr) (fun vi _ => n - (intOf vi).toNat)
  case atStart => exact ⟨0, Nat.zero_le _, rfl, (show Hid _ from rfl), Below.refl _ _⟩
  case round =>
    obtain ⟨k, hk, rfl, HS, hb⟩ := hrel
    have Hb := Lib.hid hb
    by_cases hlt : k < n
    · have hk0 : (0 : Int) ≤ (k : Int) := by omega
      have hk1 : (k : Int) < (n : Int) := by omega
      have hcall := l13Before_any A n c ops k wr (H.out.below hb) HK.out hlt
      have HC := Lib.hid hcall
      have hhk := HHI.out k HS.out hlt
      have hnx := fun hc => circ_next HS.out hc
      have hci := circ_iff (bfsO ops) k
      generalize circB (bfsO ops) k = q at *
      have HHK := Lib.hid hhk
      have HNX := Lib.hid hnx
      have HCI := Lib.hid hci
      clear hhk hnx hcall hci hb
      go_wp2_with fail
      refine (HC.out).mono ?_
      rintro e w2 ⟨g, s, rfl, hown, hsl, hse, hb2⟩
      have cs := own_bool hown hlt hsl
      have hsq : seenAt s k = q := by rw [Bool.eq_iff_iff, hse k, HCI.out]
      rw [hsq] at cs
      have HB2 := Lib.hid (Hb.out.trans (hb2.mono Hb.out.size))
      clear hown hse hb2 hsq
      cases q with
      | true =>
        have hr := HHK.out (by trivial)
        subst hr
        clear HHI HMI HHK HNX
        go_wp2
        go_ret
        exact ⟨rfl, HB2.out⟩
      | false =>
        go_wp2
        go_roundw
        case rel => exact ⟨k + 1, by omega, by go_num, Lib.hid (HNX.out (by trivial)), HB2.out⟩
        case measure => simp [intOf]; omega
    · have hkn : k = n := by omega
      subst hkn
      have hr := HMI.out HS.out
      subst hr
      clear HHI HMI
      go_wp2
      go_ret
      exact ⟨rfl, Hb.out⟩

/-- The code of operations; the first circle and the code. -/
noncomputable def codeO (ops : List OpV) : Int := if okO ops = true then (if 0 ≤ circZ (bfsO ops) ops.length then 9 else 0) else 1
noncomputable def circP (ops : List OpV) : Int × Int := if okO ops = true then (circZ (bfsO ops) ops.length, 0) else (0, 1)
theorem codeO_bd (ops : List OpV) : codeO ops = 0 ∨ codeO ops = 1 ∨ codeO ops = 9 := by
  unfold codeO
  split
  · split <;> simp
  · simp
theorem codeO_ok {ops : List OpV} (h : codeO ops = 0) : OOk ops ∧ ∀ j, ¬ Rch (Eb (bfsO ops)) j j := by
  unfold codeO at h
  split at h
  · rename_i hk
    split at h
    · omega
    · rename_i hc
      have ho := okO_true hk
      refine ⟨ho, fun j hr => ?_⟩
      have hbf := bfs_ok ho rfl
      exact circZ_none (by omega) j (rch_lt hbf.eb hr).1 hr
  · omega

set_option maxHeartbeats 1000000 in
theorem implCircleOf_any (A : Option Addr) (n c : Nat) (ops : List OpV) (w : World) (h : RdO w A n c ops) :
    Calls Tryd.prog 14 #[.slice A n c] w fun e w' => e = .returned (.tuple #[.int .i64 (circP ops).1, .int .i64 (circP ops).2]) ∧ Below w.heap.size w w' := by
  have hl := h.len
  have hcall := implValidOps_any A n c ops w h
  unfold circP
  by_cases hq : okO ops = true
  · rw [if_pos hq]
    have hok := okO_true hq
    rw [hq] at hcall
    have hcirc := fun W h => circleOf_any A n c ops W h hok
    have hbd := circZ_bd (bfsO ops) n
    rw [hl]
    generalize circZ (bfsO ops) n = z at *
    have HC := Lib.hid hcall
    have HCC := Lib.hid hcirc
    have H := Lib.hid h
    clear hcall hcirc h hq hok hl
    go_enter Tryd.func14, Tryd.ntmps14
    go_wp2_with fail
    refine (HC.out).mono ?_
    rintro e w1 ⟨rfl, hb1⟩
    have H1 := Lib.hid (H.out.below hb1)
    have HB1 := Lib.hid hb1
    clear hb1
    go_wp2_with fail
    refine (HCC.out _ H1.out).mono ?_
    rintro e w2 ⟨rfl, hb2⟩
    have HB2 := Lib.hid (HB1.out.trans (hb2.mono HB1.out.size))
    clear hb2
    go_wp2
    go_ret2
    exact ⟨rfl, HB2.out⟩
  · rw [if_neg hq]
    have hq' : okO ops = false := by simpa using hq
    rw [hq'] at hcall
    have HC := Lib.hid hcall
    clear hcall h hq hq' hl
    go_enter Tryd.func14, Tryd.ntmps14
    go_wp2_with fail
    refine (HC.out).mono ?_
    rintro e w1 ⟨rfl, hb1⟩
    go_wp2
    go_ret2
    exact ⟨rfl, hb1⟩

set_option maxHeartbeats 1000000 in
theorem specCircleOf_any (A : Option Addr) (n c : Nat) (ops : List OpV) (w : World) (h : RdO w A n c ops) :
    Calls Tryd.prog 15 #[.slice A n c] w fun e w' => e = .returned (.tuple #[.int .i64 (circP ops).1, .int .i64 (circP ops).2]) ∧ Below w.heap.size w w' := by
  have hl := h.len
  have hcall := l13Ok_any A n c ops w h
  unfold circP
  by_cases hq : okO ops = true
  · rw [if_pos hq]
    have hok := okO_true hq
    rw [hq] at hcall
    have hcirc := fun W h => l13Circle_any A n c ops W h hok
    have hbd := circZ_bd (bfsO ops) n
    rw [hl]
    generalize circZ (bfsO ops) n = z at *
    have HC := Lib.hid hcall
    have HCC := Lib.hid hcirc
    have H := Lib.hid h
    clear hcall hcirc h hq hok hl
    go_enter Tryd.func15, Tryd.ntmps15
    go_wp2_with fail
    refine (HC.out).mono ?_
    rintro e w1 ⟨rfl, hb1⟩
    have H1 := Lib.hid (H.out.below hb1)
    have HB1 := Lib.hid hb1
    clear hb1
    go_wp2_with fail
    refine (HCC.out _ H1.out).mono ?_
    rintro e w2 ⟨rfl, hb2⟩
    have HB2 := Lib.hid (HB1.out.trans (hb2.mono HB1.out.size))
    clear hb2
    go_wp2
    go_ret2
    exact ⟨rfl, HB2.out⟩
  · rw [if_neg hq]
    have hq' : okO ops = false := by simpa using hq
    rw [hq'] at hcall
    have HC := Lib.hid hcall
    clear hcall h hq hq' hl
    go_enter Tryd.func15, Tryd.ntmps15
    go_wp2_with fail
    refine (HC.out).mono ?_
    rintro e w1 ⟨rfl, hb1⟩
    go_wp2
    go_ret2
    exact ⟨rfl, hb1⟩

set_option maxHeartbeats 1000000 in
theorem opsCode_any (A : Option Addr) (n c : Nat) (ops : List OpV) (w : World) (h : RdO w A n c ops) :
    Calls Tryd.prog 41 #[.slice A n c] w fun e w' => e = .returned (.int .i64 (codeO ops)) ∧ Below w.heap.size w w' := by
  have hl := h.len
  have hcall := implValidOps_any A n c ops w h
  unfold codeO
  by_cases hq : okO ops = true
  · rw [if_pos hq]
    have hok := okO_true hq
    rw [hq] at hcall
    have hcirc := fun W h => circleOf_any A n c ops W h hok
    have hbd := circZ_bd (bfsO ops) n
    rw [hl]
    generalize circZ (bfsO ops) n = z at *
    have HC := Lib.hid hcall
    have HCC := Lib.hid hcirc
    have H := Lib.hid h
    clear hcall hcirc h hq hok hl
    by_cases hz : 0 ≤ z
    · rw [if_pos hz]
      go_enter Tryd.func41, Tryd.ntmps41
      go_wp2_with fail
      refine (HC.out).mono ?_
      rintro e w1 ⟨rfl, hb1⟩
      have H1 := Lib.hid (H.out.below hb1)
      have HB1 := Lib.hid hb1
      clear hb1
      go_wp2_with fail
      refine (HCC.out _ H1.out).mono ?_
      rintro e w2 ⟨rfl, hb2⟩
      have HB2 := Lib.hid (HB1.out.trans (hb2.mono HB1.out.size))
      clear hb2
      go_wp2
      go_ret
      exact ⟨rfl, HB2.out⟩
    · rw [if_neg hz]
      go_enter Tryd.func41, Tryd.ntmps41
      go_wp2_with fail
      refine (HC.out).mono ?_
      rintro e w1 ⟨rfl, hb1⟩
      have H1 := Lib.hid (H.out.below hb1)
      have HB1 := Lib.hid hb1
      clear hb1
      go_wp2_with fail
      refine (HCC.out _ H1.out).mono ?_
      rintro e w2 ⟨rfl, hb2⟩
      have HB2 := Lib.hid (HB1.out.trans (hb2.mono HB1.out.size))
      clear hb2
      go_wp2
      go_ret
      exact ⟨rfl, HB2.out⟩
  · rw [if_neg hq]
    have hq' : okO ops = false := by simpa using hq
    rw [hq'] at hcall
    have HC := Lib.hid hcall
    clear hcall h hq hq' hl
    go_enter Tryd.func41, Tryd.ntmps41
    go_wp2_with fail
    refine (HC.out).mono ?_
    rintro e w1 ⟨rfl, hb1⟩
    go_wp2
    go_ret
    exact ⟨rfl, hb1⟩

set_option maxHeartbeats 1000000 in
theorem l13Code_any (A : Option Addr) (n c : Nat) (ops : List OpV) (w : World) (h : RdO w A n c ops) :
    Calls Tryd.prog 43 #[.slice A n c] w fun e w' => e = .returned (.int .i64 (codeO ops)) ∧ Below w.heap.size w w' := by
  have hl := h.len
  have hcall := l13Ok_any A n c ops w h
  unfold codeO
  by_cases hq : okO ops = true
  · rw [if_pos hq]
    have hok := okO_true hq
    rw [hq] at hcall
    have hcirc := fun W h => l13Circle_any A n c ops W h hok
    have hbd := circZ_bd (bfsO ops) n
    rw [hl]
    generalize circZ (bfsO ops) n = z at *
    have HC := Lib.hid hcall
    have HCC := Lib.hid hcirc
    have H := Lib.hid h
    clear hcall hcirc h hq hok hl
    by_cases hz : 0 ≤ z
    · rw [if_pos hz]
      go_enter Tryd.func43, Tryd.ntmps43
      go_wp2_with fail
      refine (HC.out).mono ?_
      rintro e w1 ⟨rfl, hb1⟩
      have H1 := Lib.hid (H.out.below hb1)
      have HB1 := Lib.hid hb1
      clear hb1
      go_wp2_with fail
      refine (HCC.out _ H1.out).mono ?_
      rintro e w2 ⟨rfl, hb2⟩
      have HB2 := Lib.hid (HB1.out.trans (hb2.mono HB1.out.size))
      clear hb2
      go_wp2
      go_ret
      exact ⟨rfl, HB2.out⟩
    · rw [if_neg hz]
      go_enter Tryd.func43, Tryd.ntmps43
      go_wp2_with fail
      refine (HC.out).mono ?_
      rintro e w1 ⟨rfl, hb1⟩
      have H1 := Lib.hid (H.out.below hb1)
      have HB1 := Lib.hid hb1
      clear hb1
      go_wp2_with fail
      refine (HCC.out _ H1.out).mono ?_
      rintro e w2 ⟨rfl, hb2⟩
      have HB2 := Lib.hid (HB1.out.trans (hb2.mono HB1.out.size))
      clear hb2
      go_wp2
      go_ret
      exact ⟨rfl, HB2.out⟩
  · rw [if_neg hq]
    have hq' : okO ops = false := by simpa using hq
    rw [hq'] at hcall
    have HC := Lib.hid hcall
    clear hcall h hq hq' hl
    go_enter Tryd.func43, Tryd.ntmps43
    go_wp2_with fail
    refine (HC.out).mono ?_
    rintro e w1 ⟨rfl, hb1⟩
    go_wp2
    go_ret
    exact ⟨rfl, hb1⟩

end Go.Proofs.YtgghjieeckkpbaaDoor
