/- Valid pieces: ValidCuts of the program, l10Cuts of the reference. -/
import Derived.Test.YtiibhejjeijdaaaDoorPc
namespace Go.Proofs.YtiibhejjeijdaaaDoor
open Go.RowKit

/-- At most four pieces, each valid. -/
def cutsB (cs : List CutV) : Bool := decide (cs.length ≤ 4) && !(cs.any fun c => !cutB c)
structure CutsOk (cs : List CutV) : Prop where
  len : cs.length ≤ 4
  ok : ∀ (k : Nat) (x : CutV), cs[k]? = some x → cutB x = true
theorem cutsB_true {cs : List CutV} (h : cutsB cs = true) : CutsOk cs := by
  unfold cutsB at h
  rw [Bool.and_eq_true, decide_eq_true_eq] at h
  refine ⟨h.1, fun k x hx => ?_⟩
  cases hc : cutB x with
  | true => rfl
  | false =>
    have ha : (cs.any fun c => !cutB c) = true := List.any_eq_true.mpr ⟨x, List.mem_of_getElem? hx, by simp [hc]⟩
    have h2 := h.2
    rw [ha] at h2
    cases h2
theorem cutsB_yes {cs : List CutV} (h : CutsOk cs) : cutsB cs = true := by
  unfold cutsB
  rw [Bool.and_eq_true, decide_eq_true_eq]
  refine ⟨h.len, ?_⟩
  cases ha : (cs.any fun c => !cutB c) with
  | false => rfl
  | true =>
    obtain ⟨x, hx, hc⟩ := List.any_eq_true.mp ha
    obtain ⟨k, hk⟩ := List.getElem?_of_mem hx
    rw [h.ok k x hk] at hc
    cases hc
theorem cutsB_no {cs : List CutV} (h : ¬ CutsOk cs) : cutsB cs = false := by
  cases hc : cutsB cs with
  | false => rfl
  | true => exact absurd (cutsB_true hc) h

set_option maxHeartbeats 1000000 in
theorem cuts_pred (xs : List CutV) (w : World) :
    PredB Tryd.prog 104 #[] cutV (fun c => !cutB c) xs w := fun W x _ _ => by
  have HV := Lib.hid (fun W => validCut_any x W)
  show Calls Tryd.prog 104 #[.agg #[.int .i64 x.wd, .int .i64 x.ht, .int .i64 x.ql, .int .i64 x.wo]] W (fun e w' => e = .returned (.bool (!cutB x)) ∧ Below W.heap.size W w')
  generalize cutB x = q at *
  have b0 : Below W.heap.size W (W.alloc (.cells #[.int .i64 x.wd, .int .i64 x.ht, .int .i64 x.ql, .int .i64 x.wo] 35)) := (Below.refl _ _).alloc (Nat.le_refl _) _
  go_enter Tryd.func104, Tryd.ntmps104
  go_wp2_with fail
  refine (HV.out _).mono ?_
  rintro e w' ⟨rfl, hb'⟩
  go_wp2_with fail
  go_ret
  exact ⟨rfl, b0.trans (hb'.mono b0.size)⟩

set_option maxRecDepth 100000 in
set_option maxHeartbeats 1000000 in
theorem implValidCuts_any (A : Option Addr) (n c : Nat) (cs : List CutV) (w : World) (h : Rd w 4 A n c (qd cs)) :
    Calls Tryd.prog 83 #[.slice A n c] w fun e w' => e = .returned (.bool (cutsB cs)) ∧ Below w.heap.size w w' := by
  have hl := h.qlen
  have h1 := h.cap
  have h2 := h.max
  have eg : ∀ args w, (callFunc 104 args).run Tryd.prog w = .ok (.enter 104 args) w := enters_of Tryd.func104 (by kernel_rfl) rfl
  have hcf := containsFunc_cut 104 #[] eg (fun x => !cutB x) A n c cs w h (cuts_pred cs w)
  unfold cutsB
  rw [hl]
  generalize (cs.any fun x => !cutB x) = q at *
  have HC := Lib.hid hcf
  clear hcf h hl eg
  by_cases hn : n ≤ 4
  · have hd : decide ((n : Int) ≤ 4) = true := by simp; omega
    have hn4 : (n : Int) ≤ 4 := by omega
    go_enter Tryd.func83, Tryd.ntmps83
    go_wp2_with (go_at_call 103; refine (HC.out).mono ?_; rintro e w2 ⟨rfl, hb2⟩)
    go_ret
    exact ⟨by simp [hn], hb2⟩
  · have hd : decide ((n : Int) ≤ 4) = false := by simp; omega
    have hn4 : ¬ (n : Int) ≤ 4 := by omega
    go_enter Tryd.func83, Tryd.ntmps83
    go_wp2_with fail
    go_ret
    exact ⟨by simp, Below.refl _ _⟩

set_option maxRecDepth 100000 in
set_option maxHeartbeats 2000000 in
theorem l10Cuts_any (A : Option Addr) (n c : Nat) (cs : List CutV) (w : World) (h : Rd w 4 A n c (qd cs)) :
    Calls Tryd.prog 81 #[.slice A n c] w fun e w' => e = .returned (.bool (cutsB cs)) ∧ Below w.heap.size w w' := by
  have hl := h.qlen
  have h1 := h.cap
  have h2 := h.max
  have hyes := cutsB_yes (cs := cs)
  have hno := cutsB_no (cs := cs)
  generalize cutsB cs = R at *
  have hall : n ≤ 4 → (∀ (k : Nat) (x : CutV), k < n → cs[k]? = some x → cutB x = true) → CutsOk cs := fun h4 ha => ⟨by omega, fun k x hx => ha k x (by have := (List.getElem?_eq_some_iff.mp hx).1; omega) hx⟩
  have hlen : CutsOk cs → n ≤ 4 := fun h => by have := h.len; omega
  have H := Lib.hid h
  have HY := Lib.hid hyes
  have HN := Lib.hid hno
  have HA := Lib.hid hall
  have HLN := Lib.hid hlen
  clear h hl hyes hno hall hlen
  go_enter Tryd.func81, Tryd.ntmps81
  go_wp2
  go_loopw [3] (fun vy wr => ∃ y : Nat, y ≤ n ∧ vy = .int .i64 y ∧ Hid (∀ (k : Nat) (x : CutV), k < y → cs[k]? = some x → cutB x = true) ∧ Hid (Below w.heap.size w wr)) (fun vy _ => n - (intOf vy).toNat)
  case atStart => exact ⟨0, Nat.zero_le _, rfl, (show Hid _ from fun k r hk => absurd hk (Nat.not_lt_zero _)), Lib.hid (Below.refl _ _)⟩
  case round =>
    obtain ⟨y, hy, rfl, HB, Hb⟩ := hrel
    by_cases hlt : y < n
    · have hy0 : (0 : Int) ≤ (y : Int) := by omega
      have hy1 : (y : Int) < (n : Int) := by omega
      obtain ⟨b, o, x, hA, hbl, hx, c0, c1, c2, c3⟩ := (H.out.below Hb.out).cut hlt
      subst hA
      have HX := Lib.hid hx
      have HV := Lib.hid (fun W => l10One_any x W)
      clear hx
      cases hz : cutB x with
      | false =>
        have hR := HN.out (fun h => by rw [h.ok y x HX.out] at hz; cases hz)
        rw [hz] at HV
        clear hz HX HY HN HA HLN
        subst hR
        go_wp2_with fail
        refine (HV.out _).mono ?_
        rintro e w2 ⟨rfl, hb2⟩
        go_wp2_with fail
        go_ret
        exact ⟨rfl, Hb.out.trans (hb2.mono Hb.out.size)⟩
      | true =>
        have HB2 : Hid (∀ (k : Nat) (x : CutV), k < y + 1 → cs[k]? = some x → cutB x = true) := Lib.hid (fun k x' hk hx' => by
          by_cases e : k = y
          · subst e
            have := HX.out
            rw [hx'] at this
            injection this with this
            rw [this]; exact hz
          · exact HB.out k x' (by omega) hx')
        rw [hz] at HV
        clear hz HX
        go_wp2_with fail
        refine (HV.out _).mono ?_
        rintro e w2 ⟨rfl, hb2⟩
        have Hb2 := Lib.hid (Hb.out.trans (hb2.mono Hb.out.size))
        clear hb2
        go_wp2
        go_roundw
        case rel => exact ⟨y + 1, by omega, by go_num, HB2, Hb2⟩
        case measure => simp [intOf]; omega
    · have hyn : n = y := by omega
      have hltI : ¬ (y : Int) < (n : Int) := by omega
      by_cases h4 : n ≤ 4
      · have hR := HY.out (HA.out h4 (fun k x hk hx => HB.out k x (by omega) hx))
        have hd : decide ((n : Int) ≤ 4) = true := by simp; omega
        subst hR
        clear HY HN HA HLN hyn
        go_wp2
        go_ret
        exact ⟨by simp, Hb.out⟩
      · have hR := HN.out (fun h => h4 (HLN.out h))
        have hd : decide ((n : Int) ≤ 4) = false := by simp; omega
        subst hR
        clear HY HN HA HLN hyn
        go_wp2
        go_ret
        exact ⟨by simp, Hb.out⟩
end Go.Proofs.YtiibhejjeijdaaaDoor
