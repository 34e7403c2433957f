/- soundCode, l10Good; PlanWorth: program, reference, law. Printed by mkpw.py. -/
import Derived.Test.YtiibhejjeijdaaaDoorPh
import Derived.Test.YtiibhejjeijdaaaDoorFrameQ
namespace Go.Proofs.YtiibhejjeijdaaaDoor
open Go.RowKit

/-- The code of a plan that must not be faulty. -/
noncomputable def goodC (rs : List ByteArray) (cs : List CutV) (pl : List Int) : Int :=
  if planC rs cs pl = 0 then (if 0 ≤ faultZ rs rs.length (colN rs) cs pl then 9 else 0) else planC rs cs pl
theorem goodC_n {rs : List ByteArray} {cs : List CutV} {pl : List Int} (h : ¬ planC rs cs pl = 0) : goodC rs cs pl = planC rs cs pl := if_neg h
theorem goodC_z {rs : List ByteArray} {cs : List CutV} {pl : List Int} (h : planC rs cs pl = 0) : goodC rs cs pl = if 0 ≤ faultZ rs rs.length (colN rs) cs pl then 9 else 0 := if_pos h
theorem goodC_ok {rs : List ByteArray} {cs : List CutV} {pl : List Int} (h : goodC rs cs pl = 0) : planC rs cs pl = 0 := by
  by_cases h0 : planC rs cs pl = 0
  · exact h0
  · rw [goodC_n h0] at h; exact h
set_option maxRecDepth 100000 in
set_option maxHeartbeats 2000000 in
theorem soundCode_any (A B C : Option Addr) (n c p d q f : Nat) (rs : List ByteArray) (cs : List CutV) (pl : List Int) (w : World) (hA : Rd w 1 A n c (txs rs)) (hB : Rd w 4 B p d (qd cs)) (hC : Rd w 1 C q f (ints pl)) (hs : ∀ s ∈ rs, s.size ≤ 9223372036854775807) :
    Calls Tryd.prog 69 #[.slice A n c, .slice B p d, .slice C q f] w fun e w' => e = .returned (.int .i64 (goodC rs cs pl)) ∧ Below w.heap.size w w' := by
  have HCO := Lib.hid (planCode_any A B C n c p d q f rs cs pl w hA hB hC hs)
  by_cases h0 : planC rs cs pl = 0
  · have hp := planC_ok h0
    have hl := hA.tlen
    have hg := hp.hide.grid hl
    have HF := Lib.hid (fun W (hb : Below w.heap.size w W) => planFault_any A B C n c (colN rs) p d q f rs cs pl W (hA.below hb) (hB.below hb) (hC.below hb) hp hg rfl)
    rw [goodC_z h0, hl]
    rw [h0] at HCO
    generalize faultZ rs n (colN rs) cs pl = Z at *
    clear h0 hp hl hg hA hB hC
    by_cases hZ : 0 ≤ Z
    · rw [if_pos hZ]
      have hd : decide (Z ≥ 0) = true := by simp; omega
      go_enter Tryd.func69, Tryd.ntmps69
      go_wp2_with fail
      refine (HCO.out).mono ?_
      rintro e w1 ⟨rfl, hb1⟩
      go_wp2_with fail
      refine (HF.out _ hb1).mono ?_
      rintro e w2 ⟨rfl, hb2⟩
      go_wp2_with fail
      go_ret
      exact ⟨rfl, hb1.trans (hb2.mono hb1.size)⟩
    · rw [if_neg hZ]
      have hd : decide (Z ≥ 0) = false := by simp; omega
      go_enter Tryd.func69, Tryd.ntmps69
      go_wp2_with fail
      refine (HCO.out).mono ?_
      rintro e w1 ⟨rfl, hb1⟩
      go_wp2_with fail
      refine (HF.out _ hb1).mono ?_
      rintro e w2 ⟨rfl, hb2⟩
      go_wp2_with fail
      go_ret
      exact ⟨rfl, hb1.trans (hb2.mono hb1.size)⟩
  · rw [goodC_n h0]
    generalize planC rs cs pl = k at *
    have hd : (k == 0) = false := by simp; omega
    clear hA hB hC
    go_enter Tryd.func69, Tryd.ntmps69
    go_wp2_with fail
    refine (HCO.out).mono ?_
    rintro e w1 ⟨rfl, hb1⟩
    go_wp2_with fail
    go_ret
    exact ⟨rfl, hb1⟩

set_option maxRecDepth 100000 in
set_option maxHeartbeats 2000000 in
theorem l10Good_any (A B C : Option Addr) (n c p d q f : Nat) (rs : List ByteArray) (cs : List CutV) (pl : List Int) (w : World) (hA : Rd w 1 A n c (txs rs)) (hB : Rd w 4 B p d (qd cs)) (hC : Rd w 1 C q f (ints pl)) (hs : ∀ s ∈ rs, s.size ≤ 9223372036854775807) :
    Calls Tryd.prog 67 #[.slice A n c, .slice B p d, .slice C q f] w fun e w' => e = .returned (.int .i64 (goodC rs cs pl)) ∧ Below w.heap.size w w' := by
  have HCO := Lib.hid (l10Code_any A B C n c p d q f rs cs pl w hA hB hC hs)
  by_cases h0 : planC rs cs pl = 0
  · have hp := planC_ok h0
    have hl := hA.tlen
    have hg := hp.hide.grid hl
    have HF := Lib.hid (fun W (hb : Below w.heap.size w W) => l10Fault_any A B C n c (colN rs) p d q f rs cs pl W (hA.below hb) (hB.below hb) (hC.below hb) hp hg rfl)
    rw [goodC_z h0, hl]
    rw [h0] at HCO
    generalize faultZ rs n (colN rs) cs pl = Z at *
    clear h0 hp hl hg hA hB hC
    by_cases hZ : 0 ≤ Z
    · rw [if_pos hZ]
      have hd : decide (Z ≥ 0) = true := by simp; omega
      go_enter Tryd.func67, Tryd.ntmps67
      go_wp2_with fail
      refine (HCO.out).mono ?_
      rintro e w1 ⟨rfl, hb1⟩
      go_wp2_with fail
      refine (HF.out _ hb1).mono ?_
      rintro e w2 ⟨rfl, hb2⟩
      go_wp2_with fail
      go_ret
      exact ⟨rfl, hb1.trans (hb2.mono hb1.size)⟩
    · rw [if_neg hZ]
      have hd : decide (Z ≥ 0) = false := by simp; omega
      go_enter Tryd.func67, Tryd.ntmps67
      go_wp2_with fail
      refine (HCO.out).mono ?_
      rintro e w1 ⟨rfl, hb1⟩
      go_wp2_with fail
      refine (HF.out _ hb1).mono ?_
      rintro e w2 ⟨rfl, hb2⟩
      go_wp2_with fail
      go_ret
      exact ⟨rfl, hb1.trans (hb2.mono hb1.size)⟩
  · rw [goodC_n h0]
    generalize planC rs cs pl = k at *
    have hd : (k == 0) = false := by simp; omega
    clear hA hB hC
    go_enter Tryd.func67, Tryd.ntmps67
    go_wp2_with fail
    refine (HCO.out).mono ?_
    rintro e w1 ⟨rfl, hb1⟩
    go_wp2_with fail
    go_ret
    exact ⟨rfl, hb1⟩

/-- The worth of the first k pieces of a plan. -/
def worthK (cs : List CutV) (pl : List Int) : Nat → Int
  | 0 => 0
  | k + 1 => worthK cs pl k + if onK pl k = true then (cs.getD k cut0).wo else 0
theorem worth_on {cs : List CutV} {pl : List Int} {k : Nat} {x : CutV} (h : onK pl k = true) (hx : cs[k]? = some x) : worthK cs pl (k + 1) = worthK cs pl k + x.wo := by
  have e : cs.getD k cut0 = x := by simp [List.getD, hx]
  show worthK cs pl k + (if onK pl k = true then (cs.getD k cut0).wo else 0) = _
  rw [if_pos h, e]
theorem worth_off {cs : List CutV} {pl : List Int} {k : Nat} (h : onK pl k = false) : worthK cs pl (k + 1) = worthK cs pl k := by
  show worthK cs pl k + (if onK pl k = true then (cs.getD k cut0).wo else 0) = _
  rw [if_neg (by rw [h]; simp), Int.add_zero]
theorem worth_bd {rs : List ByteArray} {cs : List CutV} {pl : List Int} (h : PlanOk rs cs pl) : ∀ k, k ≤ pl.length → 0 ≤ worthK cs pl k ∧ worthK cs pl k ≤ 1000 * (k : Int)
  | 0, _ => by show 0 ≤ (0 : Int) ∧ (0 : Int) ≤ _; omega
  | k + 1, hk => by
    have hi := worth_bd h k (by omega)
    have hx : cs[k]? = some (cs[k]'(by have := h.len; omega)) := List.getElem?_eq_getElem _
    have hc := (cutB_true (h.cuts.ok k _ hx)).2.2.2
    cases ho : onK pl k with
    | true => rw [worth_on ho hx]; omega
    | false => rw [worth_off ho]; omega
theorem onK_at {pl : List Int} {k : Nat} {y : Int} (hy : pl[k]? = some y) : onK pl k = decide (0 ≤ y) := by
  unfold onK; rw [show pl.getD k 0 = y by simp [List.getD, hy]]
structure WkAt (cs : List CutV) (pl : List Int) (k : Nat) (S : Int) (x : CutV) (y : Int) : Prop where
  bs : 0 ≤ S ∧ S ≤ 10000
  bw : 0 ≤ x.wo ∧ x.wo ≤ 1000
  on : 0 ≤ y → worthK cs pl (k + 1) = S + x.wo
  off : ¬ 0 ≤ y → worthK cs pl (k + 1) = S
theorem wk_at {rs : List ByteArray} {cs : List CutV} {pl : List Int} (h : PlanOk rs cs pl) {k : Nat} {S : Int} {x : CutV} {y : Int} (hS : worthK cs pl k = S) (hx : cs[k]? = some x) (hy : pl[k]? = some y) : WkAt cs pl k S x y := by
  have hlt := (List.getElem?_eq_some_iff.mp hy).1
  have hb := worth_bd h k (by omega)
  have h4 := h.cuts.len
  have hl := h.len
  have ho := onK_at hy
  refine ⟨by rw [← hS]; omega, (cutB_true (h.cuts.ok k _ hx)).2.2.2, fun h0 => ?_, fun h0 => ?_⟩
  · rw [worth_on (by rw [ho]; exact decide_eq_true h0) hx, hS]
  · rw [worth_off (by rw [ho]; exact decide_eq_false h0), hS]
set_option maxRecDepth 100000 in
set_option maxHeartbeats 2000000 in
theorem l10Worth_any (B C : Option Addr) (p d q f : Nat) (rs : List ByteArray) (cs : List CutV) (pl : List Int) (w : World) (hB : Rd w 4 B p d (qd cs)) (hC : Rd w 1 C q f (ints pl)) (hp : PlanOk rs cs pl) :
    Calls Tryd.prog 68 #[.slice B p d, .slice C q f] w fun e w' => e = .returned (.int .i64 (worthK cs pl q)) ∧ Below w.heap.size w w' := by
  have hlb := hB.qlen
  have hlc := hC.ilen
  have hqp : q = p := by have := hp.len; omega
  subst hqp
  have a3 := hB.cap
  have a4 := hB.max
  have a5 := hC.cap
  have a6 := hC.max
  have HWK := Lib.hid (fun k S x y hS hx hy => wk_at hp (k := k) (S := S) (x := x) (y := y) hS hx hy)
  have HB := Lib.hid hB
  have HC := Lib.hid hC
  clear hlb hlc hB hC hp
  go_enter Tryd.func68, Tryd.ntmps68
  go_wp2
  go_loopw [5, 6] (fun vs vk wr => ∃ (k : Nat) (S : Int), k ≤ q ∧ vk = .int .i64 k ∧ vs = .int .i64 S ∧ Hid (worthK cs pl k = S) ∧ Hid (Below w.heap.size w wr)) (fun _ vk _ => q - (intOf vk).toNat)
  case atStart => exact ⟨0, 0, Nat.zero_le _, rfl, rfl, Lib.hid rfl, Lib.hid (Below.refl _ _)⟩
  case round =>
    obtain ⟨k, S, hk, rfl, rfl, HE, Hb⟩ := hrel
    by_cases hlt : k < q
    · have hk0 : (0 : Int) ≤ (k : Int) := by omega
      have hk1 : (k : Int) < (q : Int) := by omega
      obtain ⟨b2, o2, x, hBe, _, hx, c0, c1, c2, c3⟩ := (HB.out.below Hb.out).cut hlt
      obtain ⟨b3, o3, y, hCe, _, hyk, y0⟩ := (HC.out.below Hb.out).int hlt
      have hwk := HWK.out k S x y HE.out hx hyk
      have hbs := hwk.bs
      have hbw := hwk.bw
      have hon := hwk.on
      have hof := hwk.off
      obtain ⟨x0', x1', x2', x3⟩ := x
      simp only at c0 c1 c2 c3 hbw hon
      subst hBe
      subst hCe
      clear hwk hx hyk
      by_cases hy : 0 ≤ y
      · have HE2 := Lib.hid (hon hy)
        have hd : decide (y ≥ 0) = true := by simp; omega
        clear hon hof
        go_wp2
        go_roundw
        case rel => exact ⟨k + 1, S + x3, by omega, by go_num, by go_num, HE2, Hb⟩
        case measure => simp [intOf]; omega
      · have HE2 := Lib.hid (hof hy)
        have hd : decide (y ≥ 0) = false := by simp; omega
        clear hon hof
        go_wp2
        go_roundw
        case rel => exact ⟨k + 1, S, by omega, by go_num, rfl, HE2, Hb⟩
        case measure => simp [intOf]; omega
    · have hkq : k = q := by omega
      have hltI : ¬ (k : Int) < (q : Int) := by omega
      have hz := HE.out
      rw [hkq] at hz
      clear hkq HE
      subst hz
      go_wp2
      go_ret
      exact ⟨rfl, Hb.out⟩

/-- PlanWorth's two numbers. -/
noncomputable def pwZ (rs : List ByteArray) (cs : List CutV) (pl : List Int) : Int × Int :=
  if goodC rs cs pl = 0 then (worthK cs pl pl.length, 0) else (0, goodC rs cs pl)
theorem pwZ_0 {rs : List ByteArray} {cs : List CutV} {pl : List Int} (h : goodC rs cs pl = 0) : pwZ rs cs pl = (worthK cs pl pl.length, 0) := if_pos h
theorem pwZ_n {rs : List ByteArray} {cs : List CutV} {pl : List Int} (h : ¬ goodC rs cs pl = 0) : pwZ rs cs pl = (0, goodC rs cs pl) := if_neg h
set_option maxRecDepth 100000 in
set_option maxHeartbeats 2000000 in
theorem specPlanWorth_any (A B C : Option Addr) (n c p d q f : Nat) (rs : List ByteArray) (cs : List CutV) (pl : List Int) (w : World) (hA : Rd w 1 A n c (txs rs)) (hB : Rd w 4 B p d (qd cs)) (hC : Rd w 1 C q f (ints pl)) (hs : ∀ s ∈ rs, s.size ≤ 9223372036854775807) :
    Calls Tryd.prog 38 #[.slice A n c, .slice B p d, .slice C q f] w fun e w' => e = .returned (.tuple #[.int .i64 (pwZ rs cs pl).1, .int .i64 (pwZ rs cs pl).2]) ∧ Below w.heap.size w w' := by
  have HCO := Lib.hid (l10Good_any A B C n c p d q f rs cs pl w hA hB hC hs)
  rcases Decidable.em (¬ goodC rs cs pl = 0) with h0 | h0
  · rw [pwZ_n h0]
    simp only
    generalize goodC rs cs pl = k at *
    have hd : (k != 0) = true := by simp; omega
    clear hA hB hC
    go_enter Tryd.func38, Tryd.ntmps38
    go_wp2_with fail
    refine (HCO.out).mono ?_
    rintro e w1 ⟨rfl, hb1⟩
    go_wp2_with fail
    go_ret2
    exact ⟨rfl, hb1⟩
  have h0 : goodC rs cs pl = 0 := Decidable.not_not.mp h0
  have hp := planC_ok (goodC_ok h0)
  have hlc := hC.ilen
  rw [pwZ_0 h0, hlc]
  rw [h0] at HCO
  simp only
  have HF := Lib.hid (fun W (hb : Below w.heap.size w W) => l10Worth_any B C p d q f rs cs pl W (hB.below hb) (hC.below hb) hp)
  generalize worthK cs pl q = Z at *
  clear h0 hp hlc hA hB hC
  go_enter Tryd.func38, Tryd.ntmps38
  go_wp2_with fail
  refine (HCO.out).mono ?_
  rintro e w1 ⟨rfl, hb1⟩
  go_wp2_with fail
  refine (HF.out _ hb1).mono ?_
  rintro e w2 ⟨rfl, hb2⟩
  go_wp2_with fail
  go_ret2
  exact ⟨rfl, hb1.trans (hb2.mono hb1.size)⟩

set_option maxRecDepth 100000 in
set_option maxHeartbeats 2000000 in
theorem implPlanWorth_any (A B C : Option Addr) (n c p d q f : Nat) (rs : List ByteArray) (cs : List CutV) (pl : List Int) (w : World) (hA : Rd w 1 A n c (txs rs)) (hB : Rd w 4 B p d (qd cs)) (hC : Rd w 1 C q f (ints pl)) (hs : ∀ s ∈ rs, s.size ≤ 9223372036854775807) :
    Calls Tryd.prog 39 #[.slice A n c, .slice B p d, .slice C q f] w fun e w' => e = .returned (.tuple #[.int .i64 (pwZ rs cs pl).1, .int .i64 (pwZ rs cs pl).2]) ∧ Below w.heap.size w w' := by
  have HCO := Lib.hid (soundCode_any A B C n c p d q f rs cs pl w hA hB hC hs)
  rcases Decidable.em (¬ goodC rs cs pl = 0) with h0 | h0
  · rw [pwZ_n h0]
    simp only
    generalize goodC rs cs pl = k at *
    have hd : (k != 0) = true := by simp; omega
    clear hA hB hC
    go_enter Tryd.func39, Tryd.ntmps39
    go_wp2_with fail
    refine (HCO.out).mono ?_
    rintro e w1 ⟨rfl, hb1⟩
    go_wp2_with fail
    go_ret2
    exact ⟨rfl, hb1⟩
  have h0 : goodC rs cs pl = 0 := Decidable.not_not.mp h0
  have hp := planC_ok (goodC_ok h0)
  have hlc := hC.ilen
  rw [pwZ_0 h0, hlc]
  rw [h0] at HCO
  simp only
  have hlb := hB.qlen
  have hqp : q = p := by have := hp.len; omega
  subst hqp
  have a3 := hB.cap
  have a4 := hB.max
  have a5 := hC.cap
  have a6 := hC.max
  have HWK := Lib.hid (fun k S x y hS hx hy => wk_at hp (k := k) (S := S) (x := x) (y := y) hS hx hy)
  have HB := Lib.hid hB
  have HC := Lib.hid hC
  clear h0 hlb hlc hA hB hC hp
  go_enter Tryd.func39, Tryd.ntmps39
  go_wp2_with fail
  refine (HCO.out).mono ?_
  rintro e w1 ⟨rfl, hb1⟩
  have HB1 := Lib.hid hb1
  clear hb1
  go_wp2_with fail
  go_loopw [9, 21] (fun vs vk wr => ∃ (k : Nat) (S : Int), k ≤ q ∧ vk = .int .i64 k ∧ vs = .int .i64 S ∧ Hid (worthK cs pl k = S) ∧ Hid (Below w.heap.size w wr)) (fun _ vk _ => q - (intOf vk).toNat)
  case atStart => exact ⟨0, 0, Nat.zero_le _, rfl, rfl, Lib.hid rfl, HB1⟩
  case round =>
    obtain ⟨k, S, hk, rfl, rfl, HE, Hb⟩ := hrel
    by_cases hlt : k < q
    · have hk0 : (0 : Int) ≤ (k : Int) := by omega
      have hk1 : (k : Int) < (q : Int) := by omega
      obtain ⟨b2, o2, x, hBe, _, hx, c0, c1, c2, c3⟩ := (HB.out.below Hb.out).cut hlt
      obtain ⟨b3, o3, y, hCe, _, hyk, y0⟩ := (HC.out.below Hb.out).int hlt
      have hwk := HWK.out k S x y HE.out hx hyk
      have hbs := hwk.bs
      have hbw := hwk.bw
      have hon := hwk.on
      have hof := hwk.off
      obtain ⟨x0', x1', x2', x3⟩ := x
      simp only at c0 c1 c2 c3 hbw hon
      subst hBe
      subst hCe
      clear hwk hx hyk
      by_cases hy : 0 ≤ y
      · have HE2 := Lib.hid (hon hy)
        have hd : decide (y ≥ 0) = true := by simp; omega
        clear hon hof
        go_wp2
        go_roundw
        case rel => exact ⟨k + 1, S + x3, by omega, by go_num, by go_num, HE2, Hb⟩
        case measure => simp [intOf]; omega
      · have HE2 := Lib.hid (hof hy)
        have hd : decide (y ≥ 0) = false := by simp; omega
        clear hon hof
        go_wp2
        go_roundw
        case rel => exact ⟨k + 1, S, by omega, by go_num, rfl, HE2, Hb⟩
        case measure => simp [intOf]; omega
    · have hkq : k = q := by omega
      have hltI : ¬ (k : Int) < (q : Int) := by omega
      have hz := HE.out
      rw [hkq] at hz
      clear hkq HE
      subst hz
      go_wp2
      go_ret2
      exact ⟨rfl, Hb.out⟩

set_option maxRecDepth 100000 in
set_option maxHeartbeats 8000000 in
theorem law_PlanWorth (A : Option Addr) (n c : Nat) (rs : List ByteArray) (B : Option Addr) (p d : Nat) (cs : List CutV) (C : Option Addr) (q f : Nat) (pl : List Int) (w : World) (hA : Rd w 1 A n c (txs rs)) (hsA : ∀ s ∈ rs, s.size ≤ 9223372036854775807) (hB : Rd w 4 B p d (qd cs)) (hC : Rd w 1 C q f (ints pl)) :
    Calls Tryd.prog 8 #[.slice A n c, .slice B p d, .slice C q f] w fun e w' => e = .returned (.bool true) ∧ Below w.heap.size w w' := by
  have eA1 := hA.cap
  have eA2 := hA.max
  have lA := hA.tlen
  have eB1 := hB.cap
  have eB2 := hB.max
  have lB := hB.qlen
  have eC1 := hC.cap
  have eC2 := hC.max
  have lC := hC.ilen
  have hsp := fun A n c B p d C q f W h1 h2 h3 => specPlanWorth_any A B C n c p d q f rs cs pl W h1 h2 h3 hsA
  have him := fun A n c B p d C q f W h1 h2 h3 => implPlanWorth_any A B C n c p d q f rs cs pl W h1 h2 h3 hsA
  generalize (pwZ rs cs pl).1 = R at *
  generalize (pwZ rs cs pl).2 = z at *
  have HA := Lib.hid hA
  have HSA := Lib.hid hsA
  have HB := Lib.hid hB
  have HC := Lib.hid hC
  have HSP := Lib.hid hsp
  have HIM := Lib.hid him
  clear hA hsA hB hC hsp him lA lB lC
  by_cases gC : (1048576 : Int) < (q : Int)
  · go_enter Tryd.func8, Tryd.ntmps8
    go_wp2
    go_ret
    exact ⟨rfl, Below.refl _ _⟩
  have hszB := fun L W h0 h1 => szCutS_any B p d L W (by omega) h0 h1
  have HZB := Lib.hid hszB
  clear hszB
  have b0 : Below w.heap.size w w := Below.refl _ _
  have s0 := b0.size
  obtain ⟨w0, hw0⟩ : ∃ w0, w0 = w := ⟨_, rfl⟩
  go_enter Tryd.func8, Tryd.ntmps8
  go_wp2_with fail
  refine (szStringS_any A n c rs _ _ HA.out HSA.out (by omega) (by omega)).mono ?_
  rintro e wz ⟨⟨q0, rfl, hq0⟩, rfl⟩
  rcases hq0 with rfl | ⟨hq00, hq01, hnA, hszA⟩
  · go_wp2
    go_ret
    exact ⟨rfl, Below.refl _ _⟩
  have hqn0 : ¬ q0 < 0 := by omega
  have HWA := Lib.hid hszA
  clear hszA
  by_cases hq1 : q0 < (p : Int)
  · go_wp2_with fail
    refine (HZB.out _ _ (by omega) (by omega)).mono ?_
    rw [if_pos hq1]
    rintro e wz ⟨rfl, rfl⟩
    go_wp2
    go_ret
    exact ⟨rfl, Below.refl _ _⟩
  go_wp2_with fail
  refine (HZB.out _ _ (by omega) (by omega)).mono ?_
  rw [if_neg (show ¬ q0 < (p : Int) by omega)]
  rintro e wz ⟨rfl, rfl⟩
  have hqn1 : ¬ q0 - p < 0 := by omega
  go_wp2_with fail
  refine (toStringS_any A n c rs _ (HA.out.below b0) (by omega)).mono ?_
  rintro e w1 ⟨gt0, rfl, ho, hb1⟩
  have b1 : Below w.heap.size w w1 := b0.trans (hb1.mono b0.size)
  have s1 := hb1.size
  have Ot01 := Lib.hid (OwnIn.new ho)
  clear hb1 ho
  go_wp2_with fail
  refine (toCutS_any B p d cs _ (HB.out.below b1) (by omega)).mono ?_
  rintro e w2 ⟨gt1, rfl, ho, hb2⟩
  have b2 : Below w.heap.size w w2 := b1.trans (hb2.mono b1.size)
  have s2 := hb2.size
  have Ot02 := Lib.hid (Ot01.out.below hb2)
  have Ot12 := Lib.hid (OwnIn.new ho)
  clear hb2 Ot01 ho
  go_wp2_with fail
  refine (toInt64S_any C q f pl _ (HC.out.below b2) (by omega)).mono ?_
  rintro e w3 ⟨gt2, rfl, ho, hb3⟩
  have b3 : Below w.heap.size w w3 := b2.trans (hb3.mono b2.size)
  have s3 := hb3.size
  have Ot03 := Lib.hid (Ot02.out.below hb3)
  have Ot13 := Lib.hid (Ot12.out.below hb3)
  have Ot23 := Lib.hid (OwnIn.new ho)
  clear hb3 Ot02 Ot12 ho
  go_wp2_with fail
  refine (HSP.out _ _ _ _ _ _ _ _ _ _ Ot03.out.rd Ot13.out.rd Ot23.out.rd).mono ?_
  rintro e w4 ⟨rfl, hb4⟩
  have b4 : Below w.heap.size w w4 := b3.trans (hb4.mono b3.size)
  have s4 := hb4.size
  have Ot04 := Lib.hid (Ot03.out.below hb4)
  have Ot14 := Lib.hid (Ot13.out.below hb4)
  have Ot24 := Lib.hid (Ot23.out.below hb4)
  clear hb4 Ot03 Ot13 Ot23
  go_wp2_with fail
  refine (toStringS_any A n c rs _ (HA.out.below b4) (by omega)).mono ?_
  rintro e w5 ⟨gx0, rfl, ho, hb5⟩
  have b5 : Below w.heap.size w w5 := b4.trans (hb5.mono b4.size)
  have s5 := hb5.size
  have Ot05 := Lib.hid (Ot04.out.below hb5)
  have Ot15 := Lib.hid (Ot14.out.below hb5)
  have Ot25 := Lib.hid (Ot24.out.below hb5)
  have Ox05 := Lib.hid (OwnIn.new ho)
  clear hb5 Ot04 Ot14 Ot24 ho
  go_wp2_with fail
  refine (toCutS_any B p d cs _ (HB.out.below b5) (by omega)).mono ?_
  rintro e w6 ⟨gx1, rfl, ho, hb6⟩
  have b6 : Below w.heap.size w w6 := b5.trans (hb6.mono b5.size)
  have s6 := hb6.size
  have Ot06 := Lib.hid (Ot05.out.below hb6)
  have Ot16 := Lib.hid (Ot15.out.below hb6)
  have Ot26 := Lib.hid (Ot25.out.below hb6)
  have Ox06 := Lib.hid (Ox05.out.below hb6)
  have Ox16 := Lib.hid (OwnIn.new ho)
  clear hb6 Ot05 Ot15 Ot25 Ox05 ho
  go_wp2_with fail
  refine (toInt64S_any C q f pl _ (HC.out.below b6) (by omega)).mono ?_
  rintro e w7 ⟨gx2, rfl, ho, hb7⟩
  have b7 : Below w.heap.size w w7 := b6.trans (hb7.mono b6.size)
  have s7 := hb7.size
  have Ot07 := Lib.hid (Ot06.out.below hb7)
  have Ot17 := Lib.hid (Ot16.out.below hb7)
  have Ot27 := Lib.hid (Ot26.out.below hb7)
  have Ox07 := Lib.hid (Ox06.out.below hb7)
  have Ox17 := Lib.hid (Ox16.out.below hb7)
  have Ox27 := Lib.hid (OwnIn.new ho)
  clear hb7 Ot06 Ot16 Ot26 Ox06 Ox16 ho
  go_wp2_with fail
  refine (HIM.out _ _ _ _ _ _ _ _ _ _ Ox07.out.rd Ox17.out.rd Ox27.out.rd).mono ?_
  rintro e w8 ⟨rfl, hb8⟩
  have b8 : Below w.heap.size w w8 := b7.trans (hb8.mono b7.size)
  have s8 := hb8.size
  have Ot08 := Lib.hid (Ot07.out.below hb8)
  have Ot18 := Lib.hid (Ot17.out.below hb8)
  have Ot28 := Lib.hid (Ot27.out.below hb8)
  have Ox08 := Lib.hid (Ox07.out.below hb8)
  have Ox18 := Lib.hid (Ox17.out.below hb8)
  have Ox28 := Lib.hid (Ox27.out.below hb8)
  clear hb8 Ot07 Ot17 Ot27 Ox07 Ox17 Ox27
  go_wp2_with fail
  refine (toStringS_any A n c rs _ (HA.out.below b8) (by omega)).mono ?_
  rintro e w9 ⟨gy0, rfl, ho, hb9⟩
  have b9 : Below w.heap.size w w9 := b8.trans (hb9.mono b8.size)
  have s9 := hb9.size
  have Ot09 := Lib.hid (Ot08.out.below hb9)
  have Ot19 := Lib.hid (Ot18.out.below hb9)
  have Ot29 := Lib.hid (Ot28.out.below hb9)
  have Ox09 := Lib.hid (Ox08.out.below hb9)
  have Ox19 := Lib.hid (Ox18.out.below hb9)
  have Ox29 := Lib.hid (Ox28.out.below hb9)
  have Oy09 := Lib.hid (OwnIn.new ho)
  clear hb9 Ot08 Ot18 Ot28 Ox08 Ox18 Ox28 ho
  go_wp2_with fail
  refine (eqStringS_any _ _ _ _ _ _ rs _ Ox09.out.rd Oy09.out.rd).mono ?_
  rintro e w10 ⟨rfl, hb10⟩
  have b10 : Below w.heap.size w w10 := b9.trans (hb10.mono b9.size)
  have s10 := hb10.size
  have Ot010 := Lib.hid (Ot09.out.below hb10)
  have Ot110 := Lib.hid (Ot19.out.below hb10)
  have Ot210 := Lib.hid (Ot29.out.below hb10)
  have Ox010 := Lib.hid (Ox09.out.below hb10)
  have Ox110 := Lib.hid (Ox19.out.below hb10)
  have Ox210 := Lib.hid (Ox29.out.below hb10)
  have Oy010 := Lib.hid (Oy09.out.below hb10)
  clear hb10 Ot09 Ot19 Ot29 Ox09 Ox19 Ox29 Oy09
  go_wp2_with fail
  refine (toCutS_any B p d cs _ (HB.out.below b10) (by omega)).mono ?_
  rintro e w11 ⟨gy1, rfl, ho, hb11⟩
  have b11 : Below w.heap.size w w11 := b10.trans (hb11.mono b10.size)
  have s11 := hb11.size
  have Ot011 := Lib.hid (Ot010.out.below hb11)
  have Ot111 := Lib.hid (Ot110.out.below hb11)
  have Ot211 := Lib.hid (Ot210.out.below hb11)
  have Ox011 := Lib.hid (Ox010.out.below hb11)
  have Ox111 := Lib.hid (Ox110.out.below hb11)
  have Ox211 := Lib.hid (Ox210.out.below hb11)
  have Oy011 := Lib.hid (Oy010.out.below hb11)
  have Oy111 := Lib.hid (OwnIn.new ho)
  clear hb11 Ot010 Ot110 Ot210 Ox010 Ox110 Ox210 Oy010 ho
  go_wp2_with fail
  refine (eqCutS_any _ _ _ _ _ _ cs _ Ox111.out.rd Oy111.out.rd).mono ?_
  rintro e w12 ⟨rfl, hb12⟩
  have b12 : Below w.heap.size w w12 := b11.trans (hb12.mono b11.size)
  have s12 := hb12.size
  have Ot012 := Lib.hid (Ot011.out.below hb12)
  have Ot112 := Lib.hid (Ot111.out.below hb12)
  have Ot212 := Lib.hid (Ot211.out.below hb12)
  have Ox012 := Lib.hid (Ox011.out.below hb12)
  have Ox112 := Lib.hid (Ox111.out.below hb12)
  have Ox212 := Lib.hid (Ox211.out.below hb12)
  have Oy012 := Lib.hid (Oy011.out.below hb12)
  have Oy112 := Lib.hid (Oy111.out.below hb12)
  clear hb12 Ot011 Ot111 Ot211 Ox011 Ox111 Ox211 Oy011 Oy111
  go_wp2_with fail
  refine (toInt64S_any C q f pl _ (HC.out.below b12) (by omega)).mono ?_
  rintro e w13 ⟨gy2, rfl, ho, hb13⟩
  have b13 : Below w.heap.size w w13 := b12.trans (hb13.mono b12.size)
  have s13 := hb13.size
  have Ot013 := Lib.hid (Ot012.out.below hb13)
  have Ot113 := Lib.hid (Ot112.out.below hb13)
  have Ot213 := Lib.hid (Ot212.out.below hb13)
  have Ox013 := Lib.hid (Ox012.out.below hb13)
  have Ox113 := Lib.hid (Ox112.out.below hb13)
  have Ox213 := Lib.hid (Ox212.out.below hb13)
  have Oy013 := Lib.hid (Oy012.out.below hb13)
  have Oy113 := Lib.hid (Oy112.out.below hb13)
  have Oy213 := Lib.hid (OwnIn.new ho)
  clear hb13 Ot012 Ot112 Ot212 Ox012 Ox112 Ox212 Oy012 Oy112 ho
  go_wp2_with fail
  refine (eqInt64S_any _ _ _ pl _ _ _ pl _ Ox213.out.rd Oy213.out.rd).mono ?_
  rw [eqL_self]
  rintro e w14 ⟨rfl, hb14⟩
  have b14 : Below w.heap.size w w14 := b13.trans (hb14.mono b13.size)
  have s14 := hb14.size
  have Ot014 := Lib.hid (Ot013.out.below hb14)
  have Ot114 := Lib.hid (Ot113.out.below hb14)
  have Ot214 := Lib.hid (Ot213.out.below hb14)
  have Ox014 := Lib.hid (Ox013.out.below hb14)
  have Ox114 := Lib.hid (Ox113.out.below hb14)
  have Ox214 := Lib.hid (Ox213.out.below hb14)
  have Oy014 := Lib.hid (Oy013.out.below hb14)
  have Oy114 := Lib.hid (Oy113.out.below hb14)
  have Oy214 := Lib.hid (Oy213.out.below hb14)
  clear hb14 Ot013 Ot113 Ot213 Ox013 Ox113 Ox213 Oy013 Oy113 Oy213
  go_wp2_with fail
  go_ret
  exact ⟨rfl, b14⟩

end Go.Proofs.YtiibhejjeijdaaaDoor
