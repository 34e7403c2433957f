/- The walk of the law FnPulls. Printed by mkpv.py. -/
import Derived.Test.YtdkklkpegnblnaaPu
import Derived.Deep.CutRange
import Derived.Deep.RegionHeld3
namespace Go.Proofs.Ytdkklkpegnblnaa
open Go.RowKit
theorem a2Give_any (a c s m d : Int) (w : World) (hl : LOk a c s m) (h4 : 0 ≤ d) (h5 : d ≤ 4) :
    Calls Try.prog 48 #[.agg #[.int .i64 a, .int .i64 c, .int .i64 s, .int .i64 m], .int .i64 d] w fun e w' => e = .returned (.int .i64 (giveZ a c d)) ∧ Below w.heap.size w w' := by
  obtain ⟨⟨g1, g2⟩, ⟨g3, g4⟩, _, _⟩ := give_bd hl.a0 hl.a1 hl.c0 hl.c1 h4 h5
  go_enter Try.func48, Try.ntmps48
  go_wp2
  go_returns
  exact ⟨rfl, (by go_grown)⟩
theorem a2Size_any (x : Int) (w : World) (h0 : -1000000 ≤ x) (h1 : x ≤ 1000000) :
    Calls Try.prog 47 #[.int .i64 x] w fun e w' => e = .returned (.int .i64 (absZ x)) ∧ w = w' := by
  unfold absZ
  by_cases hx : x < 0
  · rw [if_pos hx]
    go_enter Try.func47, Try.ntmps47
    go_wp2
    go_returns
    exact ⟨rfl, rfl⟩
  · rw [if_neg hx]
    go_enter Try.func47, Try.ntmps47
    go_wp2
    go_returns
    exact ⟨rfl, rfl⟩
/-- The k-th pull. -/
structure StepK (a c s m d : Int) (fs ys : List Int) (LL : Nat → Int) (k : Nat) (f : Int) : Prop where
  f0 : 0 ≤ f ∧ f ≤ 59
  l0 : 500 ≤ LL k ∧ LL k ≤ 10000
  l1 : LL k ≤ LL (k + 1) ∧ LL (k + 1) ≤ 10000
  aft : afterZ a c s d (LL k) f = LL (k + 1)
  fs : fs[k]? = some f
  ys : ys[k]? = some (LL (k + 1))
def LLs (L L1 L2 L3 : Int) : Nat → Int
  | 0 => L
  | 1 => L1
  | 2 => L2
  | _ => L3
theorem stepK {a c s m d L f0 f1 f2 L1 L2 L3 : Int} (hL : 500 ≤ L ∧ L ≤ 2490) (h0 : 0 ≤ f0 ∧ f0 ≤ 59) (h1 : 0 ≤ f1 ∧ f1 ≤ 59) (h2 : 0 ≤ f2 ∧ f2 ≤ 59)
    (e1 : afterZ a c s d L f0 = L1) (e2 : afterZ a c s d L1 f1 = L2) (e3 : afterZ a c s d L2 f2 = L3) (a1 : L ≤ L1) (a2 : L1 ≤ L2) (a3 : L2 ≤ L3) (a4 : L3 ≤ 10000) :
    ∀ k, k < 3 → ∃ f, StepK a c s m d [f0, f1, f2] [L1, L2, L3] (LLs L L1 L2 L3) k f := fun k hk => by
  rcases (by omega : k = 0 ∨ k = 1 ∨ k = 2) with rfl | rfl | rfl
  · exact ⟨f0, h0, ⟨hL.1, by show L ≤ _; omega⟩, ⟨a1, by show L1 ≤ _; omega⟩, e1, rfl, rfl⟩
  · exact ⟨f1, h1, ⟨by show _ ≤ L1; omega, by show L1 ≤ _; omega⟩, ⟨a2, by show L2 ≤ _; omega⟩, e2, rfl, rfl⟩
  · exact ⟨f2, h2, ⟨by show _ ≤ L2; omega, by show L2 ≤ _; omega⟩, ⟨a3, a4⟩, e3, rfl, rfl⟩
def anyT (a c m d : Int) (fs : List Int) : Bool := fs.any (tearsB a c m d)
theorem any_at {a c m d f : Int} {fs : List Int} {k : Nat} (h : fs[k]? = some f) (ht : tearsB a c m d f = true) : anyT a c m d fs = true := List.any_eq_true.mpr ⟨f, List.mem_of_getElem? h, ht⟩
theorem any_no {a c m d : Int} {fs : List Int} (h : ∀ (k : Nat) (f : Int), fs[k]? = some f → tearsB a c m d f = false) : anyT a c m d fs = false := by
  cases hh : anyT a c m d fs with
  | false => rfl
  | true =>
    obtain ⟨f, hf, ht⟩ := List.any_eq_true.mp hh
    obtain ⟨k, hk⟩ := List.getElem?_of_mem hf
    rw [h k f hk] at ht
    cases ht

set_option maxRecDepth 100000 in
set_option maxHeartbeats 8000000 in
theorem law_Pulls (A : Option Addr) (n cp : Nat) (A' : Option Addr) (n' cp' : Nat) (w : World) (h1 : Bytes w A n cp) (h2 : Bytes w A' n' cp') :
    Calls Try.prog 15 #[.slice A n cp, .slice A' n' cp'] w fun e w' => e = .returned (.bool true) ∧ Below w.heap.size w w' := by
  have nn := h1.1
  have nn' := h2.1
  have nc := h1.2.1
  have nc' := h2.2.1
  have H1 := Lib.hid h1
  have H2 := Lib.hid h2
  clear h1 h2
  go_enter Try.func15, Try.ntmps15
  go_wp2_with fail
  refine (a2Long_any _ _ _ _ _ _ _ (by omega) (by omega)).mono ?_
  rintro e w' ⟨rfl, rfl⟩
  cases hz : (decide (3000 < n) || decide (3000 < n')) with
  | true =>
    go_wp2
    go_returns
    exact ⟨rfl, Below.refl _ _⟩
  | false =>
  go_wp2_with fail
  refine (a2Leather_any _ _ _ _ H1.out).mono ?_
  rintro e w1 ⟨a, c, s, m, hd, rfl, b1⟩
  have K1 := Lib.hid (H2.out.below b1)
  clear H1 H2
  obtain ⟨w2, hv2⟩ : ∃ w', w' = w1.alloc (.cells #[.int .i64 a, .int .i64 c, .int .i64 s, .int .i64 m] 25) := ⟨_, rfl⟩
  have bw12 : Below w1.heap.size w1 w2 := by rw [hv2]; exact (Below.refl _ _).alloc (Nat.le_refl _) _
  have B2 := Lib.hid (show Box w2 w1.heap.size #[.int .i64 a, .int .i64 c, .int .i64 s, .int .i64 m] by rw [hv2]; exact Box.new w1 _ _)
  have K2 := Lib.hid (K1.out.below bw12)
  have b2 : Below w.heap.size w w2 := b1.trans (bw12.mono b1.size)
  have s2 := b2.size
  have hx12 : w1.heap.size < w2.heap.size := by rw [hv2]; simp
  have g1 := b1.size
  clear K1 bw12 b1
  go_wp2_with fail
  rw [← hv2]
  clear hv2
  refine (a2At_any _ _ _ _ _ _ K2.out (by omega) (by omega)).mono ?_
  rintro e w' ⟨d, d0, d1, rfl, rfl⟩
  go_wp2_with fail
  refine (a2At_any _ _ _ _ _ _ K2.out (by omega) (by omega)).mono ?_
  rintro e w' ⟨r, r0, r1, rfl, rfl⟩
  go_wp2_with fail
  obtain ⟨L, hL⟩ : ∃ L, 500 + 10 * r = L := ⟨_, rfl⟩
  rw [hL]
  have L0 : 500 ≤ L ∧ L ≤ 2490 := by omega
  clear hL r0 r1
  have hd4 : 0 ≤ d ∧ d ≤ 4 := by omega
  refine (a2At_any _ _ _ _ _ _ K2.out (by omega) (by omega)).mono ?_
  rintro e w' ⟨f0, p0, q0, rfl, rfl⟩
  go_wp2_with fail
  refine (a2At_any _ _ _ _ _ _ K2.out (by omega) (by omega)).mono ?_
  rintro e w' ⟨f1, p1, q1, rfl, rfl⟩
  go_wp2_with fail
  refine (a2At_any _ _ _ _ _ _ K2.out (by omega) (by omega)).mono ?_
  rintro e w' ⟨f2, p2, q2, rfl, rfl⟩
  obtain ⟨L1, L2, L3, e1, e2, e3, o1, o2, o3, o4, hrun⟩ := pulls3 hd hd4 L0 (f0 := f0) (f1 := f1) (f2 := f2) ⟨p0, by omega⟩ ⟨p1, by omega⟩ ⟨p2, by omega⟩
  have hst := stepK (a := a) (c := c) (s := s) (m := m) (d := d) L0 ⟨p0, by omega⟩ ⟨p1, by omega⟩ ⟨p2, by omega⟩ e1 e2 e3 o1 o2 o3 o4
  have hLL0 : LLs L L1 L2 L3 0 = L := rfl
  generalize LLs L L1 L2 L3 = LL at *
  have hany : (tearsB a c m d f0 || (tearsB a c m d f1 || tearsB a c m d f2)) = anyT a c m d [f0, f1, f2] := by unfold anyT; simp only [List.any_cons, List.any_nil, Bool.or_false]
  rw [hany] at hrun
  clear hany e1 e2 e3 o1 o2 o3 o4
  have hcode := fun (L' f : Int) h3 h4 => code_at (L := L') (f := f) hd hd4 h3 h4
  have hvl := hd.valid
  have hlok := lok hvl
  obtain ⟨w3, hv3⟩ : ∃ w', w' = w2.alloc (.cells #[.int .i64 f0, .int .i64 f1, .int .i64 f2] 2) := ⟨_, rfl⟩
  have bw23 : Below w2.heap.size w2 w3 := by rw [hv3]; exact (Below.refl _ _).alloc (Nat.le_refl _) _
  have R3 := Lib.hid (show Rd w3 1 (some ⟨w2.heap.size, 0, none⟩) 3 3 (ints [f0, f1, f2]) by
    rw [hv3]
    exact Rd.of_own (World.ownsRow_lit (base := w2.heap.size) (e := 2) (size := 1) w2 #[.int .i64 f0, .int .i64 f1, .int .i64 f2] 3 (Nat.le_refl _) (by unfold maxLen; omega) rfl))
  have B3 := Lib.hid (B2.out.below bw23)
  have K3 := Lib.hid (K2.out.below bw23)
  have b3 : Below w.heap.size w w3 := b2.trans (bw23.mono b2.size)
  clear bw23 B2 K2 b2
  have c3 := B3.out.cell
  have HST := Lib.hid hst
  have HCD := Lib.hid hcode
  have HVL := Lib.hid hvl
  have HD := Lib.hid hd
  clear hst hcode hvl hd
  go_upto_region 7 with fail
  rw [← hv3]
  clear hv3
  go_wp2_with fail
  refine (implRunPulls_any a c s m d L _ _ _ [f0, f1, f2] _ R3.out).mono ?_
  rw [hrun]
  clear hrun p0 q0 p1 q1 p2 q2
  cases htn : anyT a c m d [f0, f1, f2] with
  | true =>
    rw [if_pos rfl]
    rintro e w4 ⟨AL, nL, cL, rfl, hoL, hb4⟩
    have B4 := Lib.hid (B3.out.below hb4)
    have K4 := Lib.hid (K3.out.below hb4)
    have R4 := Lib.hid (R3.out.below hb4)
    have b4 := Lib.hid (b3.trans (hb4.mono b3.size))
    have hnL : nL = 0 := by have := hoL.1; simp [ints] at this; omega
    subst hnL
    have HTN := Lib.hid htn
    clear hoL hb4 b3 B3 K3 R3 c3 htn
    go_wp2
    go_loopw [7, 11] (fun vl vi wr => ∃ k : Nat, k ≤ 3 ∧ vi = .int .i64 k ∧ vl = .int .i64 (LL k) ∧ Hid (∀ (j : Nat) (f : Int), j < k → [f0, f1, f2][j]? = some f → tearsB a c m d f = false) ∧ Hid (Below w4.heap.size w4 wr)) (fun _ vi _ => 3 - (intOf vi).toNat)
    case atStart => exact ⟨0, by omega, rfl, by rw [hLL0], Lib.hid (fun j f hj => absurd hj (Nat.not_lt_zero _)), Lib.hid (Below.refl _ _)⟩
    case round =>
      obtain ⟨k, hk, rfl, rfl, HT, HB⟩ := hrel
      have hs := HB.out.size
      by_cases hlt : k < 3
      · obtain ⟨f, hf⟩ := HST.out k hlt
        have hk0 : (0 : Int) ≤ (k : Int) := by omega
        have hk3 : (k : Int) < 3 := by omega
        have c5 := (B4.out.below HB.out).cell
        obtain ⟨b', o', f', hA', _, hx, cf⟩ := (R4.out.below HB.out).int hlt
        rw [hf.fs] at hx
        cases hx
        injection hA' with hA'
        injection hA' with ea eb
        subst ea
        subst eb
        rw [Nat.zero_add] at cf
        have hcd := HCD.out (LL k) f hf.l0 hf.f0
        have hl0 := hf.l0
        have hl1 := hf.l1
        have hff := hf.f0
        have himp := fun W => implLengthAfter_any a c s m d (LL k) f W
        unfold lafterZ at himp
        cases ht : tearsB a c m d f with
        | true =>
          rw [ht, if_pos rfl] at hcd
          rw [hcd, if_neg (by omega)] at himp
          have HIM := Lib.hid himp
          clear himp hcd ht hf HST
          go_wp2_with fail
          go_region_held3 (fun w' => (w'.cell? ⟨w1.heap.size, 0, none⟩ = some (.int .i64 a) ∧ w'.cell? ⟨w1.heap.size, 1, none⟩ = some (.int .i64 c) ∧ w'.cell? ⟨w1.heap.size, 2, none⟩ = some (.int .i64 s) ∧ w'.cell? ⟨w1.heap.size, 3, none⟩ = some (.int .i64 m)) ∧ w'.cell? ⟨w2.heap.size, k, none⟩ = some (.int .i64 f) ∧ Below wr.heap.size wr w') (first | exact ⟨⟨c5 0, c5 1, c5 2, c5 3⟩, cf, (Below.refl _ _).drew⟩ | exact keep5 (by assumption) hb | go_keep)
            (first | (go_at_call 43; refine (HIM.out _).mono ?_; rintro e w' ⟨rfl, hb⟩))
          have hbb : Below wr.heap.size wr w' := (‹_ ∧ _ ∧ Below wr.heap.size wr w'›).2.2
          go_wp2
          go_ret
          exact ⟨rfl, b4.out.trans ((HB.out.trans (hbb.mono hs)).mono b4.out.size)⟩
        | false =>
          rw [ht, if_neg (by simp)] at hcd
          rw [hcd, if_pos rfl, hf.aft] at himp
          have HIM := Lib.hid himp
          have HT2 : Hid (∀ (j : Nat) (f : Int), j < k + 1 → [f0, f1, f2][j]? = some f → tearsB a c m d f = false) := Lib.hid fun j f' hj hf' => by
            by_cases ej : j = k
            · subst ej
              rw [hf.fs] at hf'
              cases hf'
              exact ht
            · exact HT.out j f' (by omega) hf'
          clear himp hcd ht hf
          go_wp2_with fail
          go_region_held3 (fun w' => (w'.cell? ⟨w1.heap.size, 0, none⟩ = some (.int .i64 a) ∧ w'.cell? ⟨w1.heap.size, 1, none⟩ = some (.int .i64 c) ∧ w'.cell? ⟨w1.heap.size, 2, none⟩ = some (.int .i64 s) ∧ w'.cell? ⟨w1.heap.size, 3, none⟩ = some (.int .i64 m)) ∧ w'.cell? ⟨w2.heap.size, k, none⟩ = some (.int .i64 f) ∧ Below wr.heap.size wr w') (first | exact ⟨⟨c5 0, c5 1, c5 2, c5 3⟩, cf, (Below.refl _ _).drew⟩ | exact keep5 (by assumption) hb | go_keep)
            (first | (go_at_call 43; refine (HIM.out _).mono ?_; rintro e w' ⟨rfl, hb⟩))
          have hbb : Below wr.heap.size wr w' := (‹_ ∧ _ ∧ Below wr.heap.size wr w'›).2.2
          have HB6 := Lib.hid (HB.out.trans (hbb.mono hs))
          clear hbb
          go_wp2
          go_roundw
          case rel => exact ⟨k + 1, by omega, by go_num, rfl, HT2, HB6⟩
          case measure => simp [intOf]; omega
      · exfalso
        have hkk : k = 3 := by omega
        subst hkk
        have := any_no (a := a) (c := c) (m := m) (d := d) (fs := [f0, f1, f2]) (fun j f hf => HT.out j f (by have := (List.getElem?_eq_some_iff.1 hf).1; simpa using this) hf)
        rw [HTN.out] at this
        cases this
  | false =>
    rw [if_neg (by simp)]
    rintro e w4 ⟨AL, nL, cL, rfl, hoL, hb4⟩
    have B4 := Lib.hid (B3.out.below hb4)
    have K4 := Lib.hid (K3.out.below hb4)
    have R4 := Lib.hid (R3.out.below hb4)
    have b4 := Lib.hid (b3.trans (hb4.mono b3.size))
    have hnL : nL = 3 := by have := hoL.1; simp [ints] at this; omega
    subst hnL
    obtain ⟨gL, dL, hvL, _, _⟩ := own_form hoL (by omega)
    cases hvL
    have RL := Lib.hid (Rd.of_own hoL)
    have hLc := RL.out.cap
    have hLm := RL.out.max
    have HTN := Lib.hid htn
    clear hoL hb4 b3 B3 K3 R3 c3 htn
    go_wp2
    go_loopw [7, 11] (fun vl vi wr => ∃ k : Nat, k ≤ 3 ∧ vi = .int .i64 k ∧ vl = .int .i64 (LL k) ∧ Hid (∀ (j : Nat) (f : Int), j < k → [f0, f1, f2][j]? = some f → tearsB a c m d f = false) ∧ Hid (Below w4.heap.size w4 wr)) (fun _ vi _ => 3 - (intOf vi).toNat)
    case atStart => exact ⟨0, by omega, rfl, by rw [hLL0], Lib.hid (fun j f hj => absurd hj (Nat.not_lt_zero _)), Lib.hid (Below.refl _ _)⟩
    case round =>
      obtain ⟨k, hk, rfl, rfl, HT, HB⟩ := hrel
      have hs := HB.out.size
      by_cases hlt : k < 3
      · obtain ⟨f, hf⟩ := HST.out k hlt
        have hk0 : (0 : Int) ≤ (k : Int) := by omega
        have hk3 : (k : Int) < 3 := by omega
        have c5 := (B4.out.below HB.out).cell
        obtain ⟨b', o', f', hA', _, hx, cf⟩ := (R4.out.below HB.out).int hlt
        rw [hf.fs] at hx
        cases hx
        injection hA' with hA'
        injection hA' with ea eb
        subst ea
        subst eb
        rw [Nat.zero_add] at cf
        have hcd := HCD.out (LL k) f hf.l0 hf.f0
        have hl0 := hf.l0
        have hl1 := hf.l1
        have hff := hf.f0
        have himp := fun W => implLengthAfter_any a c s m d (LL k) f W
        unfold lafterZ at himp
        cases ht : tearsB a c m d f with
        | true =>
          have := any_at (a := a) (c := c) (m := m) (d := d) hf.fs ht
          rw [HTN.out] at this
          cases this
        | false =>
          rw [ht, if_neg (by simp)] at hcd
          rw [hcd, if_pos rfl, hf.aft] at himp
          have HIM := Lib.hid himp
          have HT2 : Hid (∀ (j : Nat) (f : Int), j < k + 1 → [f0, f1, f2][j]? = some f → tearsB a c m d f = false) := Lib.hid fun j f' hj hf' => by
            by_cases ej : j = k
            · subst ej
              rw [hf.fs] at hf'
              cases hf'
              exact ht
            · exact HT.out j f' (by omega) hf'
          obtain ⟨by', oy', y', hAy, _, hxy, cy⟩ := (RL.out.below HB.out).int hlt
          rw [hf.ys] at hxy
          cases hxy
          injection hAy with hAy
          injection hAy with ea eb
          subst ea
          subst eb
          rw [Nat.zero_add] at cy
          have hgl := World.block_lt_of_cell? _ _ cy
          have hnn : (LL (k + 1) != LL (k + 1)) = false := by simp
          have hnl : decide (LL (k + 1) < LL k) = false := by simp; omega
          clear himp hcd ht hf
          go_wp2_with fail
          go_region_held3 (fun w' => (w'.cell? ⟨w1.heap.size, 0, none⟩ = some (.int .i64 a) ∧ w'.cell? ⟨w1.heap.size, 1, none⟩ = some (.int .i64 c) ∧ w'.cell? ⟨w1.heap.size, 2, none⟩ = some (.int .i64 s) ∧ w'.cell? ⟨w1.heap.size, 3, none⟩ = some (.int .i64 m)) ∧ w'.cell? ⟨w2.heap.size, k, none⟩ = some (.int .i64 f) ∧ Below wr.heap.size wr w') (first | exact ⟨⟨c5 0, c5 1, c5 2, c5 3⟩, cf, (Below.refl _ _).drew⟩ | exact keep5 (by assumption) hb | go_keep)
            (first | (go_at_call 43; refine (HIM.out _).mono ?_; rintro e w' ⟨rfl, hb⟩))
          have hbb : Below wr.heap.size wr w' := (‹_ ∧ _ ∧ Below wr.heap.size wr w'›).2.2
          have HB6 := Lib.hid (HB.out.trans (hbb.mono hs))
          have cy2 := cell_later hbb cy
          clear hbb
          go_wp2
          go_roundw
          case rel => exact ⟨k + 1, by omega, by go_num, rfl, HT2, HB6⟩
          case measure => simp [intOf]; omega
      · have hkk : k = 3 := by omega
        subst hkk
        obtain ⟨w5, rfl⟩ : ∃ w', w' = wr := ⟨_, rfl⟩
        have K5 := Lib.hid (K4.out.below HB.out)
        have B5 := Lib.hid (B4.out.below HB.out)
        have b5 := Lib.hid (b4.out.trans (HB.out.mono b4.out.size))
        clear B4 K4 R4 b4 RL HB HT HST HCD HTN
        go_wp2_with fail
        refine (a2At_any _ _ _ _ _ _ K5.out (by omega) (by omega)).mono ?_
        rintro e w' ⟨r6, u0, u1, rfl, rfl⟩
        go_wp2_with fail
        obtain ⟨F, hF⟩ : ∃ F, 1 + r6 = F := ⟨_, rfl⟩
        rw [hF]
        have F0 : 1 ≤ F ∧ F ≤ 200 := by omega
        clear hF u0 u1
        refine (a2At_any _ _ _ _ _ _ K5.out (by omega) (by omega)).mono ?_
        rintro e w' ⟨lo, u0, u1, rfl, rfl⟩
        go_wp2_with fail
        refine (a2At_any _ _ _ _ _ _ K5.out (by omega) (by omega)).mono ?_
        rintro e w' ⟨r8, u2, u3, rfl, rfl⟩
        have c5 := B5.out.cell
        go_wp2_with fail
        obtain ⟨hi, hH⟩ : ∃ hi, lo + r8 = hi := ⟨_, rfl⟩
        rw [hH]
        have H0 : lo ≤ hi ∧ hi ≤ 198 := by omega
        clear hH u2 u3
        have hbz : bestZ a c s m F lo hi = bestF a c F lo hi 5 0 0 (-1) := by
          unfold bestZ
          rw [HVL.out, if_neg (by simp), inB_mk (show 0 ≤ F by omega) (show F ≤ 1000 by omega), inB_mk (show 0 ≤ hi by omega) (show hi ≤ 500 by omega), inB_mk (show 0 ≤ lo by omega) H0.1, if_neg (by simp)]
        have hbp := best_all (a := a) (c := c) (f := F) (low := lo) (high := hi) (fun i h0 h1 => (stretch_bd hlok.a0 hlok.a1 hlok.c0 hlok.c1 h0 (by omega) (by omega) (by omega)).1)
        have hcall := implBestDirection_any a c s m F lo hi w5
        rw [hbz] at hcall
        generalize bestF a c F lo hi 5 0 0 (-1) = R at *
        obtain ⟨bb, tw⟩ := R
        clear hbz
        refine hcall.mono ?_
        rintro e w6 ⟨rfl, hb⟩
        have K6 := Lib.hid (K5.out.below hb)
        have B6 := Lib.hid (B5.out.below hb)
        have b6 := Lib.hid (b5.out.trans (hb.mono b5.out.size))
        clear hb hcall K5 B5 b5 c5
        go_wp2_with fail
        refine (a2Leather_any _ _ _ _ K6.out).mono ?_
        rintro e w7 ⟨a', c', s', m', hd', rfl, b67⟩
        have hvl2 := hd'.valid
        have hlok2 := lok hvl2
        have B7 := Lib.hid (B6.out.below b67)
        have b7 := Lib.hid (b6.out.trans (b67.mono b6.out.size))
        obtain ⟨w8, hv8⟩ : ∃ w', w' = w7.alloc (.cells #[.int .i64 a', .int .i64 c', .int .i64 s', .int .i64 m'] 25) := ⟨_, rfl⟩
        have bw78 : Below w7.heap.size w7 w8 := by rw [hv8]; exact (Below.refl _ _).alloc (Nat.le_refl _) _
        have D8 := Lib.hid (show Box w8 w7.heap.size #[.int .i64 a', .int .i64 c', .int .i64 s', .int .i64 m'] by rw [hv8]; exact Box.new w7 _ _)
        have B8 := Lib.hid (B7.out.below bw78)
        have b8 := Lib.hid (b7.out.trans (bw78.mono b7.out.size))
        have hmz : matchZ a c s m a' c' s' m' = ((mOut a c a' c' 5 0 ⟨0, 0, -1⟩).x, (mOut a c a' c' 5 0 ⟨0, 0, -1⟩).y, 0) := by
          unfold matchZ
          rw [HVL.out, hvl2, if_neg (by simp)]
        have hcall := fun W => implMatchDirections_any a c s m a' c' s' m' W
        rw [hmz] at hcall
        obtain ⟨x, y, hx, hy, x0, x1, y0, y1, hmin⟩ := match_all a c a' c'
        rw [hx, hy] at hcall
        have HMC := Lib.hid hcall
        have cB8 := B8.out.cell
        have cD8 := D8.out.cell
        clear bw78 b67 B6 b6 K6 B7 b7 hmz hcall hx hy hvl2 hd'
        go_upto_region 26 with fail
        rw [← hv8]
        clear hv8
        go_wp2_with fail
        refine (HMC.out _).mono ?_
        rintro e w9 ⟨rfl, hb9⟩
        have B9 := Lib.hid (B8.out.below hb9)
        have D9 := Lib.hid (D8.out.below hb9)
        have b9 := Lib.hid (b8.out.trans (hb9.mono b8.out.size))
        clear hb9 HMC B8 D8 b8 cB8 cD8
        rcases hbp with ⟨h3, hbno⟩ | ⟨h3, bb0, bb1, hbf, hbest⟩
        · simp only at h3
          subst h3
          go_wp2
          have cB := B9.out.cell
          have cD := D9.out.cell
          have hg1 := give_bd hlok.a0 hlok.a1 hlok.c0 hlok.c1 x0 x1
          have hg2 := give_bd hlok2.a0 hlok2.a1 hlok2.c0 hlok2.c1 y0 y1
          have hc1 := fun W => a2Give_any a c s m x W hlok x0 x1
          have hc2 := fun W => a2Give_any a' c' s' m' y W hlok2 y0 y1
          obtain ⟨off, hoff⟩ : ∃ off, absZ (giveZ a c x - giveZ a' c' y) = off := ⟨_, rfl⟩
          rw [hoff] at hmin
          obtain ⟨G1, hG1⟩ : ∃ G1, giveZ a c x = G1 := ⟨_, rfl⟩
          obtain ⟨G2, hG2⟩ : ∃ G2, giveZ a' c' y = G2 := ⟨_, rfl⟩
          have hgb1 : 0 ≤ giveZ a c x ∧ giveZ a c x ≤ 1000 := by unfold giveZ; omega
          have hgb2 : 0 ≤ giveZ a' c' y ∧ giveZ a' c' y ≤ 1000 := by unfold giveZ; omega
          rw [hG1] at hc1 hgb1 hoff
          rw [hG2] at hc2 hgb2 hoff
          have HC1 := Lib.hid hc1
          have HC2 := Lib.hid hc2
          have HOFF := Lib.hid hoff
          have HMIN := Lib.hid hmin
          clear hc1 hc2 hoff hmin hG1 hG2 hg1 hg2
          go_region_held3 (fun w' => (w'.cell? ⟨w1.heap.size, 0, none⟩ = some (.int .i64 a) ∧ w'.cell? ⟨w1.heap.size, 1, none⟩ = some (.int .i64 c) ∧ w'.cell? ⟨w1.heap.size, 2, none⟩ = some (.int .i64 s) ∧ w'.cell? ⟨w1.heap.size, 3, none⟩ = some (.int .i64 m)) ∧ (w'.cell? ⟨w7.heap.size, 0, none⟩ = some (.int .i64 a') ∧ w'.cell? ⟨w7.heap.size, 1, none⟩ = some (.int .i64 c') ∧ w'.cell? ⟨w7.heap.size, 2, none⟩ = some (.int .i64 s') ∧ w'.cell? ⟨w7.heap.size, 3, none⟩ = some (.int .i64 m')) ∧ Below w9.heap.size w9 w') (first | exact ⟨⟨cB 0, cB 1, cB 2, cB 3⟩, ⟨cD 0, cD 1, cD 2, cD 3⟩, (Below.refl _ _).drew⟩ | exact keep8b (by assumption) hb | go_keep)
            (first | (go_at_call 48; (with_reducible refine (HC1.out _).mono ?_); rintro e w' ⟨rfl, hb⟩) | (go_at_call 48; (with_reducible refine (HC2.out _).mono ?_); rintro e w' ⟨rfl, hb⟩) | (go_at_call 47; (try rw [IntWalk.i64_in (G1 - G2) (by omega)]); refine (a2Size_any (G1 - G2) _ (by omega) (by omega)).mono ?_; rintro e w' ⟨rfl, rfl⟩))
          have hbb : Below w9.heap.size w9 w' := (‹_ ∧ _ ∧ Below w9.heap.size w9 w'›).2.2
          have HB10 := Lib.hid hbb
          rw [HOFF.out]
          clear hbb HC1 HC2 cB cD
          go_wp2
          go_loopw [24] (fun vi wr => ∃ i : Int, 0 ≤ i ∧ i ≤ 5 ∧ vi = .int .i64 i ∧ Hid (Below w9.heap.size w9 wr)) (fun vi _ => (5 - intOf vi).toNat)
          case atStart => exact ⟨0, by omega, by omega, rfl, HB10⟩
          case round =>
            clear HB10
            obtain ⟨i, i0, i5, rfl, HB⟩ := hrel
            obtain ⟨wi, rfl⟩ : ∃ w', w' = wr := ⟨_, rfl⟩
            have hsi := HB.out.size
            by_cases hil : i < 5
            · have cB := (B9.out.below HB.out).cell
              have hgi := give_bd hlok.a0 hlok.a1 hlok.c0 hlok.c1 i0 (show i ≤ 4 by omega)
              have hci := fun W => a2Give_any a c s m i W hlok i0 (show i ≤ 4 by omega)
              have hgbi : 0 ≤ giveZ a c i ∧ giveZ a c i ≤ 1000 := by unfold giveZ; omega
              have hmini := fun k h2 h3 => HMIN.out i k i0 hil h2 h3
              have hnf := hbno i i0 hil
              unfold fineD stretchZ at hnf
              obtain ⟨GI, hGI⟩ : ∃ GI, giveZ a c i = GI := ⟨_, rfl⟩
              rw [hGI] at hci hgbi hnf
              have hsb := mul_bd (x := GI) (y := F) (p := 1000) (q := 200) hgbi.1 hgbi.2 (by omega) (by omega)
              have HCI := Lib.hid hci
              have HMI := Lib.hid hmini
              have HGI := Lib.hid hGI
              clear hgi hci hmini hGI
              go_wp2_with fail
              refine (HCI.out _).mono ?_
              rintro e wg ⟨rfl, hbg⟩
              have HBG := Lib.hid (HB.out.trans (hbg.mono hsi))
              have cB2 := (B9.out.below HBG.out).cell
              clear hbg
              by_cases hA : 40 * lo ≤ GI * F
              · have hB' : ¬ GI * F ≤ 40 * hi := fun hh => hnf ⟨hA, hh⟩
                have d1 : decide (GI * F ≥ 40 * lo) = true := by simpa using hA
                have d2 : decide (GI * F ≤ 40 * hi) = false := by simpa using hB'
                clear hnf hA hB'
                go_wp2
                go_loopw [27] (fun vk wr => ∃ k : Int, 0 ≤ k ∧ k ≤ 5 ∧ vk = .int .i64 k ∧ Hid (Below w9.heap.size w9 wr)) (fun vk _ => (5 - intOf vk).toNat)
                case atStart => exact ⟨0, by omega, by omega, rfl, HBG⟩
                case round =>
                  clear HBG cB2 cB
                  obtain ⟨k, k0, k5, rfl, HB⟩ := hrel
                  have hsk := HB.out.size
                  by_cases hkl : k < 5
                  · have cB := (B9.out.below HB.out).cell
                    have cD := (D9.out.below HB.out).cell
                    have hgk := give_bd hlok2.a0 hlok2.a1 hlok2.c0 hlok2.c1 k0 (show k ≤ 4 by omega)
                    have hc2 := fun W => a2Give_any a' c' s' m' k W hlok2 k0 (show k ≤ 4 by omega)
                    have hgbk : 0 ≤ giveZ a' c' k ∧ giveZ a' c' k ≤ 1000 := by unfold giveZ; omega
                    have hmk := HMI.out k k0 hkl
                    obtain ⟨G2, hG2⟩ : ∃ G2, giveZ a' c' k = G2 := ⟨_, rfl⟩
                    obtain ⟨G1, rfl⟩ : ∃ G1, G1 = GI := ⟨_, rfl⟩
                    rw [HGI.out, hG2] at hmk
                    rw [hG2] at hc2 hgbk
                    have hc1 := HCI.out
                    have hgbi2 := hgbi
                    have HC1 := Lib.hid hc1
                    have HC2 := Lib.hid hc2
                    have hdk : decide (absZ (G1 - G2) < off) = false := by simpa using hmk
                    clear hc1 hc2 hmk hgk hG2
                    go_wp2
                    go_region_held3 (fun w' => (w'.cell? ⟨w1.heap.size, 0, none⟩ = some (.int .i64 a) ∧ w'.cell? ⟨w1.heap.size, 1, none⟩ = some (.int .i64 c) ∧ w'.cell? ⟨w1.heap.size, 2, none⟩ = some (.int .i64 s) ∧ w'.cell? ⟨w1.heap.size, 3, none⟩ = some (.int .i64 m)) ∧ (w'.cell? ⟨w7.heap.size, 0, none⟩ = some (.int .i64 a') ∧ w'.cell? ⟨w7.heap.size, 1, none⟩ = some (.int .i64 c') ∧ w'.cell? ⟨w7.heap.size, 2, none⟩ = some (.int .i64 s') ∧ w'.cell? ⟨w7.heap.size, 3, none⟩ = some (.int .i64 m')) ∧ Below wr.heap.size wr w') (first | exact ⟨⟨cB 0, cB 1, cB 2, cB 3⟩, ⟨cD 0, cD 1, cD 2, cD 3⟩, (Below.refl _ _).drew⟩ | exact keep8b (by assumption) hb | go_keep)
                      (first | (go_at_call 48; (with_reducible refine (HC1.out _).mono ?_); rintro e w' ⟨rfl, hb⟩) | (go_at_call 48; (with_reducible refine (HC2.out _).mono ?_); rintro e w' ⟨rfl, hb⟩) | (go_at_call 47; (try rw [IntWalk.i64_in (G1 - G2) (by omega)]); refine (a2Size_any (G1 - G2) _ (by omega) (by omega)).mono ?_; rintro e w' ⟨rfl, rfl⟩))
                    have hbb : Below wr.heap.size wr w' := (‹_ ∧ _ ∧ Below wr.heap.size wr w'›).2.2
                    have HB6 := Lib.hid (HB.out.trans (hbb.mono hsk))
                    clear hbb
                    go_wp2
                    go_roundw
                    case rel => exact ⟨k + 1, by omega, by omega, by go_num, HB6⟩
                    case measure => simp [intOf]; omega
                  · have hk5 : k = 5 := by omega
                    subst hk5
                    go_wp2
                    go_roundw
                    case rel => exact ⟨i + 1, by omega, by omega, by go_num, HB⟩
                    case measure => simp [intOf]; omega
              · have d1 : decide (GI * F ≥ 40 * lo) = false := by simpa using hA
                clear hnf hA
                go_wp2
                go_loopw [27] (fun vk wr => ∃ k : Int, 0 ≤ k ∧ k ≤ 5 ∧ vk = .int .i64 k ∧ Hid (Below w9.heap.size w9 wr)) (fun vk _ => (5 - intOf vk).toNat)
                case atStart => exact ⟨0, by omega, by omega, rfl, HBG⟩
                case round =>
                  clear HBG cB2 cB
                  obtain ⟨k, k0, k5, rfl, HB⟩ := hrel
                  have hsk := HB.out.size
                  by_cases hkl : k < 5
                  · have cB := (B9.out.below HB.out).cell
                    have cD := (D9.out.below HB.out).cell
                    have hgk := give_bd hlok2.a0 hlok2.a1 hlok2.c0 hlok2.c1 k0 (show k ≤ 4 by omega)
                    have hc2 := fun W => a2Give_any a' c' s' m' k W hlok2 k0 (show k ≤ 4 by omega)
                    have hgbk : 0 ≤ giveZ a' c' k ∧ giveZ a' c' k ≤ 1000 := by unfold giveZ; omega
                    have hmk := HMI.out k k0 hkl
                    obtain ⟨G2, hG2⟩ : ∃ G2, giveZ a' c' k = G2 := ⟨_, rfl⟩
                    obtain ⟨G1, rfl⟩ : ∃ G1, G1 = GI := ⟨_, rfl⟩
                    rw [HGI.out, hG2] at hmk
                    rw [hG2] at hc2 hgbk
                    have hc1 := HCI.out
                    have hgbi2 := hgbi
                    have HC1 := Lib.hid hc1
                    have HC2 := Lib.hid hc2
                    have hdk : decide (absZ (G1 - G2) < off) = false := by simpa using hmk
                    clear hc1 hc2 hmk hgk hG2
                    go_wp2
                    go_region_held3 (fun w' => (w'.cell? ⟨w1.heap.size, 0, none⟩ = some (.int .i64 a) ∧ w'.cell? ⟨w1.heap.size, 1, none⟩ = some (.int .i64 c) ∧ w'.cell? ⟨w1.heap.size, 2, none⟩ = some (.int .i64 s) ∧ w'.cell? ⟨w1.heap.size, 3, none⟩ = some (.int .i64 m)) ∧ (w'.cell? ⟨w7.heap.size, 0, none⟩ = some (.int .i64 a') ∧ w'.cell? ⟨w7.heap.size, 1, none⟩ = some (.int .i64 c') ∧ w'.cell? ⟨w7.heap.size, 2, none⟩ = some (.int .i64 s') ∧ w'.cell? ⟨w7.heap.size, 3, none⟩ = some (.int .i64 m')) ∧ Below wr.heap.size wr w') (first | exact ⟨⟨cB 0, cB 1, cB 2, cB 3⟩, ⟨cD 0, cD 1, cD 2, cD 3⟩, (Below.refl _ _).drew⟩ | exact keep8b (by assumption) hb | go_keep)
                      (first | (go_at_call 48; (with_reducible refine (HC1.out _).mono ?_); rintro e w' ⟨rfl, hb⟩) | (go_at_call 48; (with_reducible refine (HC2.out _).mono ?_); rintro e w' ⟨rfl, hb⟩) | (go_at_call 47; (try rw [IntWalk.i64_in (G1 - G2) (by omega)]); refine (a2Size_any (G1 - G2) _ (by omega) (by omega)).mono ?_; rintro e w' ⟨rfl, rfl⟩))
                    have hbb : Below wr.heap.size wr w' := (‹_ ∧ _ ∧ Below wr.heap.size wr w'›).2.2
                    have HB6 := Lib.hid (HB.out.trans (hbb.mono hsk))
                    clear hbb
                    go_wp2
                    go_roundw
                    case rel => exact ⟨k + 1, by omega, by omega, by go_num, HB6⟩
                    case measure => simp [intOf]; omega
                  · have hk5 : k = 5 := by omega
                    subst hk5
                    go_wp2
                    go_roundw
                    case rel => exact ⟨i + 1, by omega, by omega, by go_num, HB⟩
                    case measure => simp [intOf]; omega
            · have hi5 : i = 5 := by omega
              subst hi5
              go_wp2
              go_ret
              exact ⟨rfl, b9.out.trans (HB.out.mono b9.out.size)⟩
        · simp only at h3 bb0 bb1 hbf hbest
          subst h3
          go_wp2
          have cB := B9.out.cell
          have cD := D9.out.cell
          have hg1 := give_bd hlok.a0 hlok.a1 hlok.c0 hlok.c1 x0 x1
          have hg2 := give_bd hlok2.a0 hlok2.a1 hlok2.c0 hlok2.c1 y0 y1
          have hc1 := fun W => a2Give_any a c s m x W hlok x0 x1
          have hc2 := fun W => a2Give_any a' c' s' m' y W hlok2 y0 y1
          obtain ⟨off, hoff⟩ : ∃ off, absZ (giveZ a c x - giveZ a' c' y) = off := ⟨_, rfl⟩
          rw [hoff] at hmin
          obtain ⟨G1, hG1⟩ : ∃ G1, giveZ a c x = G1 := ⟨_, rfl⟩
          obtain ⟨G2, hG2⟩ : ∃ G2, giveZ a' c' y = G2 := ⟨_, rfl⟩
          have hgb1 : 0 ≤ giveZ a c x ∧ giveZ a c x ≤ 1000 := by unfold giveZ; omega
          have hgb2 : 0 ≤ giveZ a' c' y ∧ giveZ a' c' y ≤ 1000 := by unfold giveZ; omega
          rw [hG1] at hc1 hgb1 hoff
          rw [hG2] at hc2 hgb2 hoff
          have HC1 := Lib.hid hc1
          have HC2 := Lib.hid hc2
          have HOFF := Lib.hid hoff
          have HMIN := Lib.hid hmin
          clear hc1 hc2 hoff hmin hG1 hG2 hg1 hg2
          go_region_held3 (fun w' => (w'.cell? ⟨w1.heap.size, 0, none⟩ = some (.int .i64 a) ∧ w'.cell? ⟨w1.heap.size, 1, none⟩ = some (.int .i64 c) ∧ w'.cell? ⟨w1.heap.size, 2, none⟩ = some (.int .i64 s) ∧ w'.cell? ⟨w1.heap.size, 3, none⟩ = some (.int .i64 m)) ∧ (w'.cell? ⟨w7.heap.size, 0, none⟩ = some (.int .i64 a') ∧ w'.cell? ⟨w7.heap.size, 1, none⟩ = some (.int .i64 c') ∧ w'.cell? ⟨w7.heap.size, 2, none⟩ = some (.int .i64 s') ∧ w'.cell? ⟨w7.heap.size, 3, none⟩ = some (.int .i64 m')) ∧ Below w9.heap.size w9 w') (first | exact ⟨⟨cB 0, cB 1, cB 2, cB 3⟩, ⟨cD 0, cD 1, cD 2, cD 3⟩, (Below.refl _ _).drew⟩ | exact keep8b (by assumption) hb | go_keep)
            (first | (go_at_call 48; (with_reducible refine (HC1.out _).mono ?_); rintro e w' ⟨rfl, hb⟩) | (go_at_call 48; (with_reducible refine (HC2.out _).mono ?_); rintro e w' ⟨rfl, hb⟩) | (go_at_call 47; (try rw [IntWalk.i64_in (G1 - G2) (by omega)]); refine (a2Size_any (G1 - G2) _ (by omega) (by omega)).mono ?_; rintro e w' ⟨rfl, rfl⟩))
          have hbb : Below w9.heap.size w9 w' := (‹_ ∧ _ ∧ Below w9.heap.size w9 w'›).2.2
          have HB10 := Lib.hid hbb
          rw [HOFF.out]
          clear hbb HC1 HC2 cB cD
          go_wp2
          go_loopw [24] (fun vi wr => ∃ i : Int, 0 ≤ i ∧ i ≤ 5 ∧ vi = .int .i64 i ∧ Hid (Below w9.heap.size w9 wr)) (fun vi _ => (5 - intOf vi).toNat)
          case atStart => exact ⟨0, by omega, by omega, rfl, HB10⟩
          case round =>
            clear HB10
            obtain ⟨i, i0, i5, rfl, HB⟩ := hrel
            obtain ⟨wi, rfl⟩ : ∃ w', w' = wr := ⟨_, rfl⟩
            have hsi := HB.out.size
            by_cases hil : i < 5
            · have cB := (B9.out.below HB.out).cell
              have hgi := give_bd hlok.a0 hlok.a1 hlok.c0 hlok.c1 i0 (show i ≤ 4 by omega)
              have hci := fun W => a2Give_any a c s m i W hlok i0 (show i ≤ 4 by omega)
              have hgbi : 0 ≤ giveZ a c i ∧ giveZ a c i ≤ 1000 := by unfold giveZ; omega
              have hmini := fun k h2 h3 => HMIN.out i k i0 hil h2 h3
              have hnf := Classical.em (fineD a c F lo hi i)
              unfold fineD stretchZ at hnf
              have hbe := hbest i i0 hil
              unfold fineD stretchZ at hbe
              have hbf2 := hbf
              unfold fineD stretchZ at hbf2
              have hgbb := give_bd hlok.a0 hlok.a1 hlok.c0 hlok.c1 bb0 (show bb ≤ 4 by omega)
              have hcb := fun W => a2Give_any a c s m bb W hlok bb0 (show bb ≤ 4 by omega)
              have hgbB : 0 ≤ giveZ a c bb ∧ giveZ a c bb ≤ 1000 := by unfold giveZ; omega
              have hib : i = bb → giveZ a c i = giveZ a c bb := fun h => by rw [h]
              obtain ⟨GB, hGB⟩ : ∃ GB, giveZ a c bb = GB := ⟨_, rfl⟩
              rw [hGB] at hbe hbf2 hcb hgbB hib
              have HCB := Lib.hid hcb
              clear hcb hGB hgbb
              obtain ⟨GI, hGI⟩ : ∃ GI, giveZ a c i = GI := ⟨_, rfl⟩
              rw [hGI] at hci hgbi hnf hbe hib
              have hsB := mul_bd (x := GB) (y := F) (p := 1000) (q := 200) hgbB.1 hgbB.2 (by omega) (by omega)
              have hsb := mul_bd (x := GI) (y := F) (p := 1000) (q := 200) hgbi.1 hgbi.2 (by omega) (by omega)
              have HCI := Lib.hid hci
              have HMI := Lib.hid hmini
              have HGI := Lib.hid hGI
              clear hgi hci hmini hGI
              rcases hnf with hfi | hnf
              · go_wp2_with fail
                refine (HCI.out _).mono ?_
                rintro e wg ⟨rfl, hbg⟩
                have HBG := Lib.hid (HB.out.trans (hbg.mono hsi))
                have cB2 := (B9.out.below HBG.out).cell
                clear hbg
                have d1 : decide (GI * F ≥ 40 * lo) = true := by simpa using hfi.1
                have d2 : decide (GI * F ≤ 40 * hi) = true := by simpa using hfi.2
                obtain ⟨q1, q2⟩ := hbe hfi
                have d3 : decide (GI * F < GB * F) = false := by simpa using q1
                by_cases hE : GI * F = GB * F
                · have d4 : decide (i < bb) = false := by simpa using q2 hE
                  have d5 : (GI * F == GB * F) = true := by simpa using hE
                  go_wp2_with fail
                  refine (HCB.out _).mono ?_
                  rintro e wh ⟨rfl, hbh⟩
                  have HBH := Lib.hid (HBG.out.trans (hbh.mono HBG.out.size))
                  have cB3 := (B9.out.below HBH.out).cell
                  clear hbh cB2
                  go_wp2_with fail
                  refine (HCB.out _).mono ?_
                  rintro e wj ⟨rfl, hbj⟩
                  have HBJ := Lib.hid (HBH.out.trans (hbj.mono HBH.out.size))
                  clear hbj cB3 hbe hbf2 hib
                  cases hq : (i == bb) with
                  | true =>
                    go_wp2
                    go_loopw [27] (fun vk wr => ∃ k : Int, 0 ≤ k ∧ k ≤ 5 ∧ vk = .int .i64 k ∧ Hid (Below w9.heap.size w9 wr)) (fun vk _ => (5 - intOf vk).toNat)
                    case atStart => exact ⟨0, by omega, by omega, rfl, HBJ⟩
                    case round =>
                      clear HBJ HBH HBG hfi q1 q2 d1 d2 d3 d5 hE cB
                      obtain ⟨k, k0, k5, rfl, HB⟩ := hrel
                      have hsk := HB.out.size
                      by_cases hkl : k < 5
                      · have cB := (B9.out.below HB.out).cell
                        have cD := (D9.out.below HB.out).cell
                        have hgk := give_bd hlok2.a0 hlok2.a1 hlok2.c0 hlok2.c1 k0 (show k ≤ 4 by omega)
                        have hc2 := fun W => a2Give_any a' c' s' m' k W hlok2 k0 (show k ≤ 4 by omega)
                        have hgbk : 0 ≤ giveZ a' c' k ∧ giveZ a' c' k ≤ 1000 := by unfold giveZ; omega
                        have hmk := HMI.out k k0 hkl
                        obtain ⟨G2, hG2⟩ : ∃ G2, giveZ a' c' k = G2 := ⟨_, rfl⟩
                        obtain ⟨G1, rfl⟩ : ∃ G1, G1 = GI := ⟨_, rfl⟩
                        rw [HGI.out, hG2] at hmk
                        rw [hG2] at hc2 hgbk
                        have hc1 := HCI.out
                        have hgbi2 := hgbi
                        have HC1 := Lib.hid hc1
                        have HC2 := Lib.hid hc2
                        have hdk : decide (absZ (G1 - G2) < off) = false := by simpa using hmk
                        clear hc1 hc2 hmk hgk hG2
                        go_wp2
                        go_region_held3 (fun w' => (w'.cell? ⟨w1.heap.size, 0, none⟩ = some (.int .i64 a) ∧ w'.cell? ⟨w1.heap.size, 1, none⟩ = some (.int .i64 c) ∧ w'.cell? ⟨w1.heap.size, 2, none⟩ = some (.int .i64 s) ∧ w'.cell? ⟨w1.heap.size, 3, none⟩ = some (.int .i64 m)) ∧ (w'.cell? ⟨w7.heap.size, 0, none⟩ = some (.int .i64 a') ∧ w'.cell? ⟨w7.heap.size, 1, none⟩ = some (.int .i64 c') ∧ w'.cell? ⟨w7.heap.size, 2, none⟩ = some (.int .i64 s') ∧ w'.cell? ⟨w7.heap.size, 3, none⟩ = some (.int .i64 m')) ∧ Below wr.heap.size wr w') (first | exact ⟨⟨cB 0, cB 1, cB 2, cB 3⟩, ⟨cD 0, cD 1, cD 2, cD 3⟩, (Below.refl _ _).drew⟩ | exact keep8b (by assumption) hb | go_keep)
                          (first | (go_at_call 48; (with_reducible refine (HC1.out _).mono ?_); rintro e w' ⟨rfl, hb⟩) | (go_at_call 48; (with_reducible refine (HC2.out _).mono ?_); rintro e w' ⟨rfl, hb⟩) | (go_at_call 47; (try rw [IntWalk.i64_in (G1 - G2) (by omega)]); refine (a2Size_any (G1 - G2) _ (by omega) (by omega)).mono ?_; rintro e w' ⟨rfl, rfl⟩))
                        have hbb : Below wr.heap.size wr w' := (‹_ ∧ _ ∧ Below wr.heap.size wr w'›).2.2
                        have HB6 := Lib.hid (HB.out.trans (hbb.mono hsk))
                        clear hbb
                        go_wp2
                        go_roundw
                        case rel => exact ⟨k + 1, by omega, by omega, by go_num, HB6⟩
                        case measure => simp [intOf]; omega
                      · have hk5 : k = 5 := by omega
                        subst hk5
                        go_wp2
                        go_roundw
                        case rel => exact ⟨i + 1, by omega, by omega, by go_num, HB⟩
                        case measure => simp [intOf]; omega
                  | false =>
                    go_wp2
                    go_loopw [27] (fun vk wr => ∃ k : Int, 0 ≤ k ∧ k ≤ 5 ∧ vk = .int .i64 k ∧ Hid (Below w9.heap.size w9 wr)) (fun vk _ => (5 - intOf vk).toNat)
                    case atStart => exact ⟨0, by omega, by omega, rfl, HBJ⟩
                    case round =>
                      clear HBJ HBH HBG hfi q1 q2 d1 d2 d3 d5 hE cB
                      obtain ⟨k, k0, k5, rfl, HB⟩ := hrel
                      have hsk := HB.out.size
                      by_cases hkl : k < 5
                      · have cB := (B9.out.below HB.out).cell
                        have cD := (D9.out.below HB.out).cell
                        have hgk := give_bd hlok2.a0 hlok2.a1 hlok2.c0 hlok2.c1 k0 (show k ≤ 4 by omega)
                        have hc2 := fun W => a2Give_any a' c' s' m' k W hlok2 k0 (show k ≤ 4 by omega)
                        have hgbk : 0 ≤ giveZ a' c' k ∧ giveZ a' c' k ≤ 1000 := by unfold giveZ; omega
                        have hmk := HMI.out k k0 hkl
                        obtain ⟨G2, hG2⟩ : ∃ G2, giveZ a' c' k = G2 := ⟨_, rfl⟩
                        obtain ⟨G1, rfl⟩ : ∃ G1, G1 = GI := ⟨_, rfl⟩
                        rw [HGI.out, hG2] at hmk
                        rw [hG2] at hc2 hgbk
                        have hc1 := HCI.out
                        have hgbi2 := hgbi
                        have HC1 := Lib.hid hc1
                        have HC2 := Lib.hid hc2
                        have hdk : decide (absZ (G1 - G2) < off) = false := by simpa using hmk
                        clear hc1 hc2 hmk hgk hG2
                        go_wp2
                        go_region_held3 (fun w' => (w'.cell? ⟨w1.heap.size, 0, none⟩ = some (.int .i64 a) ∧ w'.cell? ⟨w1.heap.size, 1, none⟩ = some (.int .i64 c) ∧ w'.cell? ⟨w1.heap.size, 2, none⟩ = some (.int .i64 s) ∧ w'.cell? ⟨w1.heap.size, 3, none⟩ = some (.int .i64 m)) ∧ (w'.cell? ⟨w7.heap.size, 0, none⟩ = some (.int .i64 a') ∧ w'.cell? ⟨w7.heap.size, 1, none⟩ = some (.int .i64 c') ∧ w'.cell? ⟨w7.heap.size, 2, none⟩ = some (.int .i64 s') ∧ w'.cell? ⟨w7.heap.size, 3, none⟩ = some (.int .i64 m')) ∧ Below wr.heap.size wr w') (first | exact ⟨⟨cB 0, cB 1, cB 2, cB 3⟩, ⟨cD 0, cD 1, cD 2, cD 3⟩, (Below.refl _ _).drew⟩ | exact keep8b (by assumption) hb | go_keep)
                          (first | (go_at_call 48; (with_reducible refine (HC1.out _).mono ?_); rintro e w' ⟨rfl, hb⟩) | (go_at_call 48; (with_reducible refine (HC2.out _).mono ?_); rintro e w' ⟨rfl, hb⟩) | (go_at_call 47; (try rw [IntWalk.i64_in (G1 - G2) (by omega)]); refine (a2Size_any (G1 - G2) _ (by omega) (by omega)).mono ?_; rintro e w' ⟨rfl, rfl⟩))
                        have hbb : Below wr.heap.size wr w' := (‹_ ∧ _ ∧ Below wr.heap.size wr w'›).2.2
                        have HB6 := Lib.hid (HB.out.trans (hbb.mono hsk))
                        clear hbb
                        go_wp2
                        go_roundw
                        case rel => exact ⟨k + 1, by omega, by omega, by go_num, HB6⟩
                        case measure => simp [intOf]; omega
                      · have hk5 : k = 5 := by omega
                        subst hk5
                        go_wp2
                        go_roundw
                        case rel => exact ⟨i + 1, by omega, by omega, by go_num, HB⟩
                        case measure => simp [intOf]; omega
                · have d5 : (GI * F == GB * F) = false := by simpa using hE
                  go_wp2_with fail
                  refine (HCB.out _).mono ?_
                  rintro e wh ⟨rfl, hbh⟩
                  have HBH := Lib.hid (HBG.out.trans (hbh.mono HBG.out.size))
                  have cB3 := (B9.out.below HBH.out).cell
                  clear hbh cB2
                  go_wp2_with fail
                  refine (HCB.out _).mono ?_
                  rintro e wj ⟨rfl, hbj⟩
                  have HBJ := Lib.hid (HBH.out.trans (hbj.mono HBH.out.size))
                  clear hbj cB3 hbe hbf2 hib
                  cases hq : (i == bb) with
                  | true =>
                    go_wp2
                    go_loopw [27] (fun vk wr => ∃ k : Int, 0 ≤ k ∧ k ≤ 5 ∧ vk = .int .i64 k ∧ Hid (Below w9.heap.size w9 wr)) (fun vk _ => (5 - intOf vk).toNat)
                    case atStart => exact ⟨0, by omega, by omega, rfl, HBJ⟩
                    case round =>
                      clear HBJ HBH HBG hfi q1 q2 d1 d2 d3 d5 hE cB
                      obtain ⟨k, k0, k5, rfl, HB⟩ := hrel
                      have hsk := HB.out.size
                      by_cases hkl : k < 5
                      · have cB := (B9.out.below HB.out).cell
                        have cD := (D9.out.below HB.out).cell
                        have hgk := give_bd hlok2.a0 hlok2.a1 hlok2.c0 hlok2.c1 k0 (show k ≤ 4 by omega)
                        have hc2 := fun W => a2Give_any a' c' s' m' k W hlok2 k0 (show k ≤ 4 by omega)
                        have hgbk : 0 ≤ giveZ a' c' k ∧ giveZ a' c' k ≤ 1000 := by unfold giveZ; omega
                        have hmk := HMI.out k k0 hkl
                        obtain ⟨G2, hG2⟩ : ∃ G2, giveZ a' c' k = G2 := ⟨_, rfl⟩
                        obtain ⟨G1, rfl⟩ : ∃ G1, G1 = GI := ⟨_, rfl⟩
                        rw [HGI.out, hG2] at hmk
                        rw [hG2] at hc2 hgbk
                        have hc1 := HCI.out
                        have hgbi2 := hgbi
                        have HC1 := Lib.hid hc1
                        have HC2 := Lib.hid hc2
                        have hdk : decide (absZ (G1 - G2) < off) = false := by simpa using hmk
                        clear hc1 hc2 hmk hgk hG2
                        go_wp2
                        go_region_held3 (fun w' => (w'.cell? ⟨w1.heap.size, 0, none⟩ = some (.int .i64 a) ∧ w'.cell? ⟨w1.heap.size, 1, none⟩ = some (.int .i64 c) ∧ w'.cell? ⟨w1.heap.size, 2, none⟩ = some (.int .i64 s) ∧ w'.cell? ⟨w1.heap.size, 3, none⟩ = some (.int .i64 m)) ∧ (w'.cell? ⟨w7.heap.size, 0, none⟩ = some (.int .i64 a') ∧ w'.cell? ⟨w7.heap.size, 1, none⟩ = some (.int .i64 c') ∧ w'.cell? ⟨w7.heap.size, 2, none⟩ = some (.int .i64 s') ∧ w'.cell? ⟨w7.heap.size, 3, none⟩ = some (.int .i64 m')) ∧ Below wr.heap.size wr w') (first | exact ⟨⟨cB 0, cB 1, cB 2, cB 3⟩, ⟨cD 0, cD 1, cD 2, cD 3⟩, (Below.refl _ _).drew⟩ | exact keep8b (by assumption) hb | go_keep)
                          (first | (go_at_call 48; (with_reducible refine (HC1.out _).mono ?_); rintro e w' ⟨rfl, hb⟩) | (go_at_call 48; (with_reducible refine (HC2.out _).mono ?_); rintro e w' ⟨rfl, hb⟩) | (go_at_call 47; (try rw [IntWalk.i64_in (G1 - G2) (by omega)]); refine (a2Size_any (G1 - G2) _ (by omega) (by omega)).mono ?_; rintro e w' ⟨rfl, rfl⟩))
                        have hbb : Below wr.heap.size wr w' := (‹_ ∧ _ ∧ Below wr.heap.size wr w'›).2.2
                        have HB6 := Lib.hid (HB.out.trans (hbb.mono hsk))
                        clear hbb
                        go_wp2
                        go_roundw
                        case rel => exact ⟨k + 1, by omega, by omega, by go_num, HB6⟩
                        case measure => simp [intOf]; omega
                      · have hk5 : k = 5 := by omega
                        subst hk5
                        go_wp2
                        go_roundw
                        case rel => exact ⟨i + 1, by omega, by omega, by go_num, HB⟩
                        case measure => simp [intOf]; omega
                  | false =>
                    go_wp2
                    go_loopw [27] (fun vk wr => ∃ k : Int, 0 ≤ k ∧ k ≤ 5 ∧ vk = .int .i64 k ∧ Hid (Below w9.heap.size w9 wr)) (fun vk _ => (5 - intOf vk).toNat)
                    case atStart => exact ⟨0, by omega, by omega, rfl, HBJ⟩
                    case round =>
                      clear HBJ HBH HBG hfi q1 q2 d1 d2 d3 d5 hE cB
                      obtain ⟨k, k0, k5, rfl, HB⟩ := hrel
                      have hsk := HB.out.size
                      by_cases hkl : k < 5
                      · have cB := (B9.out.below HB.out).cell
                        have cD := (D9.out.below HB.out).cell
                        have hgk := give_bd hlok2.a0 hlok2.a1 hlok2.c0 hlok2.c1 k0 (show k ≤ 4 by omega)
                        have hc2 := fun W => a2Give_any a' c' s' m' k W hlok2 k0 (show k ≤ 4 by omega)
                        have hgbk : 0 ≤ giveZ a' c' k ∧ giveZ a' c' k ≤ 1000 := by unfold giveZ; omega
                        have hmk := HMI.out k k0 hkl
                        obtain ⟨G2, hG2⟩ : ∃ G2, giveZ a' c' k = G2 := ⟨_, rfl⟩
                        obtain ⟨G1, rfl⟩ : ∃ G1, G1 = GI := ⟨_, rfl⟩
                        rw [HGI.out, hG2] at hmk
                        rw [hG2] at hc2 hgbk
                        have hc1 := HCI.out
                        have hgbi2 := hgbi
                        have HC1 := Lib.hid hc1
                        have HC2 := Lib.hid hc2
                        have hdk : decide (absZ (G1 - G2) < off) = false := by simpa using hmk
                        clear hc1 hc2 hmk hgk hG2
                        go_wp2
                        go_region_held3 (fun w' => (w'.cell? ⟨w1.heap.size, 0, none⟩ = some (.int .i64 a) ∧ w'.cell? ⟨w1.heap.size, 1, none⟩ = some (.int .i64 c) ∧ w'.cell? ⟨w1.heap.size, 2, none⟩ = some (.int .i64 s) ∧ w'.cell? ⟨w1.heap.size, 3, none⟩ = some (.int .i64 m)) ∧ (w'.cell? ⟨w7.heap.size, 0, none⟩ = some (.int .i64 a') ∧ w'.cell? ⟨w7.heap.size, 1, none⟩ = some (.int .i64 c') ∧ w'.cell? ⟨w7.heap.size, 2, none⟩ = some (.int .i64 s') ∧ w'.cell? ⟨w7.heap.size, 3, none⟩ = some (.int .i64 m')) ∧ Below wr.heap.size wr w') (first | exact ⟨⟨cB 0, cB 1, cB 2, cB 3⟩, ⟨cD 0, cD 1, cD 2, cD 3⟩, (Below.refl _ _).drew⟩ | exact keep8b (by assumption) hb | go_keep)
                          (first | (go_at_call 48; (with_reducible refine (HC1.out _).mono ?_); rintro e w' ⟨rfl, hb⟩) | (go_at_call 48; (with_reducible refine (HC2.out _).mono ?_); rintro e w' ⟨rfl, hb⟩) | (go_at_call 47; (try rw [IntWalk.i64_in (G1 - G2) (by omega)]); refine (a2Size_any (G1 - G2) _ (by omega) (by omega)).mono ?_; rintro e w' ⟨rfl, rfl⟩))
                        have hbb : Below wr.heap.size wr w' := (‹_ ∧ _ ∧ Below wr.heap.size wr w'›).2.2
                        have HB6 := Lib.hid (HB.out.trans (hbb.mono hsk))
                        clear hbb
                        go_wp2
                        go_roundw
                        case rel => exact ⟨k + 1, by omega, by omega, by go_num, HB6⟩
                        case measure => simp [intOf]; omega
                      · have hk5 : k = 5 := by omega
                        subst hk5
                        go_wp2
                        go_roundw
                        case rel => exact ⟨i + 1, by omega, by omega, by go_num, HB⟩
                        case measure => simp [intOf]; omega
              · have hne : i ≠ bb := fun h => hnf (by rw [hib h]; exact hbf2)
                have dne : (i == bb) = false := by simpa using hne
                go_wp2_with fail
                refine (HCI.out _).mono ?_
                rintro e wg ⟨rfl, hbg⟩
                have HBG := Lib.hid (HB.out.trans (hbg.mono hsi))
                have cB2 := (B9.out.below HBG.out).cell
                clear hbg
                by_cases hA : 40 * lo ≤ GI * F
                · have hB' : ¬ GI * F ≤ 40 * hi := fun hh => hnf ⟨hA, hh⟩
                  have d1 : decide (GI * F ≥ 40 * lo) = true := by simpa using hA
                  have d2 : decide (GI * F ≤ 40 * hi) = false := by simpa using hB'
                  clear hnf hA hB'
                  clear hbe hbf2 hib hne
                  go_wp2
                  go_loopw [27] (fun vk wr => ∃ k : Int, 0 ≤ k ∧ k ≤ 5 ∧ vk = .int .i64 k ∧ Hid (Below w9.heap.size w9 wr)) (fun vk _ => (5 - intOf vk).toNat)
                  case atStart => exact ⟨0, by omega, by omega, rfl, HBG⟩
                  case round =>
                    clear HBG cB2 cB
                    obtain ⟨k, k0, k5, rfl, HB⟩ := hrel
                    have hsk := HB.out.size
                    by_cases hkl : k < 5
                    · have cB := (B9.out.below HB.out).cell
                      have cD := (D9.out.below HB.out).cell
                      have hgk := give_bd hlok2.a0 hlok2.a1 hlok2.c0 hlok2.c1 k0 (show k ≤ 4 by omega)
                      have hc2 := fun W => a2Give_any a' c' s' m' k W hlok2 k0 (show k ≤ 4 by omega)
                      have hgbk : 0 ≤ giveZ a' c' k ∧ giveZ a' c' k ≤ 1000 := by unfold giveZ; omega
                      have hmk := HMI.out k k0 hkl
                      obtain ⟨G2, hG2⟩ : ∃ G2, giveZ a' c' k = G2 := ⟨_, rfl⟩
                      obtain ⟨G1, rfl⟩ : ∃ G1, G1 = GI := ⟨_, rfl⟩
                      rw [HGI.out, hG2] at hmk
                      rw [hG2] at hc2 hgbk
                      have hc1 := HCI.out
                      have hgbi2 := hgbi
                      have HC1 := Lib.hid hc1
                      have HC2 := Lib.hid hc2
                      have hdk : decide (absZ (G1 - G2) < off) = false := by simpa using hmk
                      clear hc1 hc2 hmk hgk hG2
                      go_wp2
                      go_region_held3 (fun w' => (w'.cell? ⟨w1.heap.size, 0, none⟩ = some (.int .i64 a) ∧ w'.cell? ⟨w1.heap.size, 1, none⟩ = some (.int .i64 c) ∧ w'.cell? ⟨w1.heap.size, 2, none⟩ = some (.int .i64 s) ∧ w'.cell? ⟨w1.heap.size, 3, none⟩ = some (.int .i64 m)) ∧ (w'.cell? ⟨w7.heap.size, 0, none⟩ = some (.int .i64 a') ∧ w'.cell? ⟨w7.heap.size, 1, none⟩ = some (.int .i64 c') ∧ w'.cell? ⟨w7.heap.size, 2, none⟩ = some (.int .i64 s') ∧ w'.cell? ⟨w7.heap.size, 3, none⟩ = some (.int .i64 m')) ∧ Below wr.heap.size wr w') (first | exact ⟨⟨cB 0, cB 1, cB 2, cB 3⟩, ⟨cD 0, cD 1, cD 2, cD 3⟩, (Below.refl _ _).drew⟩ | exact keep8b (by assumption) hb | go_keep)
                        (first | (go_at_call 48; (with_reducible refine (HC1.out _).mono ?_); rintro e w' ⟨rfl, hb⟩) | (go_at_call 48; (with_reducible refine (HC2.out _).mono ?_); rintro e w' ⟨rfl, hb⟩) | (go_at_call 47; (try rw [IntWalk.i64_in (G1 - G2) (by omega)]); refine (a2Size_any (G1 - G2) _ (by omega) (by omega)).mono ?_; rintro e w' ⟨rfl, rfl⟩))
                      have hbb : Below wr.heap.size wr w' := (‹_ ∧ _ ∧ Below wr.heap.size wr w'›).2.2
                      have HB6 := Lib.hid (HB.out.trans (hbb.mono hsk))
                      clear hbb
                      go_wp2
                      go_roundw
                      case rel => exact ⟨k + 1, by omega, by omega, by go_num, HB6⟩
                      case measure => simp [intOf]; omega
                    · have hk5 : k = 5 := by omega
                      subst hk5
                      go_wp2
                      go_roundw
                      case rel => exact ⟨i + 1, by omega, by omega, by go_num, HB⟩
                      case measure => simp [intOf]; omega
                · have d1 : decide (GI * F ≥ 40 * lo) = false := by simpa using hA
                  clear hnf hA
                  clear hbe hbf2 hib hne
                  go_wp2
                  go_loopw [27] (fun vk wr => ∃ k : Int, 0 ≤ k ∧ k ≤ 5 ∧ vk = .int .i64 k ∧ Hid (Below w9.heap.size w9 wr)) (fun vk _ => (5 - intOf vk).toNat)
                  case atStart => exact ⟨0, by omega, by omega, rfl, HBG⟩
                  case round =>
                    clear HBG cB2 cB
                    obtain ⟨k, k0, k5, rfl, HB⟩ := hrel
                    have hsk := HB.out.size
                    by_cases hkl : k < 5
                    · have cB := (B9.out.below HB.out).cell
                      have cD := (D9.out.below HB.out).cell
                      have hgk := give_bd hlok2.a0 hlok2.a1 hlok2.c0 hlok2.c1 k0 (show k ≤ 4 by omega)
                      have hc2 := fun W => a2Give_any a' c' s' m' k W hlok2 k0 (show k ≤ 4 by omega)
                      have hgbk : 0 ≤ giveZ a' c' k ∧ giveZ a' c' k ≤ 1000 := by unfold giveZ; omega
                      have hmk := HMI.out k k0 hkl
                      obtain ⟨G2, hG2⟩ : ∃ G2, giveZ a' c' k = G2 := ⟨_, rfl⟩
                      obtain ⟨G1, rfl⟩ : ∃ G1, G1 = GI := ⟨_, rfl⟩
                      rw [HGI.out, hG2] at hmk
                      rw [hG2] at hc2 hgbk
                      have hc1 := HCI.out
                      have hgbi2 := hgbi
                      have HC1 := Lib.hid hc1
                      have HC2 := Lib.hid hc2
                      have hdk : decide (absZ (G1 - G2) < off) = false := by simpa using hmk
                      clear hc1 hc2 hmk hgk hG2
                      go_wp2
                      go_region_held3 (fun w' => (w'.cell? ⟨w1.heap.size, 0, none⟩ = some (.int .i64 a) ∧ w'.cell? ⟨w1.heap.size, 1, none⟩ = some (.int .i64 c) ∧ w'.cell? ⟨w1.heap.size, 2, none⟩ = some (.int .i64 s) ∧ w'.cell? ⟨w1.heap.size, 3, none⟩ = some (.int .i64 m)) ∧ (w'.cell? ⟨w7.heap.size, 0, none⟩ = some (.int .i64 a') ∧ w'.cell? ⟨w7.heap.size, 1, none⟩ = some (.int .i64 c') ∧ w'.cell? ⟨w7.heap.size, 2, none⟩ = some (.int .i64 s') ∧ w'.cell? ⟨w7.heap.size, 3, none⟩ = some (.int .i64 m')) ∧ Below wr.heap.size wr w') (first | exact ⟨⟨cB 0, cB 1, cB 2, cB 3⟩, ⟨cD 0, cD 1, cD 2, cD 3⟩, (Below.refl _ _).drew⟩ | exact keep8b (by assumption) hb | go_keep)
                        (first | (go_at_call 48; (with_reducible refine (HC1.out _).mono ?_); rintro e w' ⟨rfl, hb⟩) | (go_at_call 48; (with_reducible refine (HC2.out _).mono ?_); rintro e w' ⟨rfl, hb⟩) | (go_at_call 47; (try rw [IntWalk.i64_in (G1 - G2) (by omega)]); refine (a2Size_any (G1 - G2) _ (by omega) (by omega)).mono ?_; rintro e w' ⟨rfl, rfl⟩))
                      have hbb : Below wr.heap.size wr w' := (‹_ ∧ _ ∧ Below wr.heap.size wr w'›).2.2
                      have HB6 := Lib.hid (HB.out.trans (hbb.mono hsk))
                      clear hbb
                      go_wp2
                      go_roundw
                      case rel => exact ⟨k + 1, by omega, by omega, by go_num, HB6⟩
                      case measure => simp [intOf]; omega
                    · have hk5 : k = 5 := by omega
                      subst hk5
                      go_wp2
                      go_roundw
                      case rel => exact ⟨i + 1, by omega, by omega, by go_num, HB⟩
                      case measure => simp [intOf]; omega
            · have hi5 : i = 5 := by omega
              subst hi5
              go_wp2
              go_ret
              exact ⟨rfl, b9.out.trans (HB.out.mono b9.out.size)⟩
end Go.Proofs.Ytdkklkpegnblnaa
