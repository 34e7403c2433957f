/- The code of a hide, pieces and a plan: planCode of the program, l10Code of the reference. -/
import Derived.Test.YtiibhejjeijdaaaDoorMt
namespace Go.Proofs.YtiibhejjeijdaaaDoor
open Go.RowKit

/-- The code of a plan. -/
noncomputable def planC (rs : List ByteArray) (cs : List CutV) (pl : List Int) : Int :=
  if hidB rs = true ∧ cutsB cs = true then
    if pl.length = cs.length ∧ outB pl (-1) (((rs.length * colN rs : Nat) : Int) - 1) = false then 0 else 2
  else 1
theorem planC_h {rs : List ByteArray} {cs : List CutV} {pl : List Int} (h : hidB rs = false) : planC rs cs pl = 1 := by
  unfold planC; rw [if_neg (by simp [h])]
theorem planC_c {rs : List ByteArray} {cs : List CutV} {pl : List Int} (h : cutsB cs = false) : planC rs cs pl = 1 := by
  unfold planC; rw [if_neg (by simp [h])]
theorem planC_in {rs : List ByteArray} {cs : List CutV} {pl : List Int} (h1 : hidB rs = true) (h2 : cutsB cs = true) : planC rs cs pl = if pl.length = cs.length ∧ outB pl (-1) (((rs.length * colN rs : Nat) : Int) - 1) = false then 0 else 2 := by
  unfold planC; rw [if_pos ⟨h1, h2⟩]
/-- A plan whose code is 0. -/
structure PlanOk (rs : List ByteArray) (cs : List CutV) (pl : List Int) : Prop where
  hide : HOk rs
  cuts : CutsOk cs
  len : pl.length = cs.length
  bd : ∀ (k : Nat) (x : Int), pl[k]? = some x → -1 ≤ x ∧ x ≤ ((rs.length * colN rs : Nat) : Int) - 1
theorem outB_false {xs : List Int} {lo hi : Int} (h : outB xs lo hi = false) {k : Nat} {x : Int} (hx : xs[k]? = some x) : lo ≤ x ∧ x ≤ hi := by
  cases hc : inB x lo hi with
  | true => exact inB_true hc
  | false =>
    have : outB xs lo hi = true := List.any_eq_true.mpr ⟨x, List.mem_of_getElem? hx, by simp [hc]⟩
    rw [h] at this; cases this
theorem outB_mk {xs : List Int} {lo hi : Int} {k : Nat} {x : Int} (hx : xs[k]? = some x) (hc : inB x lo hi = false) : outB xs lo hi = true :=
  List.any_eq_true.mpr ⟨x, List.mem_of_getElem? hx, by simp [hc]⟩
theorem outB_all {xs : List Int} {lo hi : Int} (h : ∀ (k : Nat) (x : Int), xs[k]? = some x → inB x lo hi = true) : outB xs lo hi = false := by
  cases ho : outB xs lo hi with
  | false => rfl
  | true =>
    obtain ⟨x, hx, hc⟩ := List.any_eq_true.mp ho
    obtain ⟨k, hk⟩ := List.getElem?_of_mem hx
    rw [h k x hk] at hc
    cases hc
theorem planC_ok {rs : List ByteArray} {cs : List CutV} {pl : List Int} (h : planC rs cs pl = 0) : PlanOk rs cs pl := by
  cases h1 : hidB rs with
  | false => rw [planC_h h1] at h; cases h
  | true =>
    cases h2 : cutsB cs with
    | false => rw [planC_c h2] at h; cases h
    | true =>
      rw [planC_in h1 h2] at h
      split at h
      · next hc => exact ⟨hidB_true h1, cutsB_true h2, hc.1, fun k x hx => outB_false hc.2 hx⟩
      · cases h

set_option maxRecDepth 100000 in
set_option maxHeartbeats 2000000 in
theorem planCode_any (A B C : Option Addr) (n c p d q f : Nat) (rs : List ByteArray) (cs : List CutV) (pl : List Int) (w : World) (hA : Rd w 1 A n c (txs rs)) (hB : Rd w 4 B p d (qd cs)) (hC : Rd w 1 C q f (ints pl)) (hs : ∀ s ∈ rs, s.size ≤ 9223372036854775807) :
    Calls Tryd.prog 64 #[.slice A n c, .slice B p d, .slice C q f] w fun e w' => e = .returned (.int .i64 (planC rs cs pl)) ∧ Below w.heap.size w w' := by
  have hl := hA.tlen
  have hlb := hB.qlen
  have hlc := hC.ilen
  have a1 := hA.cap
  have a2 := hA.max
  have a3 := hB.cap
  have a4 := hB.max
  have a5 := hC.cap
  have a6 := hC.max
  have HV := Lib.hid (implValidHide_any A n c rs w hA hs)
  have HC := Lib.hid (fun W (hb : Below w.heap.size w W) => implValidCuts_any B p d cs W (hB.below hb))
  cases hz : hidB rs with
  | false =>
    rw [planC_h hz]
    rw [hz] at HV
    clear hz hl hlb hlc hA hB hC
    go_enter Tryd.func64, Tryd.ntmps64
    go_wp2_with fail
    refine (HV.out).mono ?_
    rintro e w1 ⟨rfl, hb1⟩
    go_wp2_with fail
    go_ret
    exact ⟨rfl, hb1⟩
  | true =>
    cases hy : cutsB cs with
    | false =>
      rw [planC_c hy]
      rw [hz] at HV
      rw [hy] at HC
      clear hz hy hl hlb hlc hA hB hC
      go_enter Tryd.func64, Tryd.ntmps64
      go_wp2_with fail
      refine (HV.out).mono ?_
      rintro e w1 ⟨rfl, hb1⟩
      go_wp2_with fail
      refine (HC.out _ hb1).mono ?_
      rintro e w2 ⟨rfl, hb2⟩
      go_wp2_with fail
      go_ret
      exact ⟨rfl, hb1.trans (hb2.mono hb1.size)⟩
    | true =>
      have hg := (hidB_true hz).grid hl
      rw [planC_in hz hy, hl, hlb, hlc]
      rw [hz] at HV
      rw [hy] at HC
      generalize colN rs = m at *
      have HS := Lib.hid (fun W (hb : Below w.heap.size w W) => sizeOf_any A n c m rs W (hA.below hb) hg)
      have hbn := hg.bn
      have hbm := hg.bm
      have hp36 := prod36 hbn.2 hbm.2
      have hpI : (n : Int) * (m : Int) = ((n * m : Nat) : Int) := by rw [Int.natCast_mul]
      have hno := fun W (hb : Below w.heap.size w W) => outside_any C q f pl (-1) (((n * m : Nat) : Int) - 1) W (hC.below hb)
      generalize outB pl (-1) (((n * m : Nat) : Int) - 1) = z at *
      generalize n * m = N at *
      have HO := Lib.hid hno
      clear hz hy hl hlb hlc hA hB hC hg hno
      by_cases hqp : q = p
      · subst hqp
        have hd : ((q : Int) != (q : Int)) = false := by simp
        have hz0 : (if q = q ∧ z = false then (0 : Int) else 2) = if z = false then 0 else 2 := by simp
        rw [hz0]
        clear hz0
        cases z with
        | false =>
          rw [if_pos rfl]
          go_enter Tryd.func64, Tryd.ntmps64
          go_wp2_with fail
          refine (HV.out).mono ?_
          rintro e w1 ⟨rfl, hb1⟩
          go_wp2_with fail
          refine (HC.out _ hb1).mono ?_
          rintro e w2 ⟨rfl, hb2⟩
          have b2 := hb1.trans (hb2.mono hb1.size)
          go_wp2_with fail
          refine (HS.out _ b2).mono ?_
          rintro e w3 ⟨rfl, hb3⟩
          have b3 := b2.trans (hb3.mono b2.size)
          go_wp2_with fail
          refine (HO.out _ b3).mono ?_
          rintro e w4 ⟨rfl, hb4⟩
          go_wp2_with fail
          go_ret
          exact ⟨rfl, b3.trans (hb4.mono b3.size)⟩
        | true =>
          rw [if_neg (by simp)]
          go_enter Tryd.func64, Tryd.ntmps64
          go_wp2_with fail
          refine (HV.out).mono ?_
          rintro e w1 ⟨rfl, hb1⟩
          go_wp2_with fail
          refine (HC.out _ hb1).mono ?_
          rintro e w2 ⟨rfl, hb2⟩
          have b2 := hb1.trans (hb2.mono hb1.size)
          go_wp2_with fail
          refine (HS.out _ b2).mono ?_
          rintro e w3 ⟨rfl, hb3⟩
          have b3 := b2.trans (hb3.mono b2.size)
          go_wp2_with fail
          refine (HO.out _ b3).mono ?_
          rintro e w4 ⟨rfl, hb4⟩
          go_wp2_with fail
          go_ret
          exact ⟨rfl, b3.trans (hb4.mono b3.size)⟩
      · have hd : ((q : Int) != (p : Int)) = true := by simp; omega
        rw [if_neg (fun h => hqp h.1)]
        clear hqp
        go_enter Tryd.func64, Tryd.ntmps64
        go_wp2_with fail
        refine (HV.out).mono ?_
        rintro e w1 ⟨rfl, hb1⟩
        go_wp2_with fail
        refine (HC.out _ hb1).mono ?_
        rintro e w2 ⟨rfl, hb2⟩
        have b2 := hb1.trans (hb2.mono hb1.size)
        go_wp2_with fail
        refine (HS.out _ b2).mono ?_
        rintro e w3 ⟨rfl, hb3⟩
        have b3 := b2.trans (hb3.mono b2.size)
        go_wp2_with fail
        go_ret
        exact ⟨rfl, b3⟩

set_option maxRecDepth 100000 in
set_option maxHeartbeats 2000000 in
theorem l10Code_any (A B C : Option Addr) (n c p d q f : Nat) (rs : List ByteArray) (cs : List CutV) (pl : List Int) (w : World) (hA : Rd w 1 A n c (txs rs)) (hB : Rd w 4 B p d (qd cs)) (hC : Rd w 1 C q f (ints pl)) (hs : ∀ s ∈ rs, s.size ≤ 9223372036854775807) :
    Calls Tryd.prog 62 #[.slice A n c, .slice B p d, .slice C q f] w fun e w' => e = .returned (.int .i64 (planC rs cs pl)) ∧ Below w.heap.size w w' := by
  have hl := hA.tlen
  have hlb := hB.qlen
  have hlc := hC.ilen
  have a1 := hA.cap
  have a2 := hA.max
  have a3 := hB.cap
  have a4 := hB.max
  have a5 := hC.cap
  have a6 := hC.max
  have HV := Lib.hid (l10Ok_any A n c rs w hA hs)
  have HC := Lib.hid (fun W (hb : Below w.heap.size w W) => l10Cuts_any B p d cs W (hB.below hb))
  cases hz : hidB rs with
  | false =>
    rw [planC_h hz]
    rw [hz] at HV
    clear hz hl hlb hlc hA hB hC
    go_enter Tryd.func62, Tryd.ntmps62
    go_wp2_with fail
    refine (HV.out).mono ?_
    rintro e w1 ⟨rfl, hb1⟩
    go_wp2_with fail
    go_ret
    exact ⟨rfl, hb1⟩
  | true =>
    cases hy : cutsB cs with
    | false =>
      rw [planC_c hy]
      rw [hz] at HV
      rw [hy] at HC
      clear hz hy hl hlb hlc hA hB hC
      go_enter Tryd.func62, Tryd.ntmps62
      go_wp2_with fail
      refine (HV.out).mono ?_
      rintro e w1 ⟨rfl, hb1⟩
      go_wp2_with fail
      refine (HC.out _ hb1).mono ?_
      rintro e w2 ⟨rfl, hb2⟩
      go_wp2_with fail
      go_ret
      exact ⟨rfl, hb1.trans (hb2.mono hb1.size)⟩
    | true =>
      have hg := (hidB_true hz).grid hl
      rw [planC_in hz hy, hl, hlb, hlc]
      rw [hz] at HV
      rw [hy] at HC
      generalize colN rs = m at *
      have hbn := hg.bn
      have hbm := hg.bm
      have hn0 : 0 < n := by omega
      have hn0I : (0 : Int) < (n : Int) := by omega
      obtain ⟨b0, o0, r0, hA0, hbl0, hx0, cc0⟩ := hA.txt hn0
      rw [Nat.add_zero] at cc0
      have hsz0 := hg.sz 0 r0 hx0
      have hsI : (r0.size : Int) = (m : Int) := by omega
      have hp36 := prod36 hbn.2 hbm.2
      have hpI : (n : Int) * (r0.size : Int) = ((n * m : Nat) : Int) := by rw [hsI, Int.natCast_mul]
      have hmk := fun k x hx hc => outB_mk (xs := pl) (lo := -1) (hi := ((n * m : Nat) : Int) - 1) (k := k) (x := x) hx hc
      have hall := outB_all (xs := pl) (lo := -1) (hi := ((n * m : Nat) : Int) - 1)
      generalize outB pl (-1) (((n * m : Nat) : Int) - 1) = z at *
      generalize n * m = N at *
      subst hA0
      have HMK := Lib.hid hmk
      have HALL := Lib.hid hall
      have HQ := Lib.hid hC
      have HL := Lib.hid hlc
      have C0 := Lib.hid cc0
      obtain ⟨R, hR⟩ : ∃ R : Int, (if q = p ∧ z = false then (0 : Int) else 2) = R := ⟨_, rfl⟩
      rw [hR]
      have hR1 : q = p → z = false → R = 0 := fun h1 h2 => by rw [← hR, if_pos ⟨h1, h2⟩]
      have hR2 : ¬ q = p → R = 2 := fun h1 => by rw [← hR, if_neg (fun h => h1 h.1)]
      have hR3 : z = true → R = 2 := fun h1 => by rw [← hR, if_neg (fun h => by rw [h1] at h; cases h.2)]
      have H1 := Lib.hid hR1
      have H2 := Lib.hid hR2
      have H3 := Lib.hid hR3
      clear hz hy hl hlb hlc hA hB hC hg hmk hall cc0 hx0 hsz0 hsI hR hR1 hR2 hR3
      go_enter Tryd.func62, Tryd.ntmps62
      go_wp2_with fail
      refine (HV.out).mono ?_
      rintro e w1 ⟨rfl, hb1⟩
      go_wp2_with fail
      refine (HC.out _ hb1).mono ?_
      rintro e w2 ⟨rfl, hb2⟩
      have b2 := Lib.hid (hb1.trans (hb2.mono hb1.size))
      clear hb1 hb2
      go_wp2_with fail
      go_loopw [7] (fun vy wr => ∃ y : Nat, y ≤ q ∧ vy = .int .i64 y ∧ Hid (∀ (k : Nat) (x : Int), k < y → pl[k]? = some x → inB x (-1) ((N : Int) - 1) = true) ∧ Hid (Below w.heap.size w wr)) (fun vy _ => q - (intOf vy).toNat)
      case atStart => exact ⟨0, Nat.zero_le _, rfl, (show Hid _ from fun k r hk => absurd hk (Nat.not_lt_zero _)), b2⟩
      case round =>
        obtain ⟨y, hy, rfl, HB, Hb⟩ := hrel
        by_cases hlt : y < q
        · have hy0 : (0 : Int) ≤ (y : Int) := by omega
          have hy1 : (y : Int) < (q : Int) := by omega
          obtain ⟨b, o, x, hCe, hbl, hx, c1⟩ := (HQ.out.below Hb.out).int hlt
          subst hCe
          have c0 := cell_belT C0.out Hb.out
          have HI := Lib.hid (fun W => l00In_any x (-1) ((N : Int) - 1) W)
          have HX := Lib.hid hx
          clear hx
          cases hi : inB x (-1) ((N : Int) - 1) with
          | false =>
            have hR := H3.out (HMK.out y x HX.out hi)
            rw [hi] at HI
            clear hi H1 H2 H3
            subst hR
            go_wp2
            go_quiet ((go_at_call 59; refine Calls.quiet_of_same ((HI.out _).mono fun _ _ h => ⟨h.1, h.2.symm⟩)))
            go_wp2
            go_ret
            exact ⟨rfl, below_drewN Hb.out _⟩
          | true =>
            have HB2 : Hid (∀ (k : Nat) (x : Int), k < y + 1 → pl[k]? = some x → inB x (-1) ((N : Int) - 1) = true) := Lib.hid (fun k x' hk hx' => by
              by_cases e : k = y
              · subst e
                have := HX.out
                rw [hx'] at this
                injection this with this
                rw [this]; exact hi
              · exact HB.out k x' (by omega) hx')
            rw [hi] at HI
            clear hi
            go_wp2
            go_quiet ((go_at_call 59; refine Calls.quiet_of_same ((HI.out _).mono fun _ _ h => ⟨h.1, h.2.symm⟩)))
            have b3 := Lib.hid (below_drewN Hb.out nq)
            generalize wr.drewN nq = w3 at *
            clear c0 c1
            go_wp2
            go_roundw
            case rel => exact ⟨y + 1, by omega, by go_num, HB2, b3⟩
            case measure => simp [intOf]; omega
        · have hyq : q = y := by omega
          have hltI : ¬ (y : Int) < (q : Int) := by omega
          have hz0 := HALL.out (fun k x hx => HB.out k x (by have := (List.getElem?_eq_some_iff.mp hx).1; have := HL.out; omega) hx)
          by_cases hqp : q = p
          · have hR := H1.out hqp hz0
            have hd : ((q : Int) != (p : Int)) = false := by simp; omega
            clear hyq hz0 H1 H2 H3
            subst hR
            clear hqp
            go_wp2
            go_ret
            exact ⟨rfl, Hb.out⟩
          · have hR := H2.out hqp
            have hd : ((q : Int) != (p : Int)) = true := by simp; omega
            clear hyq hz0 H1 H2 H3
            subst hR
            clear hqp
            go_wp2
            go_ret
            exact ⟨rfl, Hb.out⟩
end Go.Proofs.YtiibhejjeijdaaaDoor
