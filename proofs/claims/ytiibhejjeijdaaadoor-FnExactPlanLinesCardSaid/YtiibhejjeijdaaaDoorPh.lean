/- The first piece that makes a plan faulty: l10Fault, planFault, PlanFault. Printed by mkph.py. -/
import Derived.Test.YtiibhejjeijdaaaDoorPg
namespace Go.Proofs.YtiibhejjeijdaaaDoor
open Go.RowKit

/-- The first k of r numbers on of which p holds; -1. -/
def fstW (p : Nat → Bool) : Nat → Nat → Int
  | 0, _ => -1
  | r + 1, k => if p k = true then (k : Int) else fstW p r (k + 1)
theorem fstW_yes {p : Nat → Bool} {q k : Nat} (hk : k < q) (h : p k = true) : fstW p (q - k) k = k := by
  obtain ⟨r, hr⟩ : ∃ r, q - k = r + 1 := ⟨q - k - 1, by omega⟩
  rw [hr]; show (if p k = true then _ else _) = _; rw [if_pos h]
theorem fstW_no {p : Nat → Bool} {q k : Nat} (hk : k < q) (h : p k = false) : fstW p (q - k) k = fstW p (q - (k + 1)) (k + 1) := by
  obtain ⟨r, hr⟩ : ∃ r, q - k = r + 1 := ⟨q - k - 1, by omega⟩
  have hr2 : q - (k + 1) = r := by omega
  rw [hr, hr2]; show (if p k = true then _ else _) = _; rw [if_neg (by rw [h]; simp)]
theorem fstW_end {p : Nat → Bool} (q : Nat) : fstW p (q - q) q = -1 := by rw [Nat.sub_self]; rfl
theorem fstW_bd {p : Nat → Bool} : ∀ r k, -1 ≤ fstW p r k ∧ fstW p r k ≤ (k + r : Nat)
  | 0, k => by show -1 ≤ (-1 : Int) ∧ (-1 : Int) ≤ _; omega
  | r + 1, k => by
    have := fstW_bd (p := p) r (k + 1)
    show -1 ≤ (if p k = true then (k : Int) else fstW p r (k + 1)) ∧ (if p k = true then (k : Int) else fstW p r (k + 1)) ≤ _
    split <;> omega
/-- The first piece that makes a plan faulty. -/
noncomputable def faultZ (rs : List ByteArray) (n m : Nat) (cs : List CutV) (pl : List Int) : Int := fstW (wrongK rs n m cs pl) pl.length 0

theorem PlanOk.dim {rs : List ByteArray} {cs : List CutV} {pl : List Int} (h : PlanOk rs cs pl) {j : Nat} (hj : j < pl.length) : (1 ≤ wdK cs j ∧ wdK cs j ≤ 6) ∧ (1 ≤ htK cs j ∧ htK cs j ≤ 6) := by
  have hx : cs[j]? = some (cs[j]'(by have := h.len; omega)) := List.getElem?_eq_getElem _
  have hy : pl[j]? = some (pl[j]'hj) := List.getElem?_eq_getElem _
  have := h.at rfl rfl hx hy
  exact ⟨this.bw, this.bh⟩
/-- T: the fields of the pieces ahead of k. -/
structure TkI (rs : List ByteArray) (n m : Nat) (cs : List CutV) (pl : List Int) (k T : Nat) : Prop where
  lt : T < 2 ^ 36
  bit : ∀ b, T.testBit b = true ↔ ∃ j, j < k ∧ onK pl j = true ∧ InR m (htK cs j) (wdK cs j) (fK pl j) b
  ok : ∀ j, j < k → onK pl j = true → fitK rs n m cs pl j = true
theorem TkI.zero (rs : List ByteArray) (n m : Nat) (cs : List CutV) (pl : List Int) : TkI rs n m cs pl 0 0 :=
  ⟨by simp, fun b => by
    rw [Nat.zero_testBit]
    constructor
    · intro h; cases h
    · rintro ⟨j, hj, _⟩; omega, fun j hj => by omega⟩
theorem TkI.skip {rs : List ByteArray} {n m : Nat} {cs : List CutV} {pl : List Int} {k T : Nat} (h : TkI rs n m cs pl k T) (hk : onK pl k = false) : TkI rs n m cs pl (k + 1) T := by
  have hne : ∀ j, j < k + 1 → onK pl j = true → j < k := fun j hj ho => by
    by_cases e : j = k
    · subst e; rw [hk] at ho; cases ho
    · omega
  refine ⟨h.lt, fun b => ?_, fun j hj ho => h.ok j (hne j hj ho) ho⟩
  rw [h.bit b]
  constructor
  · rintro ⟨j, hj, h1, h2⟩; exact ⟨j, by omega, h1, h2⟩
  · rintro ⟨j, hj, h1, h2⟩; exact ⟨j, hne j hj h1, h1, h2⟩
theorem fitK_w {rs : List ByteArray} {n m : Nat} {cs : List CutV} {pl : List Int} {j : Nat} (h : fitK rs n m cs pl j = true) : fK pl j % m + wdK cs j ≤ m := (fitB_true h).hw
theorem TkI.meet {rs : List ByteArray} {n m : Nat} {cs : List CutV} {pl : List Int} {k T : Nat} (h : TkI rs n m cs pl k T) (hp : PlanOk rs cs pl) (hk : k < pl.length) (hf : fitK rs n m cs pl k = true) {j : Nat} (hj : j < k) (ho : onK pl j = true) :
    meetK m cs pl k j = true ↔ ∃ t, InR m (htK cs k) (wdK cs k) (fK pl k) t ∧ InR m (htK cs j) (wdK cs j) (fK pl j) t := by
  have d1 := hp.dim hk
  have d2 := hp.dim (j := j) (by omega)
  exact meet_iff d1.1.1 d1.2.1 d2.1.1 d2.2.1 (fitK_w hf) (fitK_w (h.ok j hj ho))
theorem TkI.hit {rs : List ByteArray} {n m : Nat} {cs : List CutV} {pl : List Int} {k T S : Nat} (h : TkI rs n m cs pl k T) (hp : PlanOk rs cs pl) (hk : k < pl.length) (ho : onK pl k = true) (hf : fitK rs n m cs pl k = true)
    (hS : ∀ b, S.testBit b = true ↔ InR m (htK cs k) (wdK cs k) (fK pl k) b) (hz : S &&& T ≠ 0) : wrongK rs n m cs pl k = true := by
  have he : ∃ b, (S &&& T).testBit b = true := by
    by_cases he : ∃ b, (S &&& T).testBit b = true
    · exact he
    · exact absurd (Nat.eq_of_testBit_eq (fun b => by
        rw [Nat.zero_testBit]
        cases hc : (S &&& T).testBit b with
        | false => rfl
        | true => exact absurd ⟨b, hc⟩ he)) hz
  obtain ⟨b, hb⟩ := he
  rw [Nat.testBit_and, Bool.and_eq_true, hS b, h.bit b] at hb
  obtain ⟨h1, j, hj, h2, h3⟩ := hb
  exact wrong_meet ho hj (by rw [h2, (h.meet hp hk hf hj h2).mpr ⟨b, h1, h3⟩]; rfl)
theorem TkI.miss {rs : List ByteArray} {n m : Nat} {cs : List CutV} {pl : List Int} {k T S : Nat} (h : TkI rs n m cs pl k T) (hp : PlanOk rs cs pl) (hk : k < pl.length) (ho : onK pl k = true) (hf : fitK rs n m cs pl k = true) (hSl : S < 2 ^ 36)
    (hS : ∀ b, S.testBit b = true ↔ InR m (htK cs k) (wdK cs k) (fK pl k) b) (hz : S &&& T = 0) : wrongK rs n m cs pl k = false ∧ TkI rs n m cs pl (k + 1) (T ||| S) := by
  refine ⟨wrong_none hf fun j hj => ?_, Nat.or_lt_two_pow h.lt hSl, fun b => ?_, fun j hj hoj => ?_⟩
  · cases hoj : onK pl j with
    | false => rfl
    | true =>
      cases hm : meetK m cs pl k j with
      | false => rfl
      | true =>
        obtain ⟨t, h1, h2⟩ := (h.meet hp hk hf hj hoj).mp hm
        have hb : (S &&& T).testBit t = true := by
          rw [Nat.testBit_and, Bool.and_eq_true]
          exact ⟨(hS t).mpr h1, (h.bit t).mpr ⟨j, hj, hoj, h2⟩⟩
        rw [hz, Nat.zero_testBit] at hb
        cases hb
  · rw [Nat.testBit_or, Bool.or_eq_true, h.bit b, hS b]
    constructor
    · rintro (⟨j, hj, h1, h2⟩ | h1)
      · exact ⟨j, by omega, h1, h2⟩
      · exact ⟨k, by omega, ho, h1⟩
    · rintro ⟨j, hj, h1, h2⟩
      by_cases e : j = k
      · subst e; exact .inr h2
      · exact .inl ⟨j, by omega, h1, h2⟩
  · by_cases e : j = k
    · subst e; exact hf
    · exact h.ok j (by omega) hoj

set_option maxRecDepth 100000 in
set_option maxHeartbeats 2000000 in
theorem l10Fault_any (A B C : Option Addr) (n c m p d q f : Nat) (rs : List ByteArray) (cs : List CutV) (pl : List Int) (w : World) (hA : Rd w 1 A n c (txs rs)) (hB : Rd w 4 B p d (qd cs)) (hC : Rd w 1 C q f (ints pl)) (hp : PlanOk rs cs pl) (hg : Grid rs n m) (hm : colN rs = m) :
    Calls Tryd.prog 63 #[.slice A n c, .slice B p d, .slice C q f] w fun e w' => e = .returned (.int .i64 (faultZ rs n m cs pl)) ∧ Below w.heap.size w w' := by
  have hlc := hC.ilen
  have a1 := hA.cap
  have a2 := hA.max
  have a3 := hB.cap
  have a4 := hB.max
  have a5 := hC.cap
  have a6 := hC.max
  have hwr := fun i W (hb : Below w.heap.size w W) hi => l10Wrong_any A B C n c m p d q f i rs cs pl W (hA.below hb) (hB.below hb) (hC.below hb) hp hg hm hi
  unfold faultZ
  rw [hlc]
  generalize wrongK rs n m cs pl = P at *
  obtain ⟨Z, hE0, hE1⟩ : ∃ Z, fstW P (q - 0) 0 = Z ∧ fstW P q 0 = Z := ⟨_, rfl, rfl⟩
  rw [hE1]
  have HE0 := Lib.hid hE0
  have HW := Lib.hid hwr
  clear hwr hE0 hE1 hlc hA hB hC hp hg hm
  go_enter Tryd.func63, Tryd.ntmps63
  go_wp2
  go_loopw [7] (fun vk wr => ∃ k : Nat, k ≤ q ∧ vk = .int .i64 k ∧ Hid (fstW P (q - k) k = Z) ∧ Hid (Below w.heap.size w wr)) (fun vk _ => q - (intOf vk).toNat)
  case atStart => exact ⟨0, Nat.zero_le _, rfl, HE0, Lib.hid (Below.refl _ _)⟩
  case round =>
    obtain ⟨k, hk, rfl, HE, Hb⟩ := hrel
    by_cases hlt : k < q
    · have hk0 : (0 : Int) ≤ (k : Int) := by omega
      have hk1 : (k : Int) < (q : Int) := by omega
      have hy := fstW_yes (p := P) hlt
      have hn := fstW_no (p := P) hlt
      rw [HE.out] at hy hn
      have HW1 := Lib.hid (HW.out k wr Hb.out hlt)
      cases hw : P k with
      | true =>
        have hZ := hy hw
        rw [hw] at HW1
        clear hy hn hw HE HE0
        subst hZ
        go_wp2_with fail
        refine (HW1.out).mono ?_
        rintro e w2 ⟨rfl, hb2⟩
        go_wp2_with fail
        go_ret
        exact ⟨rfl, Hb.out.trans (hb2.mono Hb.out.size)⟩
      | false =>
        have hZ := hn hw
        have HE2 := Lib.hid hZ.symm
        rw [hw] at HW1
        clear hy hn hw hZ
        go_wp2_with fail
        refine (HW1.out).mono ?_
        rintro e w2 ⟨rfl, hb2⟩
        have Hb2 := Lib.hid (Hb.out.trans (hb2.mono Hb.out.size))
        clear hb2
        go_wp2
        go_roundw
        case rel => exact ⟨k + 1, by omega, by go_num, HE2, Hb2⟩
        case measure => simp [intOf]; omega
    · have hkq : k = q := by omega
      have hltI : ¬ (k : Int) < (q : Int) := by omega
      have hz := HE.out
      rw [hkq, fstW_end] at hz
      clear hkq HE HE0
      subst hz
      go_wp2
      go_ret
      exact ⟨rfl, Hb.out⟩

set_option maxRecDepth 100000 in
set_option maxHeartbeats 2000000 in
theorem planFault_any (A B C : Option Addr) (n c m p d q f : Nat) (rs : List ByteArray) (cs : List CutV) (pl : List Int) (w : World) (hA : Rd w 1 A n c (txs rs)) (hB : Rd w 4 B p d (qd cs)) (hC : Rd w 1 C q f (ints pl)) (hp : PlanOk rs cs pl) (hg : Grid rs n m) (hm : colN rs = m) :
    Calls Tryd.prog 65 #[.slice A n c, .slice B p d, .slice C q f] w fun e w' => e = .returned (.int .i64 (faultZ rs n m cs pl)) ∧ Below w.heap.size w w' := by
  have hl := hA.tlen
  have hlb := hB.qlen
  have hlc := hC.ilen
  have hqp : q = p := by have := hp.len; omega
  subst hqp
  have a1 := hA.cap
  have a2 := hA.max
  have a3 := hB.cap
  have a4 := hB.max
  have a5 := hC.cap
  have a6 := hC.max
  have hfo := fun k x3 W (hb : Below w.heap.size w W) (hF : fK pl k < n * m) (h1 : wdK cs k ≤ 6) (h2 : htK cs k ≤ 6) => fieldsOf_any A n c m (fK pl k) (wdK cs k) (htK cs k) (qlK cs k) x3 rs W (hA.below hb) hg hF h1 h2
  have hat := fun k x y hx hy => hp.at hl hm (k := k) (x := x) (y := y) hx hy
  have hoff := fun k => wrong_off (rs := rs) (n := n) (m := m) (cs := cs) (pl := pl) (i := k)
  have huf := fun k => wrong_unfit (rs := rs) (n := n) (m := m) (cs := cs) (pl := pl) (i := k)
  have hhit := fun k T S (h : TkI rs n m cs pl k T) hk ho hf hS hz => h.hit (S := S) hp hk ho hf hS hz
  have hmiss := fun k T S (h : TkI rs n m cs pl k T) hk ho hf hl hS hz => h.miss (S := S) hp hk ho hf hl hS hz
  have hfk : ∀ k, fitB rs n m (htK cs k) (wdK cs k) (qlK cs k) (fK pl k) = fitK rs n m cs pl k := fun k => rfl
  unfold faultZ
  rw [hlc] at hhit hmiss
  rw [hlc]
  generalize wrongK rs n m cs pl = P at *
  obtain ⟨Z, hE0, hE1⟩ : ∃ Z, fstW P (q - 0) 0 = Z ∧ fstW P q 0 = Z := ⟨_, rfl, rfl⟩
  rw [hE1]
  have HE0 := Lib.hid hE0
  have HFO := Lib.hid hfo
  have HAT := Lib.hid hat
  have HOFF := Lib.hid hoff
  have HUF := Lib.hid huf
  have HHIT := Lib.hid hhit
  have HMISS := Lib.hid hmiss
  have HFK := Lib.hid hfk
  have HB := Lib.hid hB
  have HC := Lib.hid hC
  clear hfo hat hoff huf hhit hmiss hfk hE0 hE1 hl hlb hlc hA hB hC hp hg hm
  go_enter Tryd.func65, Tryd.ntmps65
  go_wp2
  go_loopw [7, 14] (fun vt vk wr => ∃ k T : Nat, k ≤ q ∧ vk = .int .i64 k ∧ vt = .int .u64 T ∧ Hid (fstW P (q - k) k = Z) ∧ Hid (TkI rs n m cs pl k T) ∧ Hid (Below w.heap.size w wr)) (fun _ vk _ => q - (intOf vk).toNat)
  case atStart => exact ⟨0, 0, Nat.zero_le _, rfl, rfl, HE0, Lib.hid (TkI.zero _ _ _ _ _), Lib.hid (Below.refl _ _)⟩
  case round =>
    obtain ⟨k, T, hk, rfl, rfl, HE, HT, Hb⟩ := hrel
    by_cases hlt : k < q
    · have hk0 : (0 : Int) ≤ (k : Int) := by omega
      have hk1 : (k : Int) < (q : Int) := by omega
      have hy := fstW_yes (p := P) hlt
      have hn := fstW_no (p := P) hlt
      rw [HE.out] at hy hn
      obtain ⟨b2, o2, x, hBe, _, hx, c0, c1, c2, c3⟩ := (HB.out.below Hb.out).cut hlt
      obtain ⟨b3, o3, y, hCe, _, hyk, y0⟩ := (HC.out.below Hb.out).int hlt
      have hak := HAT.out k x y hx hyk
      rw [hak.wd] at c0
      rw [hak.ht] at c1
      rw [hak.ql] at c2
      obtain ⟨x0', x1', x2', x3⟩ := x
      simp only at c3
      have hof := hak.off
      have hon := hak.on
      have bw := hak.bw
      have bh := hak.bh
      clear hak hx hyk
      subst hBe
      subst hCe
      cases ho : onK pl k with
      | false =>
        have hyn := hof ho
        have hZ := hn (HOFF.out k ho)
        have HE2 := Lib.hid hZ.symm
        have HT2 := Lib.hid (HT.out.skip ho)
        clear hZ hy hn ho hof hon
        go_wp2
        go_roundw
        case rel => exact ⟨k + 1, T, by omega, by go_num, rfl, HE2, HT2, Hb⟩
        case measure => simp [intOf]; omega
      | true =>
        obtain ⟨hyF, hFlt⟩ := hon ho
        rw [hyF] at y0
        have hFI : ¬ ((fK pl k : Nat) : Int) < 0 := by omega
        have HF1 := Lib.hid (HFO.out k x3 wr Hb.out hFlt bw.2 bh.2)
        rw [HFK.out k] at HF1
        cases hf : fitK rs n m cs pl k with
        | false =>
          have hZ := hy (HUF.out k ho hf)
          rw [hf] at HF1
          clear hy hn hof hon ho hf HE HE0 hyF
          subst hZ
          go_wp2_with fail
          refine (HF1.out).mono ?_
          rintro e w2 ⟨S, rfl, hS, _, hb2⟩
          go_wp2_with fail
          go_ret
          exact ⟨rfl, Hb.out.trans (hb2.mono Hb.out.size)⟩
        | true =>
          rw [hf] at HF1
          have hh := fun S hS hz => HHIT.out k T S HT.out hlt ho hf hS hz
          have hm2 := fun S h1 hS hz => HMISS.out k T S HT.out hlt ho hf h1 hS hz
          have hTl := HT.out.lt
          have HH := Lib.hid hh
          have HM2 := Lib.hid hm2
          have HY := Lib.hid hy
          have HN := Lib.hid hn
          clear hy hn hof hon ho hf hyF hh hm2
          go_wp2_with fail
          refine (HF1.out).mono ?_
          rintro e w2 ⟨S, rfl, hS, hbits, hb2⟩
          have Hb2 := Lib.hid (Hb.out.trans (hb2.mono Hb.out.size))
          have hbits := hbits (by rfl)
          have hand := andU S T (by omega) (by omega)
          have hor := orU T S (by omega) (by omega)
          clear hb2
          by_cases hz : S &&& T = 0
          · obtain ⟨h1, h2⟩ := HM2.out S hS hbits hz
            have hZ := HN.out h1
            have HE2 := Lib.hid hZ.symm
            have HT2 := Lib.hid h2
            have hd : (bits BinOp.and IntKind.u64 (S : Int) (T : Int) != 0) = false := by rw [hand, hz]; rfl
            have HOR := Lib.hid hor
            clear hZ h1 h2 hbits hand hor hz HN HY
            go_wp2
            go_roundw
            case rel => exact ⟨k + 1, T ||| S, by omega, by go_num, by rw [HOR.out], HE2, HT2, Hb2⟩
            case measure => simp [intOf]; omega
          · have hZ := HY.out (HH.out S hbits hz)
            have hd : (bits BinOp.and IntKind.u64 (S : Int) (T : Int) != 0) = true := by rw [hand]; simp; omega
            clear hbits hand hor hz HN HY HH HM2 HE HE0
            subst hZ
            go_wp2
            go_ret
            exact ⟨rfl, Hb2.out⟩
    · have hkq : k = q := by omega
      have hltI : ¬ (k : Int) < (q : Int) := by omega
      have hz := HE.out
      rw [hkq, fstW_end] at hz
      clear hkq HE HE0
      subst hz
      go_wp2
      go_ret
      exact ⟨rfl, Hb.out⟩

/-- PlanFault's two numbers. -/
noncomputable def pfZ (rs : List ByteArray) (cs : List CutV) (pl : List Int) : Int × Int :=
  if planC rs cs pl = 0 then (faultZ rs rs.length (colN rs) cs pl, 0) else (0, planC rs cs pl)
theorem pfZ_0 {rs : List ByteArray} {cs : List CutV} {pl : List Int} (h : planC rs cs pl = 0) : pfZ rs cs pl = (faultZ rs rs.length (colN rs) cs pl, 0) := if_pos h
theorem pfZ_n {rs : List ByteArray} {cs : List CutV} {pl : List Int} (h : ¬ planC rs cs pl = 0) : pfZ rs cs pl = (0, planC rs cs pl) := if_neg h
set_option maxRecDepth 100000 in
set_option maxHeartbeats 2000000 in
theorem specPlanFault_any (A B C : Option Addr) (n c p d q f : Nat) (rs : List ByteArray) (cs : List CutV) (pl : List Int) (w : World) (hA : Rd w 1 A n c (txs rs)) (hB : Rd w 4 B p d (qd cs)) (hC : Rd w 1 C q f (ints pl)) (hs : ∀ s ∈ rs, s.size ≤ 9223372036854775807) :
    Calls Tryd.prog 33 #[.slice A n c, .slice B p d, .slice C q f] w fun e w' => e = .returned (.tuple #[.int .i64 (pfZ rs cs pl).1, .int .i64 (pfZ rs cs pl).2]) ∧ Below w.heap.size w w' := by
  have HCO := Lib.hid (l10Code_any A B C n c p d q f rs cs pl w hA hB hC hs)
  by_cases h0 : planC rs cs pl = 0
  · have hp := planC_ok h0
    have hl := hA.tlen
    have hg := hp.hide.grid hl
    have HF := Lib.hid (fun W (hb : Below w.heap.size w W) => l10Fault_any A B C n c (colN rs) p d q f rs cs pl W (hA.below hb) (hB.below hb) (hC.below hb) hp hg rfl)
    rw [pfZ_0 h0, hl]
    rw [h0] at HCO
    simp only
    generalize faultZ rs n (colN rs) cs pl = Z at *
    clear h0 hp hl hg hA hB hC
    go_enter Tryd.func33, Tryd.ntmps33
    go_wp2_with fail
    refine (HCO.out).mono ?_
    rintro e w1 ⟨rfl, hb1⟩
    go_wp2_with fail
    refine (HF.out _ hb1).mono ?_
    rintro e w2 ⟨rfl, hb2⟩
    go_wp2_with fail
    go_ret2
    exact ⟨rfl, hb1.trans (hb2.mono hb1.size)⟩
  · rw [pfZ_n h0]
    simp only
    generalize planC rs cs pl = k at *
    have hd : (k != 0) = true := by simp; omega
    clear hA hB hC
    go_enter Tryd.func33, Tryd.ntmps33
    go_wp2_with fail
    refine (HCO.out).mono ?_
    rintro e w1 ⟨rfl, hb1⟩
    go_wp2_with fail
    go_ret2
    exact ⟨rfl, hb1⟩

set_option maxRecDepth 100000 in
set_option maxHeartbeats 2000000 in
theorem implPlanFault_any (A B C : Option Addr) (n c p d q f : Nat) (rs : List ByteArray) (cs : List CutV) (pl : List Int) (w : World) (hA : Rd w 1 A n c (txs rs)) (hB : Rd w 4 B p d (qd cs)) (hC : Rd w 1 C q f (ints pl)) (hs : ∀ s ∈ rs, s.size ≤ 9223372036854775807) :
    Calls Tryd.prog 36 #[.slice A n c, .slice B p d, .slice C q f] w fun e w' => e = .returned (.tuple #[.int .i64 (pfZ rs cs pl).1, .int .i64 (pfZ rs cs pl).2]) ∧ Below w.heap.size w w' := by
  have HCO := Lib.hid (planCode_any A B C n c p d q f rs cs pl w hA hB hC hs)
  by_cases h0 : planC rs cs pl = 0
  · have hp := planC_ok h0
    have hl := hA.tlen
    have hg := hp.hide.grid hl
    have HF := Lib.hid (fun W (hb : Below w.heap.size w W) => planFault_any A B C n c (colN rs) p d q f rs cs pl W (hA.below hb) (hB.below hb) (hC.below hb) hp hg rfl)
    rw [pfZ_0 h0, hl]
    rw [h0] at HCO
    simp only
    generalize faultZ rs n (colN rs) cs pl = Z at *
    clear h0 hp hl hg hA hB hC
    go_enter Tryd.func36, Tryd.ntmps36
    go_wp2_with fail
    refine (HCO.out).mono ?_
    rintro e w1 ⟨rfl, hb1⟩
    go_wp2_with fail
    refine (HF.out _ hb1).mono ?_
    rintro e w2 ⟨rfl, hb2⟩
    go_wp2_with fail
    go_ret2
    exact ⟨rfl, hb1.trans (hb2.mono hb1.size)⟩
  · rw [pfZ_n h0]
    simp only
    generalize planC rs cs pl = k at *
    have hd : (k != 0) = true := by simp; omega
    clear hA hB hC
    go_enter Tryd.func36, Tryd.ntmps36
    go_wp2_with fail
    refine (HCO.out).mono ?_
    rintro e w1 ⟨rfl, hb1⟩
    go_wp2_with fail
    go_ret2
    exact ⟨rfl, hb1⟩

end Go.Proofs.YtiibhejjeijdaaaDoor
