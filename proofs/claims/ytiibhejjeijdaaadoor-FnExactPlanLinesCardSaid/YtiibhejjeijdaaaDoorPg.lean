/- When a piece makes a plan faulty; l10Wrong of the reference. Printed by mkpg.py. -/
import Derived.Test.YtiibhejjeijdaaaDoorPk
namespace Go.Proofs.YtiibhejjeijdaaaDoor
open Go.RowKit

def wdK (cs : List CutV) (k : Nat) : Nat := (cs.getD k cut0).wd.toNat
def htK (cs : List CutV) (k : Nat) : Nat := (cs.getD k cut0).ht.toNat
def qlK (cs : List CutV) (k : Nat) : Int := (cs.getD k cut0).ql
def fK (pl : List Int) (k : Nat) : Nat := (pl.getD k 0).toNat
def onK (pl : List Int) (k : Nat) : Bool := decide (0 ≤ pl.getD k 0)
noncomputable def fitK (rs : List ByteArray) (n m : Nat) (cs : List CutV) (pl : List Int) (k : Nat) : Bool := fitB rs n m (htK cs k) (wdK cs k) (qlK cs k) (fK pl k)
def meetK (m : Nat) (cs : List CutV) (pl : List Int) (i k : Nat) : Bool := meetB m (wdK cs i) (htK cs i) (fK pl i) (wdK cs k) (htK cs k) (fK pl k)
/-- The piece i makes the plan faulty. -/
noncomputable def wrongK (rs : List ByteArray) (n m : Nat) (cs : List CutV) (pl : List Int) (i : Nat) : Bool :=
  onK pl i && (!fitK rs n m cs pl i || (List.range i).any fun k => onK pl k && meetK m cs pl i k)
theorem wrong_off {rs : List ByteArray} {n m : Nat} {cs : List CutV} {pl : List Int} {i : Nat} (h : onK pl i = false) : wrongK rs n m cs pl i = false := by unfold wrongK; rw [h]; rfl
theorem wrong_unfit {rs : List ByteArray} {n m : Nat} {cs : List CutV} {pl : List Int} {i : Nat} (h : onK pl i = true) (h2 : fitK rs n m cs pl i = false) : wrongK rs n m cs pl i = true := by unfold wrongK; rw [h, h2]; rfl
theorem wrong_meet {rs : List ByteArray} {n m : Nat} {cs : List CutV} {pl : List Int} {i k : Nat} (h : onK pl i = true) (hk : k < i) (h2 : (onK pl k && meetK m cs pl i k) = true) : wrongK rs n m cs pl i = true := by
  unfold wrongK
  have : ((List.range i).any fun k => onK pl k && meetK m cs pl i k) = true := List.any_eq_true.mpr ⟨k, List.mem_range.mpr hk, h2⟩
  rw [h, this]; simp
theorem wrong_none {rs : List ByteArray} {n m : Nat} {cs : List CutV} {pl : List Int} {i : Nat} (h1 : fitK rs n m cs pl i = true) (h : ∀ k, k < i → (onK pl k && meetK m cs pl i k) = false) : wrongK rs n m cs pl i = false := by
  unfold wrongK
  have : ((List.range i).any fun k => onK pl k && meetK m cs pl i k) = false := by
    cases ha : ((List.range i).any fun k => onK pl k && meetK m cs pl i k) with
    | false => rfl
    | true =>
      obtain ⟨k, hk, hc⟩ := List.any_eq_true.mp ha
      rw [h k (List.mem_range.mp hk)] at hc
      cases hc
  rw [h1, this]; simp
structure AtK (n m : Nat) (cs : List CutV) (pl : List Int) (k : Nat) (x : CutV) (y : Int) : Prop where
  wd : x.wd = (wdK cs k : Int)
  ht : x.ht = (htK cs k : Int)
  ql : x.ql = qlK cs k
  bw : 1 ≤ wdK cs k ∧ wdK cs k ≤ 6
  bh : 1 ≤ htK cs k ∧ htK cs k ≤ 6
  on : onK pl k = true → y = (fK pl k : Int) ∧ fK pl k < n * m
  off : onK pl k = false → y < 0
theorem PlanOk.at {rs : List ByteArray} {cs : List CutV} {pl : List Int} (h : PlanOk rs cs pl) {n m : Nat} (hn : rs.length = n) (hm : colN rs = m) {k : Nat} {x : CutV} {y : Int} (hx : cs[k]? = some x) (hy : pl[k]? = some y) : AtK n m cs pl k x y := by
  have hc := cutB_true (h.cuts.ok k x hx)
  have hb := h.bd k y hy
  rw [hn, hm] at hb
  have e1 : cs.getD k cut0 = x := by simp [List.getD, hx]
  have e2 : pl.getD k 0 = y := by simp [List.getD, hy]
  refine ⟨?_, ?_, ?_, ?_, ?_, ?_, ?_⟩
  · unfold wdK; rw [e1]; omega
  · unfold htK; rw [e1]; omega
  · unfold qlK; rw [e1]
  · unfold wdK; rw [e1]; omega
  · unfold htK; rw [e1]; omega
  · intro ho
    unfold onK at ho
    rw [e2, decide_eq_true_eq] at ho
    unfold fK
    rw [e2]
    omega
  · intro ho
    unfold onK at ho
    rw [e2, decide_eq_false_iff_not] at ho
    omega
theorem keep5n {V W w' : World} {p0 q0 p1 q1 p2 q2 p3 q3 p4 q4 : Nat} {x0 x1 x2 x3 x4 : Value} (e : W.cell? ⟨p0, q0, none⟩ = some x0 ∧ W.cell? ⟨p1, q1, none⟩ = some x1 ∧ W.cell? ⟨p2, q2, none⟩ = some x2 ∧ W.cell? ⟨p3, q3, none⟩ = some x3 ∧ W.cell? ⟨p4, q4, none⟩ = some x4 ∧ Below V.heap.size V W) (hb : Below W.heap.size W w') : w'.cell? ⟨p0, q0, none⟩ = some x0 ∧ w'.cell? ⟨p1, q1, none⟩ = some x1 ∧ w'.cell? ⟨p2, q2, none⟩ = some x2 ∧ w'.cell? ⟨p3, q3, none⟩ = some x3 ∧ w'.cell? ⟨p4, q4, none⟩ = some x4 ∧ Below V.heap.size V w' := by
  obtain ⟨e0, e1, e2, e3, e4, eb⟩ := e
  exact ⟨cell_belT e0 hb, cell_belT e1 hb, cell_belT e2 hb, cell_belT e3 hb, cell_belT e4 hb, eb.trans (hb.mono eb.size)⟩
theorem keep11n {V W w' : World} {p0 q0 p1 q1 p2 q2 p3 q3 p4 q4 p5 q5 p6 q6 p7 q7 p8 q8 p9 q9 p10 q10 : Nat} {x0 x1 x2 x3 x4 x5 x6 x7 x8 x9 x10 : Value} (e : W.cell? ⟨p0, q0, none⟩ = some x0 ∧ W.cell? ⟨p1, q1, none⟩ = some x1 ∧ W.cell? ⟨p2, q2, none⟩ = some x2 ∧ W.cell? ⟨p3, q3, none⟩ = some x3 ∧ W.cell? ⟨p4, q4, none⟩ = some x4 ∧ W.cell? ⟨p5, q5, none⟩ = some x5 ∧ W.cell? ⟨p6, q6, none⟩ = some x6 ∧ W.cell? ⟨p7, q7, none⟩ = some x7 ∧ W.cell? ⟨p8, q8, none⟩ = some x8 ∧ W.cell? ⟨p9, q9, none⟩ = some x9 ∧ W.cell? ⟨p10, q10, none⟩ = some x10 ∧ Below V.heap.size V W) (hb : Below W.heap.size W w') : w'.cell? ⟨p0, q0, none⟩ = some x0 ∧ w'.cell? ⟨p1, q1, none⟩ = some x1 ∧ w'.cell? ⟨p2, q2, none⟩ = some x2 ∧ w'.cell? ⟨p3, q3, none⟩ = some x3 ∧ w'.cell? ⟨p4, q4, none⟩ = some x4 ∧ w'.cell? ⟨p5, q5, none⟩ = some x5 ∧ w'.cell? ⟨p6, q6, none⟩ = some x6 ∧ w'.cell? ⟨p7, q7, none⟩ = some x7 ∧ w'.cell? ⟨p8, q8, none⟩ = some x8 ∧ w'.cell? ⟨p9, q9, none⟩ = some x9 ∧ w'.cell? ⟨p10, q10, none⟩ = some x10 ∧ Below V.heap.size V w' := by
  obtain ⟨e0, e1, e2, e3, e4, e5, e6, e7, e8, e9, e10, eb⟩ := e
  exact ⟨cell_belT e0 hb, cell_belT e1 hb, cell_belT e2 hb, cell_belT e3 hb, cell_belT e4 hb, cell_belT e5 hb, cell_belT e6 hb, cell_belT e7 hb, cell_belT e8 hb, cell_belT e9 hb, cell_belT e10 hb, eb.trans (hb.mono eb.size)⟩

set_option maxRecDepth 100000 in
set_option maxHeartbeats 4000000 in
theorem l10Wrong_any (A B C : Option Addr) (n c m p d q f i : Nat) (rs : List ByteArray) (cs : List CutV) (pl : List Int) (w : World) (hA : Rd w 1 A n c (txs rs)) (hB : Rd w 4 B p d (qd cs)) (hC : Rd w 1 C q f (ints pl)) (hp : PlanOk rs cs pl) (hg : Grid rs n m) (hm : colN rs = m) (hi : i < q) :
    Calls Tryd.prog 82 #[.slice A n c, .slice B p d, .slice C q f, .int .i64 i] w fun e w' => e = .returned (.bool (wrongK rs n m cs pl i)) ∧ Below w.heap.size w w' := by
  have hl := hA.tlen
  have hlb := hB.qlen
  have hlc := hC.ilen
  have hqp : q = p := by have := hp.len; omega
  subst hqp
  have a1 := hA.cap
  have a2 := hA.max
  have a3 := hB.cap
  have a4 := hB.max
  have a5 := hC.cap
  have a6 := hC.max
  have hat := fun k x y hx hy => hp.at hl hm (k := k) (x := x) (y := y) hx hy
  have hbn := hg.bn
  have hbm := hg.bm
  have hp36 := prod36 hbn.2 hbm.2
  have hn0 : 0 < n := by omega
  have hn0I : (0 : Int) < (n : Int) := by omega
  have hiI : (i : Int) < (q : Int) := by omega
  have hi0 : (0 : Int) ≤ (i : Int) := by omega
  obtain ⟨b1, o1, r0, hA0, hbl0, hx0, cc0⟩ := hA.txt hn0
  rw [Nat.add_zero] at cc0
  have hsz0 := hg.sz 0 r0 hx0
  obtain ⟨b2, o2, x, hB0, hbl2, hx2, i0, i1, i2, i3⟩ := hB.cut hi
  obtain ⟨b3, o3, y, hC0, hbl3, hx3, i4⟩ := hC.int hi
  have hai := hat i x y hx2 hx3
  rw [hai.wd] at i0
  rw [hai.ht] at i1
  rw [hai.ql] at i2
  have hoff := hai.off
  have hon := hai.on
  have bwi := hai.bw
  have bhi := hai.bh
  have huf := wrong_unfit (rs := rs) (n := n) (m := m) (cs := cs) (pl := pl) (i := i)
  have hmt := fun k => wrong_meet (rs := rs) (n := n) (m := m) (cs := cs) (pl := pl) (i := i) (k := k)
  have hnn := wrong_none (rs := rs) (n := n) (m := m) (cs := cs) (pl := pl) (i := i)
  have hwo := wrong_off (rs := rs) (n := n) (m := m) (cs := cs) (pl := pl) (i := i)
  generalize wrongK rs n m cs pl i = R at *
  cases ho : onK pl i with
  | false =>
    have hR := hwo ho
    have hy := hoff ho
    clear ho hon hoff huf hmt hnn hwo hai hat hx2 hx3 hx0 hg hp hA hB hC hm
    subst hR
    subst hA0
    subst hB0
    subst hC0
    go_enter Tryd.func82, Tryd.ntmps82
    go_wp2
    go_ret
    exact ⟨rfl, Below.refl _ _⟩
  | true =>
    obtain ⟨hyF, hFlt⟩ := hon ho
    rw [hyF] at i4
    have hFI : ¬ ((fK pl i : Nat) : Int) < 0 := by omega
    obtain ⟨x0', x1', x2', x3⟩ := x
    simp only at i3
    have HF := Lib.hid (fun W (hb : Below w.heap.size w W) => l10Fits_any A n c m (fK pl i) (wdK cs i) (htK cs i) (qlK cs i) x3 rs W (hA.below hb) hg hFlt bwi.2 bhi.2)
    have hfk : fitB rs n m (htK cs i) (wdK cs i) (qlK cs i) (fK pl i) = fitK rs n m cs pl i := rfl
    rw [hfk] at HF
    cases hft : fitK rs n m cs pl i with
    | false =>
      have hR := huf ho hft
      rw [hft] at HF
      clear hfk hft ho hon hoff huf hmt hnn hwo hai hat hx2 hx3 hx0 hg hp hA hB hC hm hyF
      subst hR
      generalize wdK cs i = Wi at *
      generalize htK cs i = Hi at *
      generalize qlK cs i = x2 at *
      generalize fK pl i = Fi at *
      subst hA0
      subst hB0
      subst hC0
      go_enter Tryd.func82, Tryd.ntmps82
      go_wp2
      go_region_held3 (fun w' => w'.cell? ⟨b2, o2 + i * 4, none⟩ = some (.int .i64 Wi) ∧ w'.cell? ⟨b2, o2 + i * 4 + 1, none⟩ = some (.int .i64 Hi) ∧ w'.cell? ⟨b2, o2 + i * 4 + 2, none⟩ = some (.int .i64 x2) ∧ w'.cell? ⟨b2, o2 + i * 4 + 3, none⟩ = some (.int .i64 x3) ∧ w'.cell? ⟨b3, o3 + i, none⟩ = some (.int .i64 Fi) ∧ Below w.heap.size w w')
        (first | exact ⟨i0, i1, i2, i3, i4, (Below.refl _ _).drew⟩ | exact keep5n (by assumption) hbq | go_keep)
        (first | (go_at_call 80; refine (HF.out _ ((‹_ ∧ _ ∧ _ ∧ _ ∧ _ ∧ Below w.heap.size w _›).2.2.2.2.2)).mono ?_; rintro e wq ⟨rfl, hbq⟩))
      have hbb := (‹_ ∧ _ ∧ _ ∧ _ ∧ _ ∧ Below w.heap.size w wq›).2.2.2.2.2
      go_wp2
      go_ret
      exact ⟨rfl, hbb⟩
    | true =>
      have hno := hnn hft
      have hme := fun k hk => hmt k ho hk
      rw [hft] at HF
      have HNO := Lib.hid hno
      have HME := Lib.hid hme
      have HAT := Lib.hid hat
      have HB := Lib.hid hB
      have HC := Lib.hid hC
      have hmk : ∀ k, meetK m cs pl i k = meetB m (wdK cs i) (htK cs i) (fK pl i) (wdK cs k) (htK cs k) (fK pl k) := fun k => rfl
      have HMK := Lib.hid hmk
      clear hmk hfk hft ho hon hoff huf hmt hnn hwo hai hat hx2 hx3 hx0 hg hp hA hB hC hm hyF hno hme
      generalize wdK cs i = Wi at *
      generalize htK cs i = Hi at *
      generalize qlK cs i = x2 at *
      generalize fK pl i = Fi at *
      subst hsz0
      subst hA0
      subst hB0
      subst hC0
      go_enter Tryd.func82, Tryd.ntmps82
      go_wp2
      go_region_held3 (fun w' => w'.cell? ⟨b2, o2 + i * 4, none⟩ = some (.int .i64 Wi) ∧ w'.cell? ⟨b2, o2 + i * 4 + 1, none⟩ = some (.int .i64 Hi) ∧ w'.cell? ⟨b2, o2 + i * 4 + 2, none⟩ = some (.int .i64 x2) ∧ w'.cell? ⟨b2, o2 + i * 4 + 3, none⟩ = some (.int .i64 x3) ∧ w'.cell? ⟨b3, o3 + i, none⟩ = some (.int .i64 Fi) ∧ Below w.heap.size w w')
        (first | exact ⟨i0, i1, i2, i3, i4, (Below.refl _ _).drew⟩ | exact keep5n (by assumption) hbq | go_keep)
        (first | (go_at_call 80; refine (HF.out _ ((‹_ ∧ _ ∧ _ ∧ _ ∧ _ ∧ Below w.heap.size w _›).2.2.2.2.2)).mono ?_; rintro e wq ⟨rfl, hbq⟩))
      have hbb := (‹_ ∧ _ ∧ _ ∧ _ ∧ _ ∧ Below w.heap.size w wq›).2.2.2.2.2
      go_wp2
      have HB0 := Lib.hid hbb
      clear hbb hbq HF
      go_loopw [9] (fun vk wr => ∃ k : Nat, k ≤ i ∧ vk = .int .i64 k ∧ Hid (∀ j, j < k → (onK pl j && meetK r0.size cs pl i j) = false) ∧ Hid (Below w.heap.size w wr)) (fun vk _ => i - (intOf vk).toNat)
      case atStart => exact ⟨0, Nat.zero_le _, rfl, (show Hid _ from fun j hj => absurd hj (Nat.not_lt_zero _)), HB0⟩
      case round =>
        obtain ⟨k, hk, rfl, HL, Hb⟩ := hrel
        by_cases hlt : k < i
        · have hk0 : (0 : Int) ≤ (k : Int) := by omega
          have hk1 : (k : Int) < (i : Int) := by omega
          have hkq : k < q := by omega
          have hkI : (k : Int) < (q : Int) := by omega
          obtain ⟨b2', o2', xk, hBe, _, hxk, k0, k1, k2, k3⟩ := (HB.out.below Hb.out).cut hkq
          obtain ⟨b3', o3', yk, hCe, _, hyk, k4⟩ := (HC.out.below Hb.out).int hkq
          injection hBe with hBe
          injection hBe with e1 e2
          subst e1
          subst e2
          injection hCe with hCe
          injection hCe with e1 e2
          subst e1
          subst e2
          have hak := HAT.out k xk yk hxk hyk
          rw [hak.wd] at k0
          rw [hak.ht] at k1
          obtain ⟨xk0, xk1, z2, z3⟩ := xk
          simp only at k2 k3
          have hoff := hak.off
          have hon := hak.on
          have bwk := hak.bw
          have bhk := hak.bh
          clear hak hxk hyk
          have hnx : (onK pl k && meetK r0.size cs pl i k) = false → Hid (∀ j, j < k + 1 → (onK pl j && meetK r0.size cs pl i j) = false) := fun h => Lib.hid (fun j hj => by
            by_cases e : j = k
            · subst e; exact h
            · exact HL.out j (by omega))
          have hyes := HME.out k hlt
          cases hok : onK pl k with
          | false =>
            have hy := hoff hok
            have HL2 := hnx (by rw [hok]; rfl)
            have hd : decide (yk ≥ 0) = false := by simp; omega
            clear hnx hyes hok hon hoff
            go_wp2
            go_quiet (fail)
            have hb3 := below_drewN Hb.out nq
            generalize wr.drewN nq = w3 at *
            go_wp2
            go_roundw
            case rel => exact ⟨k + 1, by omega, by go_num, HL2, Lib.hid hb3⟩
            case measure => simp [intOf]; omega
          | true =>
            obtain ⟨hyF, hFk⟩ := hon hok
            rw [hyF] at k4
            have g0 := cell_belT cc0 Hb.out
            have g1 := cell_belT i0 Hb.out
            have g2 := cell_belT i1 Hb.out
            have g3 := cell_belT i2 Hb.out
            have g4 := cell_belT i3 Hb.out
            have g5 := cell_belT i4 Hb.out
            have HM := Lib.hid (fun W => l10Meet_any r0.size Wi Hi Fi (wdK cs k) (htK cs k) (fK pl k) x2 x3 z2 z3 W hbm (by omega) (by omega) bwi.2 bhi.2 bwk.2 bhk.2)
            have hmk := HMK.out k
            rw [← hmk] at HM
            have hd : decide (((fK pl k : Nat) : Int) ≥ 0) = true := by simp
            rw [hok] at hnx hyes
            cases hmm : meetK r0.size cs pl i k with
            | true =>
              have hR := hyes (by rw [hmm]; rfl)
              rw [hmm] at HM
              clear hnx hyes hok hon hoff hmk hmm hyF HNO HME HL
              subst hR
              generalize wdK cs k = Wk at *
              generalize htK cs k = Hk at *
              generalize fK pl k = Fk at *
              clear cc0 i0 i1 i2 i3 i4
              go_wp2
              go_region_held3 (fun w' => w'.cell? ⟨b1, o1, none⟩ = some (.string r0) ∧ w'.cell? ⟨b2, o2 + i * 4, none⟩ = some (.int .i64 Wi) ∧ w'.cell? ⟨b2, o2 + i * 4 + 1, none⟩ = some (.int .i64 Hi) ∧ w'.cell? ⟨b2, o2 + i * 4 + 2, none⟩ = some (.int .i64 x2) ∧ w'.cell? ⟨b2, o2 + i * 4 + 3, none⟩ = some (.int .i64 x3) ∧ w'.cell? ⟨b3, o3 + i, none⟩ = some (.int .i64 Fi) ∧ w'.cell? ⟨b2, o2 + k * 4, none⟩ = some (.int .i64 Wk) ∧ w'.cell? ⟨b2, o2 + k * 4 + 1, none⟩ = some (.int .i64 Hk) ∧ w'.cell? ⟨b2, o2 + k * 4 + 2, none⟩ = some (.int .i64 z2) ∧ w'.cell? ⟨b2, o2 + k * 4 + 3, none⟩ = some (.int .i64 z3) ∧ w'.cell? ⟨b3, o3 + k, none⟩ = some (.int .i64 Fk) ∧ Below wr.heap.size wr w')
                (first | exact ⟨g0, g1, g2, g3, g4, g5, k0, k1, k2, k3, k4, (Below.refl _ _).drew⟩ | exact keep11n (by assumption) hbq | go_keep)
                (first | (go_at_call 102; refine (HM.out _).mono ?_; rintro e wq ⟨rfl, hbq⟩))
              have hbb := (‹_ ∧ _ ∧ _ ∧ _ ∧ _ ∧ _ ∧ _ ∧ _ ∧ _ ∧ _ ∧ _ ∧ Below wr.heap.size wr wq›).2.2.2.2.2.2.2.2.2.2.2
              go_wp2
              go_ret
              exact ⟨rfl, Hb.out.trans (hbb.mono Hb.out.size)⟩
            | false =>
              have HL2 := hnx (by rw [hmm]; rfl)
              rw [hmm] at HM
              clear hnx hyes hok hon hoff hmk hmm hyF
              generalize wdK cs k = Wk at *
              generalize htK cs k = Hk at *
              generalize fK pl k = Fk at *
              clear cc0 i0 i1 i2 i3 i4
              go_wp2
              go_region_held3 (fun w' => w'.cell? ⟨b1, o1, none⟩ = some (.string r0) ∧ w'.cell? ⟨b2, o2 + i * 4, none⟩ = some (.int .i64 Wi) ∧ w'.cell? ⟨b2, o2 + i * 4 + 1, none⟩ = some (.int .i64 Hi) ∧ w'.cell? ⟨b2, o2 + i * 4 + 2, none⟩ = some (.int .i64 x2) ∧ w'.cell? ⟨b2, o2 + i * 4 + 3, none⟩ = some (.int .i64 x3) ∧ w'.cell? ⟨b3, o3 + i, none⟩ = some (.int .i64 Fi) ∧ w'.cell? ⟨b2, o2 + k * 4, none⟩ = some (.int .i64 Wk) ∧ w'.cell? ⟨b2, o2 + k * 4 + 1, none⟩ = some (.int .i64 Hk) ∧ w'.cell? ⟨b2, o2 + k * 4 + 2, none⟩ = some (.int .i64 z2) ∧ w'.cell? ⟨b2, o2 + k * 4 + 3, none⟩ = some (.int .i64 z3) ∧ w'.cell? ⟨b3, o3 + k, none⟩ = some (.int .i64 Fk) ∧ Below wr.heap.size wr w')
                (first | exact ⟨g0, g1, g2, g3, g4, g5, k0, k1, k2, k3, k4, (Below.refl _ _).drew⟩ | exact keep11n (by assumption) hbq | go_keep)
                (first | (go_at_call 102; refine (HM.out _).mono ?_; rintro e wq ⟨rfl, hbq⟩))
              have hbb := (‹_ ∧ _ ∧ _ ∧ _ ∧ _ ∧ _ ∧ _ ∧ _ ∧ _ ∧ _ ∧ _ ∧ Below wr.heap.size wr wq›).2.2.2.2.2.2.2.2.2.2.2
              go_wp2
              go_roundw
              case rel => exact ⟨k + 1, by omega, by go_num, HL2, Lib.hid (Hb.out.trans (hbb.mono Hb.out.size))⟩
              case measure => simp [intOf]; omega
        · have hki : k = i := by omega
          subst hki
          have hR := HNO.out HL.out
          clear HNO HME
          subst hR
          go_wp2
          go_ret
          exact ⟨rfl, Hb.out⟩
end Go.Proofs.YtiibhejjeijdaaaDoor
