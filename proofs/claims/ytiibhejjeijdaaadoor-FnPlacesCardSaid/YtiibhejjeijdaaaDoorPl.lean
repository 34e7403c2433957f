/- Where pieces fit: fieldsOf of the program, l10Fits of the reference. -/
import Derived.Test.YtiibhejjeijdaaaDoorHi
import Derived.Laws.BitsAllLaws
namespace Go.Proofs.YtiibhejjeijdaaaDoor
open Go.RowKit

/-- A hide of n rows and m columns. -/
structure Grid (rs : List ByteArray) (n m : Nat) : Prop where
  len : rs.length = n
  bn : 1 ≤ n ∧ n ≤ 6
  bm : 1 ≤ m ∧ m ≤ 6
  sz : ∀ (y : Nat) (r : ByteArray), rs[y]? = some r → r.size = m
  fld : ∀ (y : Nat) (r : ByteArray), rs[y]? = some r → ∀ x, x < m → 0 ≤ qS (chr r x)
def colN (rs : List ByteArray) : Nat := (rs.getD 0 ByteArray.empty).size
theorem HOk.grid {rs : List ByteArray} {n : Nat} (h : HOk rs) (hl : rs.length = n) : Grid rs n (colN rs) := by
  have h0 : ∃ r, rs[0]? = some r := ⟨_, List.getElem?_eq_getElem (by have := h.len; omega)⟩
  obtain ⟨r0, hr0⟩ := h0
  have hc : colN rs = r0.size := by simp [colN, List.getD, hr0]
  have hr := row_at h hr0
  refine ⟨hl, by rw [← hl]; exact h.len, by rw [hc]; exact hr.bd, fun y r hy => (row_at h hy).eq, fun y r hy x hx => ?_⟩
  have := row_at h hy
  exact this.fld x (by rw [this.eq]; exact hx)
/-- The quality of a field. -/
def qAt (rs : List ByteArray) (y x : Nat) : Int := qS (chr (rs.getD y ByteArray.empty) x)
theorem qAt_at {rs : List ByteArray} {y x : Nat} {r : ByteArray} (h : rs[y]? = some r) : qAt rs y x = qS (chr r x) := by simp [qAt, List.getD, h]
theorem Grid.at {rs : List ByteArray} {n m : Nat} (h : Grid rs n m) {y : Nat} (hy : y < n) : ∃ r, rs[y]? = some r := ⟨_, List.getElem?_eq_getElem (by rw [h.len]; exact hy)⟩
/-- All fields ahead of (y, x), row by row, in the rectangle from (r, q), W wide, are good enough. -/
def GoodR (rs : List ByteArray) (r q W : Nat) (ql : Int) (y x : Nat) : Prop := ∀ y' x', r ≤ y' → q ≤ x' → x' < q + W → (y' < y ∨ (y' = y ∧ x' < x)) → ql ≤ qAt rs y' x'
theorem GoodR.zero (rs : List ByteArray) (r q W : Nat) (ql : Int) : GoodR rs r q W ql r q := fun y' x' h1 h2 _ h4 => by omega
theorem GoodR.step {rs : List ByteArray} {r q W y x : Nat} {ql : Int} (h : GoodR rs r q W ql y x) (hq : ql ≤ qAt rs y x) : GoodR rs r q W ql y (x + 1) := fun y' x' h1 h2 h3 h4 => by
  by_cases e : y' = y ∧ x' = x
  · obtain ⟨rfl, rfl⟩ := e; exact hq
  · exact h y' x' h1 h2 h3 (by omega)
theorem GoodR.row {rs : List ByteArray} {r q W y : Nat} {ql : Int} (h : GoodR rs r q W ql y (q + W)) : GoodR rs r q W ql (y + 1) q := fun y' x' h1 h2 h3 h4 => h y' x' h1 h2 h3 (by omega)
/-- The piece fits at the field f. -/
structure FitP (rs : List ByteArray) (n m H W : Nat) (ql : Int) (f : Nat) : Prop where
  hh : f / m + H ≤ n
  hw : f % m + W ≤ m
  good : ∀ y x, f / m ≤ y → y < f / m + H → f % m ≤ x → x < f % m + W → ql ≤ qAt rs y x
open Classical in
noncomputable def fitB (rs : List ByteArray) (n m H W : Nat) (ql : Int) (f : Nat) : Bool := decide (FitP rs n m H W ql f)
open Classical in
theorem fitB_yes {rs : List ByteArray} {n m H W f : Nat} {ql : Int} (h : FitP rs n m H W ql f) : fitB rs n m H W ql f = true := by unfold fitB; exact decide_eq_true h
open Classical in
theorem fitB_no {rs : List ByteArray} {n m H W f : Nat} {ql : Int} (h : ¬ FitP rs n m H W ql f) : fitB rs n m H W ql f = false := by unfold fitB; exact decide_eq_false h
open Classical in
theorem fitB_true {rs : List ByteArray} {n m H W f : Nat} {ql : Int} (h : fitB rs n m H W ql f = true) : FitP rs n m H W ql f := of_decide_eq_true h
theorem GoodR.fit {rs : List ByteArray} {n m H W f r q : Nat} {ql : Int} (h : GoodR rs r q W ql (r + H) q) (hr : f / m = r) (hq : f % m = q) (h1 : r + H ≤ n) (h2 : q + W ≤ m) : FitP rs n m H W ql f :=
  ⟨by omega, by omega, fun y x a b c d => h y x (by omega) (by omega) (by omega) (.inl (by omega))⟩
/-- The field b is one of the piece at f. -/
def InR (m H W f b : Nat) : Prop := ∃ y x, f / m ≤ y ∧ y < f / m + H ∧ f % m ≤ x ∧ x < f % m + W ∧ b = y * m + x
def PartR (m r q W y x b : Nat) : Prop := ∃ y' x', r ≤ y' ∧ q ≤ x' ∧ x' < q + W ∧ (y' < y ∨ (y' = y ∧ x' < x)) ∧ b = y' * m + x'
/-- The set S is just the fields ahead of (y, x). -/
structure SetR (m r q W S y x : Nat) : Prop where
  lt : S < 2 ^ 36
  bit : ∀ b, S.testBit b = true ↔ PartR m r q W y x b
theorem SetR.zero (m r q W : Nat) : SetR m r q W 0 r q := by
  refine ⟨by simp, fun b => ?_⟩
  rw [Nat.zero_testBit]
  constructor
  · intro h
    cases h
  · rintro ⟨y', x', h1, h2, h3, h4, _⟩
    omega
theorem SetR.step {m r q W S y x : Nat} (h : SetR m r q W S y x) (hr : r ≤ y) (hq : q ≤ x) (hx : x < q + W) (hp : y * m + x < 36) : SetR m r q W (S ||| 2 ^ (y * m + x)) y (x + 1) := by
  refine ⟨Nat.or_lt_two_pow h.lt (Nat.pow_lt_pow_right (by omega) hp), fun b => ?_⟩
  rw [Nat.testBit_or, Nat.testBit_two_pow, Bool.or_eq_true, h.bit b, decide_eq_true_eq]
  constructor
  · rintro (⟨y', x', h1, h2, h3, h4, h5⟩ | rfl)
    · exact ⟨y', x', h1, h2, h3, by omega, h5⟩
    · exact ⟨y, x, hr, hq, hx, by omega, rfl⟩
  · rintro ⟨y', x', h1, h2, h3, h4, h5⟩
    by_cases e : y' = y ∧ x' = x
    · obtain ⟨rfl, rfl⟩ := e
      exact .inr h5.symm
    · exact .inl ⟨y', x', h1, h2, h3, by omega, h5⟩
theorem SetR.row {m r q W S y : Nat} (h : SetR m r q W S y (q + W)) : SetR m r q W S (y + 1) q := by
  refine ⟨h.lt, fun b => ?_⟩
  rw [h.bit b]
  constructor
  · rintro ⟨y', x', h1, h2, h3, h4, h5⟩
    exact ⟨y', x', h1, h2, h3, by omega, h5⟩
  · rintro ⟨y', x', h1, h2, h3, h4, h5⟩
    exact ⟨y', x', h1, h2, h3, by omega, h5⟩
theorem SetR.fin {m r q W S H f : Nat} (h : SetR m r q W S (r + H) q) (hr : f / m = r) (hq : f % m = q) : ∀ b, S.testBit b = true ↔ InR m H W f b := fun b => by
  rw [h.bit b]
  unfold InR
  rw [hr, hq]
  constructor
  · rintro ⟨y', x', h1, h2, h3, h4, h5⟩
    exact ⟨y', x', h1, by omega, h2, h3, h5⟩
  · rintro ⟨y', x', h1, h2, h3, h4, h5⟩
    exact ⟨y', x', h1, h3, h4, by omega, h5⟩
theorem orU (a b : Nat) (ha : a < 4611686018427387904) (hb : b < 4611686018427387904) : bits .or .u64 (a : Int) (b : Int) = ((a ||| b : Nat) : Int) := by
  have e : ∀ x : Nat, x < 4611686018427387904 → (BitVec.ofInt 64 (x : Int)).toNat = x := fun x hx => by
    rw [BitVec.ofInt_natCast, BitVec.toNat_ofNat]; exact Nat.mod_eq_of_lt (by omega)
  have hx : a ||| b < 2 ^ 62 := Nat.or_lt_two_pow (by omega) (by omega)
  show IntKind.u64.wrap ((BitVec.ofInt 64 (a : Int) ||| BitVec.ofInt 64 (b : Int)).toNat : Int) = _
  rw [BitVec.toNat_or, e a ha, e b hb]
  exact IntWalk.u64_in _ (by omega)
theorem wrapU (k : Nat) (hk : k ≤ 61) : IntKind.u64.wrap (2 ^ k) = ((2 ^ k : Nat) : Int) := by
  have e : (2 : Int) ^ k = ((2 ^ k : Nat) : Int) := by rw [Int.natCast_pow]; rfl
  have h : 2 ^ k ≤ 2 ^ 61 := Nat.pow_le_pow_right (by omega) hk
  rw [e]
  generalize 2 ^ k = y at *
  exact IntWalk.u64_in _ (by omega)
theorem orPU (S k : Nat) (hS : S < 2 ^ 36) (hk : k ≤ 60) : bits .or .u64 (S : Int) (2 ^ k) = ((S ||| 2 ^ k : Nat) : Int) := by
  have e : (2 : Int) ^ k = ((2 ^ k : Nat) : Int) := by rw [Int.natCast_pow]; rfl
  have h : 2 ^ k ≤ 2 ^ 60 := Nat.pow_le_pow_right (by omega) hk
  rw [e]
  exact orU S (2 ^ k) (by omega) (by omega)
theorem divmod {f n m : Nat} (hm : 1 ≤ m) (hf : f < n * m) : f / m < n ∧ f % m < m ∧ f = f / m * m + f % m := by
  refine ⟨Nat.div_lt_of_lt_mul (by rw [Nat.mul_comm]; exact hf), Nat.mod_lt _ hm, ?_⟩
  have := Nat.div_add_mod f m
  rw [Nat.mul_comm] at this
  exact this.symm
theorem place_lt {y x n m : Nat} (hy : y < n) (hx : x < m) (hn : n ≤ 6) (hm : m ≤ 6) : y * m + x < 36 := by
  have h1 : y * m ≤ 5 * m := Nat.mul_le_mul_right m (by omega)
  omega

set_option maxHeartbeats 1000000 in
theorem sizeOf_any (A : Option Addr) (n c m : Nat) (rs : List ByteArray) (w : World) (h : Rd w 1 A n c (txs rs)) (hg : Grid rs n m) :
    Calls Tryd.prog 56 #[.slice A n c] w fun e w' => e = .returned (.tuple #[.int .i64 n, .int .i64 m]) ∧ Below w.heap.size w w' := by
  have h1 := h.cap
  have h2 := h.max
  have hbn := hg.bn
  have hbm := hg.bm
  have hn0 : 0 < n := by omega
  have hn1 : (0 : Int) < (n : Int) := by omega
  obtain ⟨b, o, r, hA, hbl, hx, c0⟩ := h.txt hn0
  subst hA
  rw [Nat.add_zero] at c0
  have hsz := hg.sz 0 r hx
  clear h hg hx
  go_enter Tryd.func56, Tryd.ntmps56
  go_wp2
  go_quiet (fail)
  go_wp2
  go_ret2
  exact ⟨rfl, below_drewN (Below.refl _ _) _⟩

/-- What fieldsOf hands back: z: it fits; S: its fields. -/
def FldPost (m H W f : Nat) (z : Bool) (w : World) (e : Ending) (w' : World) : Prop :=
  ∃ S : Nat, e = .returned (.tuple #[.int .u64 S, .bool z]) ∧ S < 2 ^ 36 ∧ (z = true → ∀ b, S.testBit b = true ↔ InR m H W f b) ∧ Below w.heap.size w w'
set_option maxRecDepth 100000 in
set_option maxHeartbeats 4000000 in
theorem fieldsOf_any (A : Option Addr) (n c m f W H : Nat) (ql wo : Int) (rs : List ByteArray) (w : World) (h : Rd w 1 A n c (txs rs)) (hg : Grid rs n m) (hf : f < n * m) (hW : W ≤ 6) (hH : H ≤ 6) :
    Calls Tryd.prog 71 #[.slice A n c, .agg #[.int .i64 W, .int .i64 H, .int .i64 ql, .int .i64 wo], .int .i64 f] w (FldPost m H W f (fitB rs n m H W ql f) w) := by
  have h1 := h.cap
  have h2 := h.max
  have hbn := hg.bn
  have hbm := hg.bm
  obtain ⟨hr, hq, hfe⟩ := divmod hbm.1 hf
  have hyes := fitB_yes (rs := rs) (n := n) (m := m) (H := H) (W := W) (ql := ql) (f := f)
  have hno := fitB_no (rs := rs) (n := n) (m := m) (H := H) (W := W) (ql := ql) (f := f)
  have hfin := fun (S r q : Nat) (hs : SetR m r q W S (r + H) q) (a : f / m = r) (b : f % m = q) => hs.fin a b
  have hd1 : (f : Int) / (m : Int) = ((f / m : Nat) : Int) := by rw [Int.natCast_ediv]
  have hd2 : (f : Int) % (m : Int) = ((f % m : Nat) : Int) := by rw [Int.natCast_emod]
  have hf36 : f < 36 := by
    have h1 : n * m ≤ 6 * m := Nat.mul_le_mul_right m (by omega)
    omega
  obtain ⟨r, hre⟩ : ∃ r, f / m = r := ⟨_, rfl⟩
  obtain ⟨q, hqe⟩ : ∃ q, f % m = q := ⟨_, rfl⟩
  rw [hre] at hr hfe hd1
  rw [hqe] at hq hfe hd2
  have hFit := fun (h1 : r + H ≤ n) (h2 : q + W ≤ m) (hgd : GoodR rs r q W ql (r + H) q) => (hgd.fit hre hqe h1 h2 : FitP rs n m H W ql f)
  have hNo1 : ¬ r + H ≤ n → ¬ FitP rs n m H W ql f := fun hn h => hn (by have := h.hh; omega)
  have hNo2 : ¬ q + W ≤ m → ¬ FitP rs n m H W ql f := fun hn h => hn (by have := h.hw; omega)
  have hNo3 : ∀ y x, r ≤ y → y < r + H → q ≤ x → x < q + W → qAt rs y x < ql → ¬ FitP rs n m H W ql f := fun y x a b c d e h => by have := h.good y x (by omega) (by omega) (by omega) (by omega); omega
  have hfin2 := fun (S : Nat) (hs : SetR m r q W S (r + H) q) => hfin S r q hs hre hqe
  have hb0 : Below w.heap.size w (w.alloc (.cells #[.int .i64 W, .int .i64 H, .int .i64 ql, .int .i64 wo] 35)) := (Below.refl _ _).alloc (Nat.le_refl _) _
  have HX := Lib.hid (Box.new w #[.int .i64 W, .int .i64 H, .int .i64 ql, .int .i64 wo] 35)
  have HSO := Lib.hid (sizeOf_any A n c m rs _ (h.below hb0) hg)
  have HB0 := Lib.hid hb0
  generalize fitB rs n m H W ql f = z at *
  have HH := Lib.hid h
  have HG := Lib.hid hg
  have HY := Lib.hid hyes
  have HN := Lib.hid hno
  have HFT := Lib.hid hFit
  have HN1 := Lib.hid hNo1
  have HN2 := Lib.hid hNo2
  have HN3 := Lib.hid hNo3
  have HF2 := Lib.hid hfin2
  clear h hg hyes hno hfin hFit hNo1 hNo2 hNo3 hfin2 hb0 hf hre hqe hfe
  have hf0 : (0 : Int) ≤ (f : Int) := by omega
  have hm1 : (1 : Int) ≤ (m : Int) := by omega
  have hmz : ((m : Int) == 0) = false := by simp; omega
  go_enter Tryd.func71, Tryd.ntmps71
  go_wp2_with fail
  refine (HSO.out).mono ?_
  rintro e w1 ⟨rfl, hb1⟩
  have HX1 := Lib.hid (HX.out.below hb1)
  have HB1 := Lib.hid (HB0.out.trans (hb1.mono HB0.out.size))
  clear hb1 HX
  go_wp2
  go_quiet (fail)
  (try rw [hd1])
  (try rw [hd2])
  clear hd1 hd2
  have HX2 := Lib.hid (HX1.out.below (below_drewN (Below.refl w1.heap.size w1) nq))
  have HB2 := Lib.hid (below_drewN HB1.out nq)
  generalize w1.drewN nq = w2 at *
  have k0 := HX2.out.cell 0
  have k1 := HX2.out.cell 1
  have k2 := HX2.out.cell 2
  simp at k0 k1 k2
  clear HX1 HB1
  by_cases hrH : r + H ≤ n
  · by_cases hqW : q + W ≤ m
    · have t1 : decide ((n : Int) < (r : Int) + (H : Int)) = false := by simp; omega
      have t2 : decide ((m : Int) < (q : Int) + (W : Int)) = false := by simp; omega
      go_wp2
      go_loopw [12, 13] (fun vs vy wr => ∃ (y S : Nat), r ≤ y ∧ y ≤ r + H ∧ vy = .int .i64 y ∧ vs = .int .u64 S ∧ Hid (SetR m r q W S y q) ∧ Hid (GoodR rs r q W ql y q) ∧ Hid (Box wr w.heap.size #[.int .i64 W, .int .i64 H, .int .i64 ql, .int .i64 wo]) ∧ Hid (Below w.heap.size w wr)) (fun _ vy _ => r + H - (intOf vy).toNat)
      case atStart => exact ⟨r, 0, Nat.le_refl _, by omega, rfl, rfl, Lib.hid (SetR.zero m r q W), Lib.hid (GoodR.zero rs r q W ql), HX2, HB2⟩
      case round =>
        clear HX2 HB2 k0 k1 k2
        obtain ⟨y, S, hry, hyH, rfl, rfl, HS, HGD, HX, HB⟩ := hrel
        have k0 := HX.out.cell 0
        have k1 := HX.out.cell 1
        have k2 := HX.out.cell 2
        simp at k0 k1 k2
        by_cases hly : y < r + H
        · have t3 : (y : Int) < (r : Int) + (H : Int) := by omega
          have t4 : decide ((y : Int) < (r : Int) + (H : Int)) = true := by simpa using t3
          go_wp2
          go_loopw [12, 14] (fun vs vx wr => ∃ (x S : Nat), q ≤ x ∧ x ≤ q + W ∧ vx = .int .i64 x ∧ vs = .int .u64 S ∧ Hid (SetR m r q W S y x) ∧ Hid (GoodR rs r q W ql y x) ∧ Hid (Box wr w.heap.size #[.int .i64 W, .int .i64 H, .int .i64 ql, .int .i64 wo]) ∧ Hid (Below w.heap.size w wr)) (fun _ vx _ => q + W - (intOf vx).toNat)
          case atStart => exact ⟨q, S, Nat.le_refl _, by omega, rfl, rfl, HS, HGD, HX, HB⟩
          case round =>
            clear HS HGD HX HB k0 k1 k2
            obtain ⟨x, S, hqx, hxW, rfl, rfl, HS, HGD, HX, HB⟩ := hrel
            have k0 := HX.out.cell 0
            have k1 := HX.out.cell 1
            have k2 := HX.out.cell 2
            simp at k0 k1 k2
            by_cases hlx : x < q + W
            · have hyn : y < n := by omega
              have hxm : x < m := by omega
              have hy0 : (0 : Int) ≤ (y : Int) := by omega
              have hy1 : (y : Int) < (n : Int) := by omega
              have hx0 : (0 : Int) ≤ (x : Int) := by omega
              obtain ⟨b, o, rr, hA, hbl, hx, c0⟩ := HH.out.txt hyn
              subst hA
              have d0 := cell_belT c0 HB.out
              have hsz := HG.out.sz y rr hx
              have hxr : x < rr.size := by omega
              have hx1 : (x : Int) < (rr.size : Int) := by omega
              have hqc := fun W => qualityOf_any ((rr[x]'hxr).toNat : Int) W
              have hqi : qI ((rr[x]'hxr).toNat : Int) = qAt rs y x := by
                rw [chr_at hxr, qAt_at hx]
                exact q_eq (HG.out.fld y rr hx x hxm)
              rw [hqi] at hqc
              have hbad := fun h => HN.out (HN3.out y x hry hly hqx hlx h)
              have hgood := fun h => HGD.out.step (rs := rs) (x := x) h
              have hp36 := place_lt hyn hxm hbn.2 hbm.2
              have hset := HS.out.step hry hqx hlx hp36
              have hor := orPU S (y * m + x) HS.out.lt (by omega)
              have hwu := wrapU (y * m + x) (by omega)
              obtain ⟨p, hpe⟩ : ∃ p, y * m = p := ⟨_, rfl⟩
              have hpI : (y : Int) * (m : Int) = (p : Int) := by rw [← hpe, Int.natCast_mul]
              rw [hpe] at hp36 hset hor hwu
              have hqb : -1 ≤ qAt rs y x ∧ qAt rs y x ≤ 3 := qS_bd _
              have HQ := Lib.hid hqc
              have HBD := Lib.hid hbad
              have HGO := Lib.hid hgood
              have HST := Lib.hid hset
              have HOR := Lib.hid hor
              have hps : p + x ≤ 64 := by omega
              have hpsI : (p : Int) + (x : Int) ≤ 64 := by omega
              clear hqc hqi hbad hgood hset hor hx c0 hpe
              generalize qAt rs y x = qq at *
              by_cases hql : qq < ql
              · have hz := HBD.out hql
                subst hz
                clear HBD HGO HST
                go_wp2
                go_quiet ((go_at_call 58; refine Calls.quiet_of_same ((HQ.out _).mono fun _ _ h => ⟨h.1, h.2.symm⟩)))
                go_wp2
                go_ret2
                exact ⟨0, rfl, by simp, by simp, below_drewN HB.out _⟩
              · have HG2 := Lib.hid (HGO.out (by omega))
                clear HBD HGO
                go_wp2
                go_quiet ((go_at_call 58; refine Calls.quiet_of_same ((HQ.out _).mono fun _ _ h => ⟨h.1, h.2.symm⟩)))
                have HX3 := Lib.hid (HX.out.below (below_drewN (Below.refl wr.heap.size wr) nq))
                have HB3 := Lib.hid (below_drewN HB.out nq)
                go_wp2
                go_roundw
                case rel => exact ⟨x + 1, _, by omega, by omega, by go_num, by rw [HOR.out], HST, HG2, HX3, HB3⟩
                case measure => simp [intOf]; omega
            · have hxe : x = q + W := by omega
              subst hxe
              have HS2 := Lib.hid HS.out.row
              have HG2 := Lib.hid HGD.out.row
              go_wp2
              go_roundw
              case rel => exact ⟨y + 1, S, by omega, by omega, by go_num, rfl, HS2, HG2, HX, HB⟩
              case measure => simp [intOf]; omega
        · have hye : y = r + H := by omega
          subst hye
          have hz := HY.out (HFT.out hrH hqW HGD.out)
          subst hz
          have hbits := HF2.out S HS.out
          have HBI := Lib.hid hbits
          clear hbits
          go_wp2
          go_ret2
          exact ⟨S, rfl, HS.out.lt, fun _ => HBI.out, HB.out⟩
    · have hz := HN.out (HN2.out hqW)
      subst hz
      go_wp2
      go_ret2
      exact ⟨0, rfl, by simp, by simp, HB2.out⟩
  · have hz := HN.out (HN1.out hrH)
    subst hz
    go_wp2
    go_ret2
    exact ⟨0, rfl, by simp, by simp, HB2.out⟩
end Go.Proofs.YtiibhejjeijdaaaDoor
