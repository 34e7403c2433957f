/- The laws' own helpers for operations: eqOp, eqOpS, markText, markOpS. -/
import Derived.Test.YtgghjieeckkpbaaOpA
import Derived.Deep.RegionHeld3
import Derived.Laws.BytesArg
namespace Go.Proofs.Ytgghjieeckkpbaa
open Go.RowKit

set_option maxHeartbeats 1000000 in
theorem eqOp_any (nm : ByteArray) (mn : Int) (A : Option Addr) (n c : Nat) (B : Option Addr) (m d : Nat) (xs : List Int) (w : World) (hA : Rd w 1 A n c (ints xs)) (hB : Rd w 1 B m d (ints xs)) :
    Calls Try.prog 82 #[.agg #[.string nm, .int .i64 mn, .slice A n c], .agg #[.string nm, .int .i64 mn, .slice B m d]] w fun e w' => e = .returned (.bool true) ∧ Below w.heap.size w w' := by
  have hb1 : Below w.heap.size w ((w.alloc (Obj.cells #[.string nm, .int .i64 mn, .slice A n c] 41)).alloc (Obj.cells #[.string nm, .int .i64 mn, .slice B m d] 41)) := (by go_grown)
  have hcall := eqInt64S_any A n c xs B m d xs _ (hA.below hb1) (hB.below hb1)
  rw [eqL_self] at hcall
  have HC := Lib.hid hcall
  have HB1 := Lib.hid hb1
  clear hA hB hcall hb1
  go_enter Try.func82, Try.ntmps82
  go_wp2_with fail
  refine (HC.out).mono ?_
  rintro e w2 ⟨rfl, hb2⟩
  go_wp2
  go_ret
  exact ⟨rfl, HB1.out.trans (hb2.mono HB1.out.size)⟩

/-- Two operations in the heap, as the walk of eqOpS needs them. -/
structure TwoO (V W : World) (b o b' o' : Nat) (v0 v1 v2 v3 v4 v5 : Value) : Prop where
  c0 : W.cell? ⟨b, o, none⟩ = some v0
  c1 : W.cell? ⟨b, o + 1, none⟩ = some v1
  c2 : W.cell? ⟨b, o + 2, none⟩ = some v2
  d0 : W.cell? ⟨b', o', none⟩ = some v3
  d1 : W.cell? ⟨b', o' + 1, none⟩ = some v4
  d2 : W.cell? ⟨b', o' + 2, none⟩ = some v5
  bel : Below V.heap.size V W
theorem keepO {V W w' : World} {b o b' o' : Nat} {v0 v1 v2 v3 v4 v5 : Value} (e : W.cell? ⟨b, o, none⟩ = some v0 ∧ W.cell? ⟨b, o + 1, none⟩ = some v1 ∧ W.cell? ⟨b, o + 2, none⟩ = some v2 ∧ W.cell? ⟨b', o', none⟩ = some v3 ∧ W.cell? ⟨b', o' + 1, none⟩ = some v4 ∧ W.cell? ⟨b', o' + 2, none⟩ = some v5 ∧ Below V.heap.size V W) (hb : Below W.heap.size W w') :
    w'.cell? ⟨b, o, none⟩ = some v0 ∧ w'.cell? ⟨b, o + 1, none⟩ = some v1 ∧ w'.cell? ⟨b, o + 2, none⟩ = some v2 ∧ w'.cell? ⟨b', o', none⟩ = some v3 ∧ w'.cell? ⟨b', o' + 1, none⟩ = some v4 ∧ w'.cell? ⟨b', o' + 2, none⟩ = some v5 ∧ Below V.heap.size V w' := by
  obtain ⟨e0, e1, e2, e3, e4, e5, eb⟩ := e
  exact ⟨cell_bel e0 hb, cell_bel e1 hb, cell_bel e2 hb, cell_bel e3 hb, cell_bel e4 hb, cell_bel e5 hb, eb.trans (hb.mono eb.size)⟩

set_option maxRecDepth 100000 in
set_option maxHeartbeats 2000000 in
theorem eqOpS_any (A : Option Addr) (n c : Nat) (B : Option Addr) (d : Nat) (ops : List OpV) (w : World) (hA : RdO w A n c ops) (hB : RdO w B n d ops) :
    Calls Try.prog 35 #[.slice A n c, .slice B n d] w fun e w' => e = .returned (.bool true) ∧ Below w.heap.size w w' := by
  have h1 := hA.cap
  have h2 := hA.max
  have h3 := hB.cap
  have h4 := hB.max
  have HA := Lib.hid hA
  have HB := Lib.hid hB
  clear hA hB
  go_enter Try.func35, Try.ntmps35
  go_wp2
  go_loopw [5] (fun i wr => ∃ k : Nat, k ≤ n ∧ i = .int .i64 k ∧ Below w.heap.size w wr) (fun i _ => n - (intOf i).toNat)
  case atStart => exact ⟨0, Nat.zero_le _, rfl, Below.refl _ _⟩
  case round =>
    obtain ⟨k, hk, rfl, hb⟩ := hrel
    by_cases hlt : k < n
    · obtain ⟨p, b, o, C, m, e, hp, hps, hA, hbl, hc0, hc1, hc2, hr⟩ := (HA.out.below hb).op hlt
      obtain ⟨p', b', o', D, m', e', hp', _, hB, hbl', hd0, hd1, hd2, hr'⟩ := (HB.out.below hb).op hlt
      rw [hp] at hp'
      injection hp' with hp'
      subst hp'
      subst hA
      subst hB
      obtain ⟨nm, mn, bf⟩ := p
      simp only at hc0 hc1 hc2 hd0 hd1 hd2 hr hr'
      have HR := Lib.hid hr
      have HR' := Lib.hid hr'
      have Hb := Lib.hid hb
      clear hr hr' hb hp
      have hk0 : (0 : Int) ≤ (k : Int) := by omega
      have hk1 : (k : Int) < (n : Int) := by omega
      go_wp2
      go_region_held3 (fun w' => w'.cell? ⟨b, o + k * 3, none⟩ = some (.string nm) ∧ w'.cell? ⟨b, o + k * 3 + 1, none⟩ = some (.int .i64 mn) ∧ w'.cell? ⟨b, o + k * 3 + 2, none⟩ = some (.slice C m e) ∧ w'.cell? ⟨b', o' + k * 3, none⟩ = some (.string nm) ∧ w'.cell? ⟨b', o' + k * 3 + 1, none⟩ = some (.int .i64 mn) ∧ w'.cell? ⟨b', o' + k * 3 + 2, none⟩ = some (.slice D m' e') ∧ Below wr.heap.size wr w')
        (first | exact ⟨hc0, hc1, hc2, hd0, hd1, hd2, (Below.refl _ _).drew⟩ | exact keepO (by assumption) hb | go_keep)
        (first | (go_at_call 82; refine (eqOp_any nm mn C m e D m' e' bf _ (HR.out.below (‹_ ∧ _ ∧ _ ∧ _ ∧ _ ∧ _ ∧ Below wr.heap.size wr _›).2.2.2.2.2.2) (HR'.out.below (‹_ ∧ _ ∧ _ ∧ _ ∧ _ ∧ _ ∧ Below wr.heap.size wr _›).2.2.2.2.2.2)).mono ?_; rintro e w' ⟨rfl, hb⟩))
      have hbb : Below wr.heap.size wr w' := (‹_ ∧ _ ∧ _ ∧ _ ∧ _ ∧ _ ∧ Below wr.heap.size wr w'›).2.2.2.2.2.2
      have b3 := Hb.out.trans (hbb.mono Hb.out.size)
      go_wp2
      go_roundw
      case rel => exact ⟨k + 1, by omega, by go_num, b3⟩
      case measure => simp [intOf]; omega
    · go_wp2
      go_ret
      exact ⟨rfl, hb⟩

set_option maxRecDepth 100000 in
set_option maxHeartbeats 1000000 in
theorem markTextO_any (k : Int) (w : World) (h0 : 0 < k) (h1 : k ≤ 9223372036854775807) :
    Calls Try.prog 92 #[.int .i64 k] w fun e w' => (∃ s, e = .returned (.string s)) ∧ Below w.heap.size w w' := by
  have hk : ¬ k ≤ 0 := by omega
  go_enter Try.func92, Try.ntmps92
  go_wp2
  go_loopw [0, 3] (fun vk vs wr => ∃ (q : Nat) (x : Int) (s : ByteArray), vk = .int .i64 x ∧ vs = .string s ∧ 0 ≤ x ∧ x ≤ k ∧ x < 2 ^ q ∧ q ≤ 63 ∧ s.size + q ≤ 63 ∧ Below w.heap.size w wr) (fun vk _ _ => (intOf vk).toNat)
  case atStart => exact ⟨63, k, ByteArray.empty, rfl, rfl, by omega, Int.le_refl _, by omega, by omega, by simp, Below.refl _ _⟩
  case round =>
    obtain ⟨q, x, s, rfl, rfl, hx0, hxk, hxq, hq, hs, hb⟩ := hrel
    by_cases hx : 0 < x
    · cases q with
      | zero => simp at hxq; omega
      | succ q =>
        have hp : (2 : Int) ^ (q + 1) = 2 * 2 ^ q := by rw [Int.pow_succ]; omega
        rw [hp] at hxq
        have hdv : 0 ≤ x / 10 ∧ x / 10 < 2 ^ q ∧ x / 10 < x := by omega
        have hcv := run_convert_bytes_arg (P := Try.prog) (wr.alloc (Obj.cells #[Value.int .u8 (48 + x % 10)] 5)) 22 5 Try.underlying22 Try.underlying5 wr.heap.size 0 1 1 [48 + x % 10] rfl (fun i hi => by
          have : i = 0 := by omega
          subst this
          simp) 9 Try.underlying9
        have hsz : (strOfNums [48 + x % 10] ++ s).size = 1 + s.size := by rw [ByteArray.size_append]; rfl
        have hs1 : (strOfNums [48 + x % 10]).size = 1 := rfl
        generalize strOfNums [48 + x % 10] = s1 at *
        have HX := Lib.hid hdv.2.1
        have hx1 := hdv.1
        have hx2 := hdv.2.2
        have hb1 : Below w.heap.size w (wr.alloc (Obj.cells #[Value.int .u8 (48 + x % 10)] 5)) := hb.alloc hb.size _
        have HB := Lib.hid hb1
        clear hxq hp hdv hb hb1
        go_wp2
        go_roundw
        case rel => exact ⟨q, _, _, rfl, rfl, hx1, by omega, HX.out, by omega, by rw [hsz]; omega, HB.out⟩
        case measure => simp [intOf]; omega
    · go_wp2
      go_ret
      exact ⟨⟨_, rfl⟩, hb⟩

set_option maxRecDepth 100000 in
set_option maxHeartbeats 400000 in
theorem markOpS_any (lo hi g n c : Nat) (cs : List Value) (G : Nat → Nat) (w : World) (h : MkO w lo hi g n c cs G 0) (hn : n ≤ 1048576) :
    Calls Try.prog 44 #[.slice (some ⟨g, 0, none⟩) n c, .int .i64 1] w fun e w' => (∃ z : Int, e = .returned (.int .i64 z) ∧ 0 ≤ z ∧ z ≤ 4398046511104) ∧ Out lo hi w w' := by
  have h1 := h.own.rd.cap
  have h2 := h.own.rd.max
  have H := Lib.hid h
  clear h
  go_enter Try.func44, Try.ntmps44
  go_wp2
  go_loopw [1, 5] (fun vk vi wr => ∃ (j : Nat) (z : Int) (cs : List Value), j ≤ n ∧ vi = .int .i64 j ∧ vk = .int .i64 z ∧ 1 ≤ z ∧ z ≤ 1 + j * 1048578 ∧ MkO wr lo hi g n c cs G j ∧ Out lo hi w wr)
    (fun _ vi _ => n - (intOf vi).toNat)
  case atStart => exact ⟨0, 1, cs, Nat.zero_le _, rfl, rfl, by omega, by omega, H.out, Out.refl _ _ _⟩
  case round =>
    obtain ⟨j, z, cs, hj, rfl, rfl, hz0, hz1, hmk, hout⟩ := hrel
    by_cases hlt : j < n
    · have HM := Lib.hid hmk
      have HO := Lib.hid hout
      clear hmk hout
      have hj0 : (0 : Int) ≤ (j : Int) := by omega
      have hj1 : (j : Int) < (n : Int) := by omega
      go_wp2_with fail
      refine (markTextO_any z _ (by omega) (by omega)).mono ?_
      rintro e w2 ⟨⟨s, rfl⟩, hb2⟩
      have M2 := HM.out.below hb2
      have O2 := HO.out.trans (Out.of_below hb2)
      have hcl := M2.own.own.1
      obtain ⟨v0, hv0⟩ : ∃ v, w2.cell? ⟨g, j * 3, none⟩ = some v := ⟨_, by rw [M2.own.own.cellAt (j * 3) (by omega)]; exact List.getElem?_eq_getElem (by omega)⟩
      obtain ⟨v1, hv1⟩ : ∃ v, w2.cell? ⟨g, j * 3 + 1, none⟩ = some v := ⟨_, by rw [M2.own.own.cellAt (j * 3 + 1) (by omega)]; exact List.getElem?_eq_getElem (by omega)⟩
      have hfr := M2.own.own.frozenAt
      obtain ⟨M3, O3⟩ := M2.store (j * 3) (.string s) (fun k _ => by omega)
      obtain ⟨M4, O4⟩ := M3.store (j * 3 + 1) (.int .i64 (z + 1)) (fun k _ => by omega)
      obtain ⟨m, xs, k2, km, kown⟩ := M4.nest j (Nat.le_refl _) hlt
      have c2 := M4.own.own.cellAt (j * 3 + 2) (by omega)
      rw [k2] at c2
      have HK := Lib.hid kown.own
      have HM4 := Lib.hid M4
      have HO4 := Lib.hid ((O2.trans O3).trans O4)
      clear hb2 M2 O2 M3 O3 M4 O4 kown k2
      go_wp2_with fail
      refine (markInt64S_any _ _ _ _ xs _ _ HK.out (by omega) (by omega)).mono ?_
      rintro e w5 ⟨rfl, ho5, hg5⟩
      obtain ⟨M5, O5⟩ := HM4.out.next hlt hg5
      have O6 := HO4.out.trans O5
      clear ho5 hg5 O5
      go_wp2
      go_roundw
      case rel => exact ⟨j + 1, z + 2 + m, _, by omega, by go_num, by go_num, by omega, by omega, M5, O6⟩
      case measure => simp [intOf]; omega
    · go_wp2
      go_ret
      exact ⟨⟨z, rfl, by omega, by omega⟩, hout⟩
end Go.Proofs.Ytgghjieeckkpbaa
