/- The laws' own helpers for operations: eqOp, eqOpS, markText, markOpS. -/
import Derived.Test.YtgghjieeckkpbaaDoorOpA
import Derived.Deep.RegionHeld3
import Derived.Laws.BytesArg
namespace Go.Proofs.YtgghjieeckkpbaaDoor
open Go.RowKit

set_option maxHeartbeats 1000000 in
theorem eqOp_any (nm : ByteArray) (mn : Int) (A : Option Addr) (n c : Nat) (B : Option Addr) (m d : Nat) (xs : List Int) (w : World) (hA : Rd w 1 A n c (ints xs)) (hB : Rd w 1 B m d (ints xs)) :
    Calls Tryd.prog 38 #[.agg #[.string nm, .int .i64 mn, .slice A n c], .agg #[.string nm, .int .i64 mn, .slice B m d]] w fun e w' => e = .returned (.bool true) ∧ Below w.heap.size w w' := by
  have hb1 : Below w.heap.size w ((w.alloc (Obj.cells #[.string nm, .int .i64 mn, .slice A n c] 53)).alloc (Obj.cells #[.string nm, .int .i64 mn, .slice B m d] 53)) := (by go_grown)
  have hcall := eqInt64S_any A n c xs B m d xs _ (hA.below hb1) (hB.below hb1)
  rw [eqL_self] at hcall
  have HC := Lib.hid hcall
  have HB1 := Lib.hid hb1
  clear hA hB hcall hb1
  go_enter Tryd.func38, Tryd.ntmps38
  go_wp2_with fail
  refine (HC.out).mono ?_
  rintro e w2 ⟨rfl, hb2⟩
  go_wp2
  go_ret
  exact ⟨rfl, HB1.out.trans (hb2.mono HB1.out.size)⟩

/-- Two operations in the heap, as the walk of eqOpS needs them. -/
structure TwoO (V W : World) (b o b' o' : Nat) (v0 v1 v2 v3 v4 v5 : Value) : Prop where
  c0 : W.cell? ⟨b, o, none⟩ = some v0
  c1 : W.cell? ⟨b, o + 1, none⟩ = some v1
  c2 : W.cell? ⟨b, o + 2, none⟩ = some v2
  d0 : W.cell? ⟨b', o', none⟩ = some v3
  d1 : W.cell? ⟨b', o' + 1, none⟩ = some v4
  d2 : W.cell? ⟨b', o' + 2, none⟩ = some v5
  bel : Below V.heap.size V W
theorem keepO {V W w' : World} {b o b' o' : Nat} {v0 v1 v2 v3 v4 v5 : Value} (e : W.cell? ⟨b, o, none⟩ = some v0 ∧ W.cell? ⟨b, o + 1, none⟩ = some v1 ∧ W.cell? ⟨b, o + 2, none⟩ = some v2 ∧ W.cell? ⟨b', o', none⟩ = some v3 ∧ W.cell? ⟨b', o' + 1, none⟩ = some v4 ∧ W.cell? ⟨b', o' + 2, none⟩ = some v5 ∧ Below V.heap.size V W) (hb : Below W.heap.size W w') :
    w'.cell? ⟨b, o, none⟩ = some v0 ∧ w'.cell? ⟨b, o + 1, none⟩ = some v1 ∧ w'.cell? ⟨b, o + 2, none⟩ = some v2 ∧ w'.cell? ⟨b', o', none⟩ = some v3 ∧ w'.cell? ⟨b', o' + 1, none⟩ = some v4 ∧ w'.cell? ⟨b', o' + 2, none⟩ = some v5 ∧ Below V.heap.size V w' := by
  obtain ⟨e0, e1, e2, e3, e4, e5, eb⟩ := e
  exact ⟨cell_bel e0 hb, cell_bel e1 hb, cell_bel e2 hb, cell_bel e3 hb, cell_bel e4 hb, cell_bel e5 hb, eb.trans (hb.mono eb.size)⟩

set_option maxRecDepth 100000 in
set_option maxHeartbeats 2000000 in
theorem eqOpS_any (A : Option Addr) (n c : Nat) (B : Option Addr) (d : Nat) (ops : List OpV) (w : World) (hA : RdO w A n c ops) (hB : RdO w B n d ops) :
    Calls Tryd.prog 9 #[.slice A n c, .slice B n d] w fun e w' => e = .returned (.bool true) ∧ Below w.heap.size w w' := by
  have h1 := hA.cap
  have h2 := hA.max
  have h3 := hB.cap
  have h4 := hB.max
  have HA := Lib.hid hA
  have HB := Lib.hid hB
  clear hA hB
  go_enter Tryd.func9, Tryd.ntmps9
  go_wp2
  go_loopw [5] (fun i wr => ∃ k : Nat, k ≤ n ∧ i = .int .i64 k ∧ Below w.heap.size w wr) (fun i _ => n - (intOf i).toNat)
  case atStart => exact ⟨0, Nat.zero_le _, rfl, Below.refl _ _⟩
  case round =>
    obtain ⟨k, hk, rfl, hb⟩ := hrel
    by_cases hlt : k < n
    · obtain ⟨p, b, o, C, m, e, hp, hps, hA, hbl, hc0, hc1, hc2, hr⟩ := (HA.out.below hb).op hlt
      obtain ⟨p', b', o', D, m', e', hp', _, hB, hbl', hd0, hd1, hd2, hr'⟩ := (HB.out.below hb).op hlt
      rw [hp] at hp'
      injection hp' with hp'
      subst hp'
      subst hA
      subst hB
      obtain ⟨nm, mn, bf⟩ := p
      simp only at hc0 hc1 hc2 hd0 hd1 hd2 hr hr'
      have HR := Lib.hid hr
      have HR' := Lib.hid hr'
      have Hb := Lib.hid hb
      clear hr hr' hb hp
      have hk0 : (0 : Int) ≤ (k : Int) := by omega
      have hk1 : (k : Int) < (n : Int) := by omega
      go_wp2
      go_region_held3 (fun w' => w'.cell? ⟨b, o + k * 3, none⟩ = some (.string nm) ∧ w'.cell? ⟨b, o + k * 3 + 1, none⟩ = some (.int .i64 mn) ∧ w'.cell? ⟨b, o + k * 3 + 2, none⟩ = some (.slice C m e) ∧ w'.cell? ⟨b', o' + k * 3, none⟩ = some (.string nm) ∧ w'.cell? ⟨b', o' + k * 3 + 1, none⟩ = some (.int .i64 mn) ∧ w'.cell? ⟨b', o' + k * 3 + 2, none⟩ = some (.slice D m' e') ∧ Below wr.heap.size wr w')
        (first | exact ⟨hc0, hc1, hc2, hd0, hd1, hd2, (Below.refl _ _).drew⟩ | exact keepO (by assumption) hb | go_keep)
        (first | (go_at_call 38; refine (eqOp_any nm mn C m e D m' e' bf _ (HR.out.below (‹_ ∧ _ ∧ _ ∧ _ ∧ _ ∧ _ ∧ Below wr.heap.size wr _›).2.2.2.2.2.2) (HR'.out.below (‹_ ∧ _ ∧ _ ∧ _ ∧ _ ∧ _ ∧ Below wr.heap.size wr _›).2.2.2.2.2.2)).mono ?_; rintro e w' ⟨rfl, hb⟩))
      have hbb : Below wr.heap.size wr w' := (‹_ ∧ _ ∧ _ ∧ _ ∧ _ ∧ _ ∧ Below wr.heap.size wr w'›).2.2.2.2.2.2
      have b3 := Hb.out.trans (hbb.mono Hb.out.size)
      go_wp2
      go_roundw
      case rel => exact ⟨k + 1, by omega, by go_num, b3⟩
      case measure => simp [intOf]; omega
    · go_wp2
      go_ret
      exact ⟨rfl, hb⟩

end Go.Proofs.YtgghjieeckkpbaaDoor
