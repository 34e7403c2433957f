/- The laws' own helpers for operations: szInt64S, szOp, szOpS, toOp, toOpS, eqOp, eqOpS. -/
import Derived.Test.YtgghjieeckkpbaaDoorOpR
namespace Go.Proofs.YtgghjieeckkpbaaDoor
open Go.RowKit

set_option maxHeartbeats 400000 in
theorem szInt64S_any (A : Option Addr) (n c : Nat) (L : Int) (w : World) (hn : n ≤ 9223372036854775807) (h0 : 0 ≤ L) (h1 : L ≤ 1048576) :
    Calls Tryd.prog 67 #[.slice A n c, .int .i64 L] w fun e w' => e = .returned (.int .i64 (if L < n then -1 else L - n)) ∧ w = w' := by
  by_cases h : L < n
  · rw [if_pos h]
    have h' : L - n < 0 := by omega
    go_enter Tryd.func67, Tryd.ntmps67
    go_wp2
    go_ret
    exact ⟨rfl, rfl⟩
  · rw [if_neg h]
    have h' : ¬ L - n < 0 := by omega
    go_enter Tryd.func67, Tryd.ntmps67
    go_wp2
    go_ret
    exact ⟨rfl, rfl⟩
/-- What is left behind a thing that was not too great. -/
def SzPost (L : Int) (Q : Prop) (w : World) (e : Ending) (w' : World) : Prop := ∃ z : Int, e = .returned (.int .i64 z) ∧ (z = -1 ∨ (0 ≤ z ∧ z ≤ L ∧ Q)) ∧ Below w.heap.size w w'

set_option maxHeartbeats 400000 in
theorem szOp_any (nm : ByteArray) (mn : Int) (B : Option Addr) (m d : Nat) (L : Int) (w : World) (hs : nm.size ≤ 9223372036854775807) (hm : m ≤ 9223372036854775807) (h0 : 0 ≤ L) (h1 : L ≤ 1048576) :
    Calls Tryd.prog 30 #[.agg #[.string nm, .int .i64 mn, .slice B m d], .int .i64 L] w (SzPost L (m ≤ 1048576) w) := by
  by_cases h : L < nm.size
  · have h' : L - nm.size < 0 := by omega
    go_enter Tryd.func30, Tryd.ntmps30
    go_wp2
    go_ret
    exact ⟨-1, rfl, .inl rfl, (by go_grown)⟩
  · have h' : ¬ L - nm.size < 0 := by omega
    by_cases h2 : L - nm.size < (m : Int)
    · go_enter Tryd.func30, Tryd.ntmps30
      go_wp2_with fail
      refine (szInt64S_any _ _ _ _ _ hm (by omega) (by omega)).mono ?_
      rw [if_pos (by omega)]
      rintro e w' ⟨rfl, rfl⟩
      go_wp2
      go_ret
      exact ⟨-1, rfl, .inl rfl, (by go_grown)⟩
    · go_enter Tryd.func30, Tryd.ntmps30
      go_wp2_with fail
      refine (szInt64S_any _ _ _ _ _ hm (by omega) (by omega)).mono ?_
      rw [if_neg (by omega)]
      have h3 : ¬ L - nm.size - m < 0 := by omega
      rintro e w' ⟨rfl, rfl⟩
      go_wp2
      go_ret
      exact ⟨_, rfl, .inr ⟨by omega, by omega, by omega⟩, (by go_grown)⟩

/-- Nothing is too long. -/
def ShortO (n : Nat) (ops : List OpV) : Prop := n ≤ 1048576 ∧ ∀ p ∈ ops, p.bf.length ≤ 1048576
set_option maxHeartbeats 1000000 in
theorem szOpS_any (A : Option Addr) (n c : Nat) (ops : List OpV) (L : Int) (w : World) (h : RdO w A n c ops) (h0 : 0 ≤ L) (h1 : L ≤ 1048576) :
    Calls Tryd.prog 5 #[.slice A n c, .int .i64 L] w (SzPost L (ShortO n ops) w) := by
  have hc := h.cap
  have hm := h.max
  have H := Lib.hid h
  clear h
  by_cases hL : L < n
  · have h' : L - n < 0 := by omega
    go_enter Tryd.func5, Tryd.ntmps5
    go_wp2
    go_ret
    exact ⟨-1, rfl, .inl rfl, Below.refl _ _⟩
  · have h' : ¬ L - n < 0 := by omega
    go_enter Tryd.func5, Tryd.ntmps5
    go_wp2
    go_loopw [1, 5] (fun vl vi wr => ∃ (k : Nat) (z : Int), k ≤ n ∧ vi = .int .i64 k ∧ vl = .int .i64 z ∧ 0 ≤ z ∧ z ≤ L ∧ Hid (∀ (j : Nat) (p : OpV), j < k → ops[j]? = some p → p.bf.length ≤ 1048576) ∧ Below w.heap.size w wr) (fun _ vi _ => n - (intOf vi).toNat)
    case atStart => exact ⟨0, L - n, Nat.zero_le _, rfl, rfl, by omega, by omega, (show Hid _ from fun j _ hj => absurd hj (Nat.not_lt_zero _)), Below.refl _ _⟩
    case round =>
      obtain ⟨k, z, hk, rfl, rfl, hz0, hz1, HB, hb⟩ := hrel
      have Hb := Lib.hid hb
      clear hb
      by_cases hlt : k < n
      · obtain ⟨p, b, o, B, m, d, hp, hps, hA, hbl, c0, c1, c2, hr⟩ := H.out.op hlt
        subst hA
        have k0 := cell_bel c0 Hb.out
        have k1 := cell_bel c1 Hb.out
        have k2 := cell_bel c2 Hb.out
        have hr1 := hr.cap
        have hr2 := hr.max
        have hrl := hr.ilen
        have HP := Lib.hid hp
        clear c0 c1 c2 hr hp
        go_wp2_with fail
        refine (szOp_any _ _ _ _ _ _ _ hps (by omega) hz0 (by omega)).mono ?_
        rintro e w2 ⟨y, rfl, hy, hb2⟩
        have Hb2 := Lib.hid (Hb.out.trans (hb2.mono Hb.out.size))
        clear hb2 k0 k1 k2
        rcases hy with rfl | ⟨y0, y1, y2⟩
        · go_wp2
          go_ret
          exact ⟨-1, rfl, .inl rfl, Hb2.out⟩
        · have hy0 : ¬ y < 0 := by omega
          go_wp2
          go_roundw
          case rel =>
            refine ⟨k + 1, y, by omega, by go_num, rfl, y0, by omega, (show Hid _ from fun j q hj hq => ?_), Hb2.out⟩
            by_cases e : j = k
            · subst e
              have := HP.out
              rw [this] at hq
              injection hq with hq
              subst hq
              omega
            · exact HB.out j q (by omega) hq
          case measure => simp [intOf]; omega
      · go_wp2
        go_ret
        have : k = n := by omega
        subst this
        refine ⟨z, rfl, .inr ⟨hz0, hz1, by omega, fun p hp => ?_⟩, Hb.out⟩
        obtain ⟨j, hj⟩ := List.getElem?_of_mem hp
        have hjl := (List.getElem?_eq_some_iff.1 hj).1
        rw [H.out.len] at hjl
        exact HB.out j p hjl hj

theorem info_op : (Tryd.prog.info? 53).map (fun i => (i.zero, i.size, i.bytes)) = some (some (.agg #[.string ByteArray.empty, .int .i64 0, .slice none 0 0]), 3, 48) := by kernel_rfl

set_option maxHeartbeats 1000000 in
theorem toOp_any (nm : ByteArray) (mn : Int) (B : Option Addr) (m d : Nat) (xs : List Int) (w : World) (h : Rd w 1 B m d (ints xs)) (hm : m ≤ 1048576) :
    Calls Tryd.prog 34 #[.agg #[.string nm, .int .i64 mn, .slice B m d]] w fun e w' => ∃ g, e = .returned (.agg #[.string nm, .int .i64 mn, .slice (some ⟨g, 0, none⟩) m m]) ∧ w'.ownsRow w.heap.size 2 1 (.slice (some ⟨g, 0, none⟩) m m) m (ints xs) ∧ Below w.heap.size w w' := by
  have H := Lib.hid h
  have hsz : (w.alloc (Obj.cells #[Value.string nm, Value.int IntKind.i64 mn, Value.slice B m d] 51)).heap.size = w.heap.size + 1 := by simp
  have X1 := (Box.new (w.alloc (Obj.cells #[Value.string nm, Value.int IntKind.i64 mn, Value.slice B m d] 51)) #[Value.string { data := #[] }, Value.int IntKind.i64 0, Value.slice none 0 0] 53).alloc (Obj.cells #[Value.string nm, Value.int IntKind.i64 mn, Value.slice none 0 0] 53)
  rw [hsz] at X1
  have hsz2 : ((w.alloc (Obj.cells #[Value.string nm, Value.int IntKind.i64 mn, Value.slice B m d] 51)).alloc (Obj.cells #[Value.string { data := #[] }, Value.int IntKind.i64 0, Value.slice none 0 0] 53)).heap.size = w.heap.size + 1 + 1 := by simp
  have X2 := Box.new ((w.alloc (Obj.cells #[Value.string nm, Value.int IntKind.i64 mn, Value.slice B m d] 51)).alloc (Obj.cells #[Value.string { data := #[] }, Value.int IntKind.i64 0, Value.slice none 0 0] 53)) #[Value.string nm, Value.int IntKind.i64 mn, Value.slice none 0 0] 53
  rw [hsz2] at X2
  have hb1 : Below w.heap.size w (((w.alloc (Obj.cells #[Value.string nm, Value.int IntKind.i64 mn, Value.slice B m d] 51)).alloc (Obj.cells #[Value.string { data := #[] }, Value.int IntKind.i64 0, Value.slice none 0 0] 53)).alloc (Obj.cells #[Value.string nm, Value.int IntKind.i64 mn, Value.slice none 0 0] 53)) := (by go_grown)
  have hsz3 : (((w.alloc (Obj.cells #[Value.string nm, Value.int IntKind.i64 mn, Value.slice B m d] 51)).alloc (Obj.cells #[Value.string { data := #[] }, Value.int IntKind.i64 0, Value.slice none 0 0] 53)).alloc (Obj.cells #[Value.string nm, Value.int IntKind.i64 mn, Value.slice none 0 0] 53)).heap.size = w.heap.size + 1 + 1 + 1 := by simp
  have HX1 := Lib.hid X1
  have HX2 := Lib.hid X2
  have HB1 := Lib.hid hb1
  have HS3 := Lib.hid hsz3
  clear h X1 X2 hb1 hsz hsz2 hsz3
  go_enter Tryd.func34, Tryd.ntmps34
  go_wp2_with fail
  refine (toInt64S_any B m d xs _ (H.out.below HB1.out) hm).mono ?_
  rintro e w2 ⟨g, rfl, ho, hb2⟩
  have hgl := (own_block ho g rfl).1
  rw [HS3.out] at hgl
  have Y1 := HX1.out.below hb2
  have c1 := Y1.cell
  have f1 := Y1.froz
  have c2 := (HX2.out.below hb2).cell
  have f2 := (HX2.out.below hb2).froz
  have Z := (((Y1.apart (b := w.heap.size + 1 + 1) (i := 2) (Value.slice (some ⟨g, 0, none⟩) m m) (by omega)).setO 0 (Value.string nm) (by simp)).setO 1 (Value.int .i64 mn) (by simp)).setO 2 (Value.slice (some ⟨g, 0, none⟩) m m) (by simp)
  have z0 := (Z.cell 0).trans (show _ = some (Value.string nm) by simp)
  have z1 := (Z.cell 1).trans (show _ = some (Value.int .i64 mn) by simp)
  have z2 := (Z.cell 2).trans (show _ = some (Value.slice (some ⟨g, 0, none⟩) m m) by simp)
  have ho' := own_base ho (show w.heap.size ≤ _ by rw [HS3.out]; omega)
  have HO := Lib.hid (own_setO (b := w.heap.size + 1) (j := 2) (v := Value.slice (some ⟨g, 0, none⟩) m m) (own_setO (b := w.heap.size + 1) (j := 1) (v := Value.int .i64 mn) (own_setO (b := w.heap.size + 1) (j := 0) (v := Value.string nm) (own_setO (b := w.heap.size + 1 + 1) (j := 2) (v := Value.slice (some ⟨g, 0, none⟩) m m) ho' (by omega)) (by omega)) (by omega)) (by omega))
  have b2 := HB1.out.trans (hb2.mono HB1.out.size)
  have HB2 := Lib.hid ((((b2.setCell (p := ⟨w.heap.size + 1 + 1, 2, none⟩) (by show w.heap.size ≤ w.heap.size + 1 + 1; omega) (Value.slice (some ⟨g, 0, none⟩) m m)).setCell (p := ⟨w.heap.size + 1, 0, none⟩) (by show w.heap.size ≤ w.heap.size + 1; omega) (Value.string nm)).setCell (p := ⟨w.heap.size + 1, 1, none⟩) (by show w.heap.size ≤ w.heap.size + 1; omega) (Value.int .i64 mn)).setCell (p := ⟨w.heap.size + 1, 2, none⟩) (by show w.heap.size ≤ w.heap.size + 1; omega) (Value.slice (some ⟨g, 0, none⟩) m m))
  clear ho ho' hb2 b2 Z Y1
  go_wp2
  (try simp only [Exit.inBlock, Exit.then])
  refine bodyPost_ret (by simp [results, Tryd.results34, go_sem, z0, z1, z2]; try rfl) rfl ?_
  exact ⟨g, rfl, HO.out, HB2.out⟩

set_option maxHeartbeats 1000000 in
theorem toOpS_any (A : Option Addr) (n c : Nat) (ops : List OpV) (w : World) (h : RdO w A n c ops) (hs : ShortO n ops) :
    Calls Tryd.prog 7 #[.slice A n c] w fun e w' => ∃ g cs G, e = .returned (.slice (some ⟨g, 0, none⟩) n n) ∧ RdO w' (some ⟨g, 0, none⟩) n n ops ∧ MkO w' w.heap.size w'.heap.size g n n cs G 0 ∧ Below w.heap.size w w' := by
  obtain ⟨i0, hi, hz0, hz1, hz2⟩ := info_parts info_op
  have hl := h.len
  have hn := hs.1
  have H := Lib.hid h
  have HL := Lib.hid hl
  have HSH := Lib.hid hs.2
  clear h hl hs
  go_enter Tryd.func7, Tryd.ntmps7
  go_wp2_with (refine wpList_make_full _ rfl (.tmp 6) (.tmp 6) _ rfl w.heap.size 53 i0 (.agg #[.string ByteArray.empty, .int .i64 0, .slice none 0 0]) 3 Tryd.underlying25 hi hz0 hz1 .i64 .i64 n n n rfl rfl rfl rfl (by rw [hz2]; omega) (by unfold maxLen; omega) (Nat.le_refl _) ?_; intro w1 hown1 hg1)
  have hb1 : Below w.heap.size w w1 := (Below.refl _ _).grown hg1 (Nat.le_refl _) (by simp)
  have hs1 : w.heap.size + 1 ≤ w1.heap.size := by
    have := (own_block hown1 w.heap.size rfl).2
    omega
  have hlen1 := hown1.1
  have HO1 := Lib.hid hown1
  have HB1 := Lib.hid hb1
  clear hown1 hg1 hb1
  go_loopw [4] (fun i wr => ∃ (k : Nat) (cs : List Value) (G : Nat → Nat), k ≤ n ∧ i = .int .i64 k ∧ wr.ownsRow w.heap.size 53 3 (.slice (some ⟨w.heap.size, 0, none⟩) n n) n cs ∧ OpsAt wr (w.heap.size + 1) cs ops G k ∧ Hid (∀ j, j < k → G j < wr.heap.size) ∧ w.heap.size + 1 ≤ wr.heap.size ∧ Below w.heap.size w wr)
    (fun i _ => n - (intOf i).toNat)
  case atStart => exact ⟨0, _, fun _ => 0, Nat.zero_le _, rfl, HO1.out, OpsAt.zero _ _ _ _ _, (show Hid _ from fun j hj => absurd hj (Nat.not_lt_zero _)), hs1, HB1.out⟩
  case round =>
    obtain ⟨k, cs, G, hk, rfl, hown, hat, HG, hsw, hb⟩ := hrel
    by_cases hlt : k < n
    · obtain ⟨p, b, o, B, m, d, hp, hps, hA, hbl, c0, c1, c2, hr⟩ := (H.out.below hb).op hlt
      subst hA
      have hm := HSH.out p (List.mem_of_getElem? hp)
      have hrl := hr.ilen
      rw [hrl] at hm
      have HP := Lib.hid hp
      have HR := Lib.hid hr
      have HO := Lib.hid hown
      have HAT := Lib.hid hat
      have HB := Lib.hid hb
      clear hp hr hown hat hb
      go_wp2_with fail
      refine (toOp_any _ _ _ _ _ p.bf _ HR.out hm).mono ?_
      rintro e w2 ⟨gn, rfl, ho, hb2⟩
      have hown := own_below HO.out hb2
      have hcl := hown.1
      have hgn := (own_block ho gn rfl)
      have S := own_set3 hown k (.string p.nm) (.int .i64 p.mn) (.slice (some ⟨gn, 0, none⟩) m m)
      have hat2 := HAT.out.below hb2
      have ho2 := own_base ho hsw
      rw [← hrl] at ho2
      have hst := hat2.step (gb := w.heap.size) HP.out (by omega) ho2 (fun j hj => by have := HG.out j hj; omega) (by have := S.2; rw [← hrl] at this; exact this) (by omega)
      rw [hrl] at hst
      have hold0 : ∃ v, w2.cell? ⟨w.heap.size, k * 3, none⟩ = some v := ⟨_, by rw [hown.cellAt (k * 3) (by omega)]; exact List.getElem?_eq_getElem (by omega)⟩
      have hold1 : ∃ v, w2.cell? ⟨w.heap.size, k * 3 + 1, none⟩ = some v := ⟨_, by rw [hown.cellAt (k * 3 + 1) (by omega)]; exact List.getElem?_eq_getElem (by omega)⟩
      have hold2 : ∃ v, w2.cell? ⟨w.heap.size, k * 3 + 2, none⟩ = some v := ⟨_, by rw [hown.cellAt (k * 3 + 2) (by omega)]; exact List.getElem?_eq_getElem (by omega)⟩
      obtain ⟨v0, hv0⟩ := hold0
      obtain ⟨v1, hv1⟩ := hold1
      obtain ⟨v2, hv2⟩ := hold2
      have hfr := hown.frozenAt
      have HS1 := Lib.hid S.1
      have HST := Lib.hid hst
      have hss := S.2.size
      have b2 := (HB.out.trans (hb2.mono HB.out.size)).grown S.2 (by have := HB.out.size; have := hb2.size; omega) (fun y hy => by injection hy with hy; omega)
      have HB2 := Lib.hid b2
      have hs2 := hb2.size
      have HG2 : Hid (∀ j, j < k + 1 → (if j = k then gn else G j) < (((w2.setCell ⟨w.heap.size, k * 3, none⟩ (.string p.nm)).setCell ⟨w.heap.size, k * 3 + 1, none⟩ (.int .i64 p.mn)).setCell ⟨w.heap.size, k * 3 + 2, none⟩ (.slice (some ⟨gn, 0, none⟩) m m)).heap.size) := Lib.hid (fun j hj => by
        by_cases e : j = k
        · rw [if_pos e]; omega
        · rw [if_neg e]; have := HG.out j (by omega); omega)
      have hs3 : w.heap.size + 1 ≤ (((w2.setCell ⟨w.heap.size, k * 3, none⟩ (.string p.nm)).setCell ⟨w.heap.size, k * 3 + 1, none⟩ (.int .i64 p.mn)).setCell ⟨w.heap.size, k * 3 + 2, none⟩ (.slice (some ⟨gn, 0, none⟩) m m)).heap.size := by omega
      have HS3 := Lib.hid hs3
      have hk0 : (0 : Int) ≤ (k : Int) := by omega
      have hk1 : (k : Int) < (n : Int) := by omega
      clear S hst hown ho ho2 hat2 hb2 b2 hss hs3 hgn HO HAT HB
      go_wp2
      go_roundw
      case rel => exact ⟨k + 1, _, _, by omega, by go_num, HS1.out, HST.out, HG2, HS3.out, HB2.out⟩
      case measure => simp [intOf]; omega
    · go_wp2
      go_ret
      have : k = n := by omega
      subst this
      obtain ⟨r1, r2⟩ := hat.whole (W0 := w.heap.size) rfl hown HL.out hn (fun p hp => by
        obtain ⟨j, hj⟩ := List.getElem?_of_mem hp
        exact ⟨H.out.sz p hp, HSH.out p hp⟩)
      exact ⟨_, cs, G, rfl, r1, r2, hb⟩
end Go.Proofs.YtgghjieeckkpbaaDoor
