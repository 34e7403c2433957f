import Derived.Test.YthdbaflihgkomaaDoorRw
import Derived.BigRegion
import Derived.StillTailTactics
namespace Go.Proofs.YthdbaflihgkomaaDoor
open Go.RowKit Go.Shelf
theorem info_i64r : (Tryd.prog.info? 2).map (fun i => (i.zero, i.size, i.bytes)) = some (some (.int .i64 0), 1, 8) := by kernel_rfl
set_option maxRecDepth 100000 in
set_option maxHeartbeats 4000000 in
theorem l11Sums_any (A : Option Addr) (n c : Nat) (ps : List (Int × Int)) (roll : Int) (B : Option Addr) (m d : Nat) (rs : List Int) (w : World) (h : Rd w 2 A n c (pr ps)) (hB : Rd w 1 B m d (ints rs)) (ho : BOk ps roll) (hm : m ≤ n) (hr : ∀ (j : Nat) (r : Int), rs[j]? = some r → 0 ≤ r ∧ r ≤ 8) :
    Calls Tryd.prog 38 #[.slice A n c, .slice B m d] w fun e w' => ∃ g1 g2, e = .returned (.tuple #[.slice (some ⟨g1, 0, none⟩) 9 9, .slice (some ⟨g2, 0, none⟩) 9 9]) ∧ g1 ≠ g2 ∧
      w'.ownsRow w.heap.size 2 1 (.slice (some ⟨g1, 0, none⟩) 9 9) 9 (ints (rowsK ps rs m).1) ∧ w'.ownsRow w.heap.size 2 1 (.slice (some ⟨g2, 0, none⟩) 9 9) 9 (ints (rowsK ps rs m).2) ∧ Below w.heap.size w w' := by
  obtain ⟨i0, hi, hz0, hz1, hz2⟩ := info_parts info_i64r
  have hl := h.plen
  have hn9 := ho.len
  have hn9' : n ≤ 9 := by omega
  have h1 := h.cap
  have h2 := h.max
  have h3 := hB.cap
  have h4 := hB.max
  have H := Lib.hid h
  have HB := Lib.hid hB
  have HL := Lib.hid hl
  have HO := Lib.hid ho
  have HR := Lib.hid hr
  clear h hB hl ho hr hn9
  go_enter Tryd.func38, Tryd.ntmps38
  go_wp2_with (first | (refine wpList_make_full _ rfl (.const (.int .i64 9)) (.const (.int .i64 9)) _ rfl w.heap.size 2 i0 (.int .i64 0) 1 Tryd.underlying31 hi hz0 hz1 .i64 .i64 9 9 9 rfl rfl rfl rfl (by rw [hz2]; omega) (by unfold maxLen; omega) (Nat.le_refl _) ?_; intro w1 ho1 hg1) | (refine wpList_make_full _ rfl (.const (.int .i64 9)) (.const (.int .i64 9)) _ rfl w.heap.size 2 i0 (.int .i64 0) 1 Tryd.underlying31 hi hz0 hz1 .i64 .i64 9 9 9 rfl rfl rfl rfl (by rw [hz2]; omega) (by unfold maxLen; omega) (hg1.size) ?_; intro w2 ho2 hg2))
  have hb1 : Below w.heap.size w w1 := (Below.refl _ _).grown hg1 (Nat.le_refl _) (by simp)
  have hbb : Below w1.heap.size w1 w2 := (Below.refl _ _).grown hg2 (Nat.le_refl _) (by simp)
  have hb2 : Below w.heap.size w w2 := hb1.trans (hbb.mono hb1.size)
  have hne : w.heap.size ≠ w1.heap.size := by
    obtain ⟨g, e, _, hlt⟩ := own_at ho1 (by omega)
    injection e with e
    injection e with e
    omega
  have z1 : (madeCells (Value.int .i64 0).cells (9 * 1)).toList = ints z9 := by simp [ints, z9, toList_madeCells_one, Value.cells]
  rw [z1] at ho1 ho2
  have ho1 := own_below ho1 hbb
  have hwl := hb1.size
  have HO1 := Lib.hid ho1
  have HO2 := Lib.hid ho2
  have HB2 := Lib.hid hb2
  clear ho1 ho2 hg1 hg2 hb1 hbb hb2 z1
  go_loopw [8] (fun i wr => ∃ (k : Nat) (W T : List Int), k ≤ m ∧ i = .int .i64 k ∧ Hid (rowsK ps rs k = (W, T)) ∧ Hid (RowsB W T k) ∧
      wr.ownsRow w.heap.size 2 1 (.slice (some ⟨w.heap.size, 0, none⟩) 9 9) 9 (ints W) ∧ wr.ownsRow w.heap.size 2 1 (.slice (some ⟨w1.heap.size, 0, none⟩) 9 9) 9 (ints T) ∧ Below w.heap.size w wr) (fun i _ => m - (intOf i).toNat)
  case atStart => exact ⟨0, z9, z9, Nat.zero_le _, rfl, (show Hid _ from rfl), (show Hid _ from rowsB0), HO1.out, HO2.out, HB2.out⟩
  case round =>
    obtain ⟨k, W, T, hk, rfl, HK, HW, hown1, hown2, hb⟩ := hrel
    by_cases hlt : k < m
    · obtain ⟨b, o, x, y, hA, hbl, hx, hc1, hc2⟩ := H.out.pair (show k < n by omega)
      obtain ⟨b', o', r, hA', hbl', hr, hc3⟩ := HB.out.int hlt
      subst hA
      subst hA'
      have hc1 := (hb.cell (p := ⟨b, o + k * 2, none⟩) hbl).trans hc1
      have hc2 := (hb.cell (p := ⟨b, o + k * 2 + 1, none⟩) hbl).trans hc2
      have hc3 := (hb.cell (p := ⟨b', o' + k, none⟩) hbl').trans hc3
      have hr8 := HR.out k r hr
      obtain ⟨q, rfl⟩ := Int.eq_ofNat_of_zero_le hr8.1
      have hxy := HO.out.blk k _ hx
      have hr1 := HO.out.r1
      have x0 : 1 ≤ x ∧ x ≤ 5000 := ⟨hxy.1.1, by have := hxy.1.2; simp at this; omega⟩
      have y0 : 1 ≤ y ∧ y ≤ 5000 := hxy.2
      have q8 : q ≤ 8 := by omega
      have HN : Hid (rowsK ps rs (k + 1) = (W.set q (W.getD q 0 + x), T.set q (max (T.getD q 0) y))) := Lib.hid (rowsK_step HK.out hr hx)
      have HV : Hid (RowsB (W.set q (W.getD q 0 + x)) (T.set q (max (T.getD q 0) y)) (k + 1)) := Lib.hid (HW.out.step (r := (q : Int)) (by omega) (by omega) (by omega))
      have wq := HW.out.wb q _ (getD_of (by rw [HW.out.wl]; omega))
      have tq := HW.out.hb q _ (getD_of (by rw [HW.out.hl]; omega))
      have cw := own_int hown1 (i := q) (by omega) HW.out.wl
      have ct := own_int hown2 (i := q) (by omega) HW.out.hl
      have f1 := hown1.frozenAt
      have f2 := hown2.frozenAt
      generalize W.getD q 0 = a at *
      generalize T.getD q 0 = e at *
      have hq0 : (0 : Int) ≤ (q : Int) := by omega
      have hq9 : (q : Int) < 9 := by omega
      have hk0 : (0 : Int) ≤ (k : Int) := by omega
      have hk1 : (k : Int) < (m : Int) := by omega
      have hk2 : (k : Int) < (n : Int) := by omega
      have n1 : b ≠ w.heap.size := by omega
      have n2 : b' ≠ w.heap.size := by omega
      have n3 : w1.heap.size ≠ w.heap.size := by omega
      have HOW1 := Lib.hid hown1
      have HOW2 := Lib.hid hown2
      have HBE := Lib.hid hb
      clear hown1 hown2 hb hx hr hxy hr8 HK HW
      go_wp2
      go_region
      have o1 := (own_iset HOW1.out q (a + x)).1.drew
      have G1 := grown_drew (own_iset HOW1.out q (a + x)).2
      have o2 := own_other HOW2.out G1 n3
      have d1 := cell_other hc1 G1 n1
      have d2 := cell_other hc2 G1 n1
      have d3 := cell_other hc3 G1 n2
      have dt := cell_other ct G1 n3
      have bb : Below w.heap.size w (wr.setCell ⟨w.heap.size, q, none⟩ (.int .i64 (a + x))).drew := (HBE.out.setCell (Nat.le_refl _) _).drew
      generalize (wr.setCell ⟨w.heap.size, q, none⟩ (.int .i64 (a + x))).drew = w6 at *
      have f6 := o2.frozenAt
      have O1 := Lib.hid o1
      have O2 := Lib.hid o2
      have BB := Lib.hid bb
      clear hc1 hc2 hc3 cw ct f1 f2 o1 o2 bb G1 HOW1 HOW2 HBE
      go_wp2
      go_still_tail 19, (by kernel_rfl)
      still_call (l00MaxS_any _ _ _)
      repeat still_step
      refine wpStill_nil ?_
      have o1 := O1.out.drew
      have o2 := O2.out.drew
      have bb := BB.out.drew
      have e7 : w6.drew.cell? ⟨w1.heap.size, q, none⟩ = some (.int .i64 e) := dt
      change wpList _ _ _ _ _ w6.drew
      generalize w6.drew = w7 at *
      have f7 := o2.frozenAt
      obtain ⟨p2, G2⟩ := own_iset o2 q (max e y)
      have P1 := Lib.hid (own_other o1 G2 n3.symm)
      have P2 := Lib.hid p2
      have PB : Hid (Below w.heap.size w (w7.setCell ⟨w1.heap.size, q, none⟩ (.int .i64 (max e y)))) := bb.setCell hwl _
      clear o1 o2 bb G2 p2 O1 O2 BB d1 d2 d3 dt f6
      go_wp2
      go_roundw
      case rel => exact ⟨k + 1, _, _, by omega, by go_num, HN, HV, P1.out, P2.out, PB.out⟩
      case measure => simp [intOf]; omega
    · have : k = m := by omega
      subst this
      go_wp2
      go_returns
      refine ⟨_, _, rfl, by omega, ?_, ?_, hb⟩
      · rw [HK.out]; exact hown1
      · rw [HK.out]; exact hown2
end Go.Proofs.YthdbaflihgkomaaDoor
