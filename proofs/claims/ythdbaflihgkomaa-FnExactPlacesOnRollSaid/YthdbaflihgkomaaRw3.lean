/- The widths and heights of all rows as the program has them. Printed by mkrw3.py. -/
import Derived.Test.YthdbaflihgkomaaRw2
namespace Go.Proofs.Ythdbaflihgkomaa
open Go.RowKit Go.Shelf
def c9 : Array Value := (ints z9).toArray
theorem made9 : madeCells (Value.int .i64 0).cells ((9 : Int).toNat * 1) = c9 := by
  apply Array.toList_inj.1
  simp [c9, ints, z9, toList_madeCells_one, Value.cells]
@[go_sem] theorem mk9 (W : World) : (Instr.makeSlice 35 (.int .i64 9) (.int .i64 9)).run Try.prog W = .ok (.slice (some ⟨W.heap.size, 0, none⟩) 9 9) (W.alloc (.cells c9 2)) := by
  obtain ⟨i0, hi, hz0, hz1, hz2⟩ := info_parts info_i64r
  have h := run_make (P := Try.prog) W 35 2 i0 (.int .i64 0) Try.underlying35 hi hz0 .i64 .i64 9 9 (by omega) (by omega) (by rw [hz2]; decide) (by decide)
  rw [hz1, made9] at h
  exact h
theorem own9 (W : World) (base : Nat) (hb : base ≤ W.heap.size) : (W.alloc (.cells c9 2)).ownsRow base 2 1 (.slice (some ⟨W.heap.size, 0, none⟩) 9 9) 9 (ints z9) := by
  have h := World.ownsRow_lit (e := 2) (size := 1) W c9 9 hb (by unfold maxLen; omega) (by simp [c9, ints, z9])
  exact h
/-- Two rows of nine, made one after the other. -/
theorem own99 (w : World) : ((w.alloc (.cells c9 2)).alloc (.cells c9 2)).drew.ownsRow w.heap.size 2 1 (.slice (some ⟨w.heap.size, 0, none⟩) 9 9) 9 (ints z9) ∧
    ((w.alloc (.cells c9 2)).alloc (.cells c9 2)).drew.ownsRow w.heap.size 2 1 (.slice (some ⟨w.heap.size + 1, 0, none⟩) 9 9) 9 (ints z9) ∧
    Below w.heap.size w ((w.alloc (.cells c9 2)).alloc (.cells c9 2)).drew := by
  have h1 := own9 w w.heap.size (Nat.le_refl _)
  have h2 := own9 (w.alloc (.cells c9 2)) w.heap.size (by simp)
  have e : (w.alloc (.cells c9 2)).heap.size = w.heap.size + 1 := by simp
  rw [e] at h2
  exact ⟨(own_below h1 ((Below.refl _ _).alloc (Nat.le_refl _) _)).drew, h2.drew, (((Below.refl w.heap.size w).alloc (Nat.le_refl _) _).alloc (by simp) _).drew⟩
set_option maxRecDepth 100000 in
set_option maxHeartbeats 8000000 in
theorem rowsOf_any (A : Option Addr) (n c : Nat) (ps : List (Int × Int)) (roll : Int) (B : Option Addr) (m d : Nat) (rs : List Int) (w : World) (h : Rd w 2 A n c (pr ps)) (hB : Rd w 1 B m d (ints rs)) (ho : BOk ps roll) (hm : m ≤ n) (hr : ∀ (j : Nat) (r : Int), rs[j]? = some r → 0 ≤ r ∧ r ≤ 8) :
    Calls Try.prog 61 #[.slice A n c, .slice B m d] w fun e w' => ∃ g1 g2, e = .returned (.tuple #[.slice (some ⟨g1, 0, none⟩) 9 9, .slice (some ⟨g2, 0, none⟩) 9 9]) ∧ g1 ≠ g2 ∧
      w'.ownsRow w.heap.size 2 1 (.slice (some ⟨g1, 0, none⟩) 9 9) 9 (ints (rowsK ps rs m).1) ∧ w'.ownsRow w.heap.size 2 1 (.slice (some ⟨g2, 0, none⟩) 9 9) 9 (ints (rowsK ps rs m).2) ∧ Below w.heap.size w w' := by
  have hl := h.plen
  have hn9 := ho.len
  have hn9' : n ≤ 9 := by omega
  have h1 := h.cap
  have h2 := h.max
  have h3 := hB.cap
  have h4 := hB.max
  obtain ⟨oo1, oo2, oob⟩ := own99 w
  have H := Lib.hid h
  have HB := Lib.hid hB
  have HL := Lib.hid hl
  have HO := Lib.hid ho
  have HR := Lib.hid hr
  have HO1 := Lib.hid oo1
  have HO2 := Lib.hid oo2
  have HB2 := Lib.hid oob
  clear h hB hl ho hr hn9 oo1 oo2 oob
  go_enter Try.func61, Try.ntmps61
  go_wp2
  go_region
  · generalize ((w.alloc (.cells c9 2)).alloc (.cells c9 2)).drew = w2 at *
    go_wp2
    go_loopw [14] (fun i wr => ∃ (k : Nat) (W T : List Int), k ≤ m ∧ i = .int .i64 k ∧ Hid (rowsK ps rs k = (W, T)) ∧ Hid (RowsB W T k) ∧
        wr.ownsRow w.heap.size 2 1 (.slice (some ⟨w.heap.size, 0, none⟩) 9 9) 9 (ints W) ∧ wr.ownsRow w.heap.size 2 1 (.slice (some ⟨(w.heap.size + 1), 0, none⟩) 9 9) 9 (ints T) ∧ Below w.heap.size w wr) (fun i _ => m - (intOf i).toNat)
    case atStart => exact ⟨0, z9, z9, Nat.zero_le _, rfl, (show Hid _ from rfl), (show Hid _ from rowsB0), HO1.out, HO2.out, HB2.out⟩
    case round =>
      obtain ⟨k, W, T, hk, rfl, HK, HW, hown1, hown2, hb⟩ := hrel
      by_cases hlt : k < m
      · obtain ⟨b, o, x, y, hA, hbl, hx, hc1, hc2⟩ := H.out.pair (show k < n by omega)
        obtain ⟨b', o', r, hA', hbl', hr, hc3⟩ := HB.out.int hlt
        subst hA
        subst hA'
        have hc1 := (hb.cell (p := ⟨b, o + k * 2, none⟩) hbl).trans hc1
        have hc2 := (hb.cell (p := ⟨b, o + k * 2 + 1, none⟩) hbl).trans hc2
        have hc3 := (hb.cell (p := ⟨b', o' + k, none⟩) hbl').trans hc3
        have hr8 := HR.out k r hr
        obtain ⟨q, rfl⟩ := Int.eq_ofNat_of_zero_le hr8.1
        have hxy := HO.out.blk k _ hx
        have hr1 := HO.out.r1
        have x0 : 1 ≤ x ∧ x ≤ 5000 := ⟨hxy.1.1, by have := hxy.1.2; simp at this; omega⟩
        have y0 : 1 ≤ y ∧ y ≤ 5000 := hxy.2
        have q8 : q ≤ 8 := by omega
        have HN : Hid (rowsK ps rs (k + 1) = (W.set q (W.getD q 0 + x), T.set q (max (T.getD q 0) y))) := Lib.hid (rowsK_step HK.out hr hx)
        have HV : Hid (RowsB (W.set q (W.getD q 0 + x)) (T.set q (max (T.getD q 0) y)) (k + 1)) := Lib.hid (HW.out.step (r := (q : Int)) (by omega) (by omega) (by omega))
        have wq := HW.out.wb q _ (getD_of (by rw [HW.out.wl]; omega))
        have tq := HW.out.hb q _ (getD_of (by rw [HW.out.hl]; omega))
        have cw := own_int hown1 (i := q) (by omega) HW.out.wl
        have ct := own_int hown2 (i := q) (by omega) HW.out.hl
        have f1 := hown1.frozenAt
        generalize W.getD q 0 = a at *
        generalize T.getD q 0 = e at *
        have hq0 : (0 : Int) ≤ (q : Int) := by omega
        have hq9 : (q : Int) < 9 := by omega
        have hk0 : (0 : Int) ≤ (k : Int) := by omega
        have hk1 : (k : Int) < (m : Int) := by omega
        have hk2 : (k : Int) < (n : Int) := by omega
        have n1 : b ≠ w.heap.size := by omega
        have n2 : b' ≠ w.heap.size := by omega
        have n3 : (w.heap.size + 1) ≠ w.heap.size := by omega
        have n4 : w.heap.size ≠ (w.heap.size + 1) := by omega
        have hwl : w.heap.size ≤ (w.heap.size + 1) := by omega
        have o1 := (own_iset hown1 q (a + x)).1.drew
        have G1 := grown_drew (own_iset hown1 q (a + x)).2
        have o2 := own_other hown2 G1 n3
        have d1 := cell_other hc1 G1 n1
        have d2 := cell_other hc2 G1 n1
        have dt := cell_other ct G1 n3
        have bb : Below w.heap.size w (wr.setCell ⟨w.heap.size, q, none⟩ (.int .i64 (a + x))).drew := (hb.setCell (by first | exact Nat.le_refl _ | exact Nat.le_add_right _ _) _).drew
        have O1 := Lib.hid o1
        have O2 := Lib.hid o2
        have BB := Lib.hid bb
        have D2 := Lib.hid d2
        have DT := Lib.hid dt
        clear hown1 hown2 hb hx hr hxy hr8 HK HW o1 o2 bb d1 d2 dt G1
        go_wp2
        go_region
        have d2 := D2.out
        have dt := DT.out
        generalize (wr.setCell ⟨w.heap.size, q, none⟩ (.int .i64 (a + x))).drew = w6 at *
        clear hc1 hc2 hc3 cw ct f1 D2 DT
        go_wp2
        go_still_tail 13, (by kernel_rfl)
        have o1 := O1.out.drew
        have o2 := O2.out.drew
        have bb := BB.out.drew
        have e7 : w6.drew.cell? ⟨(w.heap.size + 1), q, none⟩ = some (.int .i64 e) := dt
        change wpList _ _ _ _ _ w6.drew
        generalize w6.drew = w7 at *
        have f7 := o2.frozenAt
        obtain ⟨p2, G2⟩ := own_iset o2 q (max e y)
        have P1 := Lib.hid (own_other o1 G2 n4)
        have P2 := Lib.hid p2
        have PB : Hid (Below w.heap.size w (w7.setCell ⟨(w.heap.size + 1), q, none⟩ (.int .i64 (max e y)))) := bb.setCell hwl _
        clear o1 o2 bb G2 p2 O1 O2 BB d2 dt
        go_wp2
        go_roundw
        case rel => exact ⟨k + 1, _, _, by omega, by go_num, HN, HV, P1.out, P2.out, PB.out⟩
        case measure => simp [intOf]; omega
      · have : k = m := by omega
        subst this
        go_wp2
        go_returns
        refine ⟨_, _, rfl, by omega, ?_, ?_, hb⟩
        · rw [HK.out]; exact hown1
        · rw [HK.out]; exact hown2
  · generalize ((w.alloc (.cells c9 2)).alloc (.cells c9 2)).drew = w2 at *
    go_wp2
    go_loopw [14] (fun i wr => ∃ (k : Nat) (W T : List Int), k ≤ m ∧ i = .int .i64 k ∧ Hid (rowsK ps rs k = (W, T)) ∧ Hid (RowsB W T k) ∧
        wr.ownsRow w.heap.size 2 1 (.slice (some ⟨(w.heap.size + 1), 0, none⟩) 9 9) 9 (ints W) ∧ wr.ownsRow w.heap.size 2 1 (.slice (some ⟨w.heap.size, 0, none⟩) 9 9) 9 (ints T) ∧ Below w.heap.size w wr) (fun i _ => m - (intOf i).toNat)
    case atStart => exact ⟨0, z9, z9, Nat.zero_le _, rfl, (show Hid _ from rfl), (show Hid _ from rowsB0), HO2.out, HO1.out, HB2.out⟩
    case round =>
      obtain ⟨k, W, T, hk, rfl, HK, HW, hown1, hown2, hb⟩ := hrel
      by_cases hlt : k < m
      · obtain ⟨b, o, x, y, hA, hbl, hx, hc1, hc2⟩ := H.out.pair (show k < n by omega)
        obtain ⟨b', o', r, hA', hbl', hr, hc3⟩ := HB.out.int hlt
        subst hA
        subst hA'
        have hc1 := (hb.cell (p := ⟨b, o + k * 2, none⟩) hbl).trans hc1
        have hc2 := (hb.cell (p := ⟨b, o + k * 2 + 1, none⟩) hbl).trans hc2
        have hc3 := (hb.cell (p := ⟨b', o' + k, none⟩) hbl').trans hc3
        have hr8 := HR.out k r hr
        obtain ⟨q, rfl⟩ := Int.eq_ofNat_of_zero_le hr8.1
        have hxy := HO.out.blk k _ hx
        have hr1 := HO.out.r1
        have x0 : 1 ≤ x ∧ x ≤ 5000 := ⟨hxy.1.1, by have := hxy.1.2; simp at this; omega⟩
        have y0 : 1 ≤ y ∧ y ≤ 5000 := hxy.2
        have q8 : q ≤ 8 := by omega
        have HN : Hid (rowsK ps rs (k + 1) = (W.set q (W.getD q 0 + x), T.set q (max (T.getD q 0) y))) := Lib.hid (rowsK_step HK.out hr hx)
        have HV : Hid (RowsB (W.set q (W.getD q 0 + x)) (T.set q (max (T.getD q 0) y)) (k + 1)) := Lib.hid (HW.out.step (r := (q : Int)) (by omega) (by omega) (by omega))
        have wq := HW.out.wb q _ (getD_of (by rw [HW.out.wl]; omega))
        have tq := HW.out.hb q _ (getD_of (by rw [HW.out.hl]; omega))
        have cw := own_int hown1 (i := q) (by omega) HW.out.wl
        have ct := own_int hown2 (i := q) (by omega) HW.out.hl
        have f1 := hown1.frozenAt
        generalize W.getD q 0 = a at *
        generalize T.getD q 0 = e at *
        have hq0 : (0 : Int) ≤ (q : Int) := by omega
        have hq9 : (q : Int) < 9 := by omega
        have hk0 : (0 : Int) ≤ (k : Int) := by omega
        have hk1 : (k : Int) < (m : Int) := by omega
        have hk2 : (k : Int) < (n : Int) := by omega
        have n1 : b ≠ (w.heap.size + 1) := by omega
        have n2 : b' ≠ (w.heap.size + 1) := by omega
        have n3 : w.heap.size ≠ (w.heap.size + 1) := by omega
        have n4 : (w.heap.size + 1) ≠ w.heap.size := by omega
        have hwl : w.heap.size ≤ w.heap.size := by omega
        have o1 := (own_iset hown1 q (a + x)).1.drew
        have G1 := grown_drew (own_iset hown1 q (a + x)).2
        have o2 := own_other hown2 G1 n3
        have d1 := cell_other hc1 G1 n1
        have d2 := cell_other hc2 G1 n1
        have dt := cell_other ct G1 n3
        have bb : Below w.heap.size w (wr.setCell ⟨(w.heap.size + 1), q, none⟩ (.int .i64 (a + x))).drew := (hb.setCell (by first | exact Nat.le_refl _ | exact Nat.le_add_right _ _) _).drew
        have O1 := Lib.hid o1
        have O2 := Lib.hid o2
        have BB := Lib.hid bb
        have D2 := Lib.hid d2
        have DT := Lib.hid dt
        clear hown1 hown2 hb hx hr hxy hr8 HK HW o1 o2 bb d1 d2 dt G1
        go_wp2
        go_region
        have d2 := D2.out
        have dt := DT.out
        generalize (wr.setCell ⟨(w.heap.size + 1), q, none⟩ (.int .i64 (a + x))).drew = w6 at *
        clear hc1 hc2 hc3 cw ct f1 D2 DT
        go_wp2
        go_still_tail 13, (by kernel_rfl)
        have o1 := O1.out.drew
        have o2 := O2.out.drew
        have bb := BB.out.drew
        have e7 : w6.drew.cell? ⟨w.heap.size, q, none⟩ = some (.int .i64 e) := dt
        change wpList _ _ _ _ _ w6.drew
        generalize w6.drew = w7 at *
        have f7 := o2.frozenAt
        obtain ⟨p2, G2⟩ := own_iset o2 q (max e y)
        have P1 := Lib.hid (own_other o1 G2 n4)
        have P2 := Lib.hid p2
        have PB : Hid (Below w.heap.size w (w7.setCell ⟨w.heap.size, q, none⟩ (.int .i64 (max e y)))) := bb.setCell hwl _
        clear o1 o2 bb G2 p2 O1 O2 BB d2 dt
        go_wp2
        go_roundw
        case rel => exact ⟨k + 1, _, _, by omega, by go_num, HN, HV, P1.out, P2.out, PB.out⟩
        case measure => simp [intOf]; omega
      · have : k = m := by omega
        subst this
        go_wp2
        go_returns
        refine ⟨_, _, rfl, by omega, ?_, ?_, hb⟩
        · rw [HK.out]; exact hown1
        · rw [HK.out]; exact hown2
end Go.Proofs.Ythdbaflihgkomaa
