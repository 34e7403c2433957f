/- Several texts in one: Mb. -/
import Derived.Test.YthdbaflihgkomaaDoorRw2
import Derived.Test.YthdbaflihgkomaaDoorMa
/- Several texts in one: Rw3, Rw4, Rw5, Rw6, Rw7. -/
/- The widths and heights of all rows as the program has them. Printed by mkrw3.py. -/
namespace Go.Proofs.YthdbaflihgkomaaDoor
open Go.RowKit Go.Shelf
def c9 : Array Value := (ints z9).toArray
theorem made9 : madeCells (Value.int .i64 0).cells ((9 : Int).toNat * 1) = c9 := by
  apply Array.toList_inj.1
  simp [c9, ints, z9, toList_madeCells_one, Value.cells]
@[go_sem] theorem mk9 (W : World) : (Instr.makeSlice 31 (.int .i64 9) (.int .i64 9)).run Tryd.prog W = .ok (.slice (some ⟨W.heap.size, 0, none⟩) 9 9) (W.alloc (.cells c9 2)) := by
  obtain ⟨i0, hi, hz0, hz1, hz2⟩ := info_parts info_i64r
  have h := run_make (P := Tryd.prog) W 31 2 i0 (.int .i64 0) Tryd.underlying31 hi hz0 .i64 .i64 9 9 (by omega) (by omega) (by rw [hz2]; decide) (by decide)
  rw [hz1, made9] at h
  exact h
theorem own9 (W : World) (base : Nat) (hb : base ≤ W.heap.size) : (W.alloc (.cells c9 2)).ownsRow base 2 1 (.slice (some ⟨W.heap.size, 0, none⟩) 9 9) 9 (ints z9) := by
  have h := World.ownsRow_lit (e := 2) (size := 1) W c9 9 hb (by unfold maxLen; omega) (by simp [c9, ints, z9])
  exact h
/-- Two rows of nine, made one after the other. -/
theorem own99 (w : World) : ((w.alloc (.cells c9 2)).alloc (.cells c9 2)).drew.ownsRow w.heap.size 2 1 (.slice (some ⟨w.heap.size, 0, none⟩) 9 9) 9 (ints z9) ∧
    ((w.alloc (.cells c9 2)).alloc (.cells c9 2)).drew.ownsRow w.heap.size 2 1 (.slice (some ⟨w.heap.size + 1, 0, none⟩) 9 9) 9 (ints z9) ∧
    Below w.heap.size w ((w.alloc (.cells c9 2)).alloc (.cells c9 2)).drew := by
  have h1 := own9 w w.heap.size (Nat.le_refl _)
  have h2 := own9 (w.alloc (.cells c9 2)) w.heap.size (by simp)
  have e : (w.alloc (.cells c9 2)).heap.size = w.heap.size + 1 := by simp
  rw [e] at h2
  exact ⟨(own_below h1 ((Below.refl _ _).alloc (Nat.le_refl _) _)).drew, h2.drew, (((Below.refl w.heap.size w).alloc (Nat.le_refl _) _).alloc (by simp) _).drew⟩
set_option maxRecDepth 100000 in
set_option maxHeartbeats 8000000 in
theorem rowsOf_any (A : Option Addr) (n c : Nat) (ps : List (Int × Int)) (roll : Int) (B : Option Addr) (m d : Nat) (rs : List Int) (w : World) (h : Rd w 2 A n c (pr ps)) (hB : Rd w 1 B m d (ints rs)) (ho : BOk ps roll) (hm : m ≤ n) (hr : ∀ (j : Nat) (r : Int), rs[j]? = some r → 0 ≤ r ∧ r ≤ 8) :
    Calls Tryd.prog 35 #[.slice A n c, .slice B m d] w fun e w' => ∃ g1 g2, e = .returned (.tuple #[.slice (some ⟨g1, 0, none⟩) 9 9, .slice (some ⟨g2, 0, none⟩) 9 9]) ∧ g1 ≠ g2 ∧
      w'.ownsRow w.heap.size 2 1 (.slice (some ⟨g1, 0, none⟩) 9 9) 9 (ints (rowsK ps rs m).1) ∧ w'.ownsRow w.heap.size 2 1 (.slice (some ⟨g2, 0, none⟩) 9 9) 9 (ints (rowsK ps rs m).2) ∧ Below w.heap.size w w' := by
  have hl := h.plen
  have hn9 := ho.len
  have hn9' : n ≤ 9 := by omega
  have h1 := h.cap
  have h2 := h.max
  have h3 := hB.cap
  have h4 := hB.max
  obtain ⟨oo1, oo2, oob⟩ := own99 w
  have H := Lib.hid h
  have HB := Lib.hid hB
  have HL := Lib.hid hl
  have HO := Lib.hid ho
  have HR := Lib.hid hr
  have HO1 := Lib.hid oo1
  have HO2 := Lib.hid oo2
  have HB2 := Lib.hid oob
  clear h hB hl ho hr hn9 oo1 oo2 oob
  go_enter Tryd.func35, Tryd.ntmps35
  go_wp2
  go_region
  · generalize ((w.alloc (.cells c9 2)).alloc (.cells c9 2)).drew = w2 at *
    go_wp2
    go_loopw [14] (fun i wr => ∃ (k : Nat) (W T : List Int), k ≤ m ∧ i = .int .i64 k ∧ Hid (rowsK ps rs k = (W, T)) ∧ Hid (RowsB W T k) ∧
        wr.ownsRow w.heap.size 2 1 (.slice (some ⟨w.heap.size, 0, none⟩) 9 9) 9 (ints W) ∧ wr.ownsRow w.heap.size 2 1 (.slice (some ⟨(w.heap.size + 1), 0, none⟩) 9 9) 9 (ints T) ∧ Below w.heap.size w wr) (fun i _ => m - (intOf i).toNat)
    case atStart => exact ⟨0, z9, z9, Nat.zero_le _, rfl, (show Hid _ from rfl), (show Hid _ from rowsB0), HO1.out, HO2.out, HB2.out⟩
    case round =>
      obtain ⟨k, W, T, hk, rfl, HK, HW, hown1, hown2, hb⟩ := hrel
      by_cases hlt : k < m
      · obtain ⟨b, o, x, y, hA, hbl, hx, hc1, hc2⟩ := H.out.pair (show k < n by omega)
        obtain ⟨b', o', r, hA', hbl', hr, hc3⟩ := HB.out.int hlt
        subst hA
        subst hA'
        have hc1 := (hb.cell (p := ⟨b, o + k * 2, none⟩) hbl).trans hc1
        have hc2 := (hb.cell (p := ⟨b, o + k * 2 + 1, none⟩) hbl).trans hc2
        have hc3 := (hb.cell (p := ⟨b', o' + k, none⟩) hbl').trans hc3
        have hr8 := HR.out k r hr
        obtain ⟨q, rfl⟩ := Int.eq_ofNat_of_zero_le hr8.1
        have hxy := HO.out.blk k _ hx
        have hr1 := HO.out.r1
        have x0 : 1 ≤ x ∧ x ≤ 5000 := ⟨hxy.1.1, by have := hxy.1.2; simp at this; omega⟩
        have y0 : 1 ≤ y ∧ y ≤ 5000 := hxy.2
        have q8 : q ≤ 8 := by omega
        have HN : Hid (rowsK ps rs (k + 1) = (W.set q (W.getD q 0 + x), T.set q (max (T.getD q 0) y))) := Lib.hid (rowsK_step HK.out hr hx)
        have HV : Hid (RowsB (W.set q (W.getD q 0 + x)) (T.set q (max (T.getD q 0) y)) (k + 1)) := Lib.hid (HW.out.step (r := (q : Int)) (by omega) (by omega) (by omega))
        have wq := HW.out.wb q _ (getD_of (by rw [HW.out.wl]; omega))
        have tq := HW.out.hb q _ (getD_of (by rw [HW.out.hl]; omega))
        have cw := own_int hown1 (i := q) (by omega) HW.out.wl
        have ct := own_int hown2 (i := q) (by omega) HW.out.hl
        have f1 := hown1.frozenAt
        generalize W.getD q 0 = a at *
        generalize T.getD q 0 = e at *
        have hq0 : (0 : Int) ≤ (q : Int) := by omega
        have hq9 : (q : Int) < 9 := by omega
        have hk0 : (0 : Int) ≤ (k : Int) := by omega
        have hk1 : (k : Int) < (m : Int) := by omega
        have hk2 : (k : Int) < (n : Int) := by omega
        have n1 : b ≠ w.heap.size := by omega
        have n2 : b' ≠ w.heap.size := by omega
        have n3 : (w.heap.size + 1) ≠ w.heap.size := by omega
        have n4 : w.heap.size ≠ (w.heap.size + 1) := by omega
        have hwl : w.heap.size ≤ (w.heap.size + 1) := by omega
        have o1 := (own_iset hown1 q (a + x)).1.drew
        have G1 := grown_drew (own_iset hown1 q (a + x)).2
        have o2 := own_other hown2 G1 n3
        have d1 := cell_other hc1 G1 n1
        have d2 := cell_other hc2 G1 n1
        have dt := cell_other ct G1 n3
        have bb : Below w.heap.size w (wr.setCell ⟨w.heap.size, q, none⟩ (.int .i64 (a + x))).drew := (hb.setCell (by first | exact Nat.le_refl _ | exact Nat.le_add_right _ _) _).drew
        have O1 := Lib.hid o1
        have O2 := Lib.hid o2
        have BB := Lib.hid bb
        have D2 := Lib.hid d2
        have DT := Lib.hid dt
        clear hown1 hown2 hb hx hr hxy hr8 HK HW o1 o2 bb d1 d2 dt G1
        go_wp2
        go_region
        have d2 := D2.out
        have dt := DT.out
        generalize (wr.setCell ⟨w.heap.size, q, none⟩ (.int .i64 (a + x))).drew = w6 at *
        clear hc1 hc2 hc3 cw ct f1 D2 DT
        go_wp2
        go_still_tail 13, (by kernel_rfl)
        have o1 := O1.out.drew
        have o2 := O2.out.drew
        have bb := BB.out.drew
        have e7 : w6.drew.cell? ⟨(w.heap.size + 1), q, none⟩ = some (.int .i64 e) := dt
        change wpList _ _ _ _ _ w6.drew
        generalize w6.drew = w7 at *
        have f7 := o2.frozenAt
        obtain ⟨p2, G2⟩ := own_iset o2 q (max e y)
        have P1 := Lib.hid (own_other o1 G2 n4)
        have P2 := Lib.hid p2
        have PB : Hid (Below w.heap.size w (w7.setCell ⟨(w.heap.size + 1), q, none⟩ (.int .i64 (max e y)))) := bb.setCell hwl _
        clear o1 o2 bb G2 p2 O1 O2 BB d2 dt
        go_wp2
        go_roundw
        case rel => exact ⟨k + 1, _, _, by omega, by go_num, HN, HV, P1.out, P2.out, PB.out⟩
        case measure => simp [intOf]; omega
      · have : k = m := by omega
        subst this
        go_wp2
        go_returns
        refine ⟨_, _, rfl, by omega, ?_, ?_, hb⟩
        · rw [HK.out]; exact hown1
        · rw [HK.out]; exact hown2
  · generalize ((w.alloc (.cells c9 2)).alloc (.cells c9 2)).drew = w2 at *
    go_wp2
    go_loopw [14] (fun i wr => ∃ (k : Nat) (W T : List Int), k ≤ m ∧ i = .int .i64 k ∧ Hid (rowsK ps rs k = (W, T)) ∧ Hid (RowsB W T k) ∧
        wr.ownsRow w.heap.size 2 1 (.slice (some ⟨(w.heap.size + 1), 0, none⟩) 9 9) 9 (ints W) ∧ wr.ownsRow w.heap.size 2 1 (.slice (some ⟨w.heap.size, 0, none⟩) 9 9) 9 (ints T) ∧ Below w.heap.size w wr) (fun i _ => m - (intOf i).toNat)
    case atStart => exact ⟨0, z9, z9, Nat.zero_le _, rfl, (show Hid _ from rfl), (show Hid _ from rowsB0), HO2.out, HO1.out, HB2.out⟩
    case round =>
      obtain ⟨k, W, T, hk, rfl, HK, HW, hown1, hown2, hb⟩ := hrel
      by_cases hlt : k < m
      · obtain ⟨b, o, x, y, hA, hbl, hx, hc1, hc2⟩ := H.out.pair (show k < n by omega)
        obtain ⟨b', o', r, hA', hbl', hr, hc3⟩ := HB.out.int hlt
        subst hA
        subst hA'
        have hc1 := (hb.cell (p := ⟨b, o + k * 2, none⟩) hbl).trans hc1
        have hc2 := (hb.cell (p := ⟨b, o + k * 2 + 1, none⟩) hbl).trans hc2
        have hc3 := (hb.cell (p := ⟨b', o' + k, none⟩) hbl').trans hc3
        have hr8 := HR.out k r hr
        obtain ⟨q, rfl⟩ := Int.eq_ofNat_of_zero_le hr8.1
        have hxy := HO.out.blk k _ hx
        have hr1 := HO.out.r1
        have x0 : 1 ≤ x ∧ x ≤ 5000 := ⟨hxy.1.1, by have := hxy.1.2; simp at this; omega⟩
        have y0 : 1 ≤ y ∧ y ≤ 5000 := hxy.2
        have q8 : q ≤ 8 := by omega
        have HN : Hid (rowsK ps rs (k + 1) = (W.set q (W.getD q 0 + x), T.set q (max (T.getD q 0) y))) := Lib.hid (rowsK_step HK.out hr hx)
        have HV : Hid (RowsB (W.set q (W.getD q 0 + x)) (T.set q (max (T.getD q 0) y)) (k + 1)) := Lib.hid (HW.out.step (r := (q : Int)) (by omega) (by omega) (by omega))
        have wq := HW.out.wb q _ (getD_of (by rw [HW.out.wl]; omega))
        have tq := HW.out.hb q _ (getD_of (by rw [HW.out.hl]; omega))
        have cw := own_int hown1 (i := q) (by omega) HW.out.wl
        have ct := own_int hown2 (i := q) (by omega) HW.out.hl
        have f1 := hown1.frozenAt
        generalize W.getD q 0 = a at *
        generalize T.getD q 0 = e at *
        have hq0 : (0 : Int) ≤ (q : Int) := by omega
        have hq9 : (q : Int) < 9 := by omega
        have hk0 : (0 : Int) ≤ (k : Int) := by omega
        have hk1 : (k : Int) < (m : Int) := by omega
        have hk2 : (k : Int) < (n : Int) := by omega
        have n1 : b ≠ (w.heap.size + 1) := by omega
        have n2 : b' ≠ (w.heap.size + 1) := by omega
        have n3 : w.heap.size ≠ (w.heap.size + 1) := by omega
        have n4 : (w.heap.size + 1) ≠ w.heap.size := by omega
        have hwl : w.heap.size ≤ w.heap.size := by omega
        have o1 := (own_iset hown1 q (a + x)).1.drew
        have G1 := grown_drew (own_iset hown1 q (a + x)).2
        have o2 := own_other hown2 G1 n3
        have d1 := cell_other hc1 G1 n1
        have d2 := cell_other hc2 G1 n1
        have dt := cell_other ct G1 n3
        have bb : Below w.heap.size w (wr.setCell ⟨(w.heap.size + 1), q, none⟩ (.int .i64 (a + x))).drew := (hb.setCell (by first | exact Nat.le_refl _ | exact Nat.le_add_right _ _) _).drew
        have O1 := Lib.hid o1
        have O2 := Lib.hid o2
        have BB := Lib.hid bb
        have D2 := Lib.hid d2
        have DT := Lib.hid dt
        clear hown1 hown2 hb hx hr hxy hr8 HK HW o1 o2 bb d1 d2 dt G1
        go_wp2
        go_region
        have d2 := D2.out
        have dt := DT.out
        generalize (wr.setCell ⟨(w.heap.size + 1), q, none⟩ (.int .i64 (a + x))).drew = w6 at *
        clear hc1 hc2 hc3 cw ct f1 D2 DT
        go_wp2
        go_still_tail 13, (by kernel_rfl)
        have o1 := O1.out.drew
        have o2 := O2.out.drew
        have bb := BB.out.drew
        have e7 : w6.drew.cell? ⟨w.heap.size, q, none⟩ = some (.int .i64 e) := dt
        change wpList _ _ _ _ _ w6.drew
        generalize w6.drew = w7 at *
        have f7 := o2.frozenAt
        obtain ⟨p2, G2⟩ := own_iset o2 q (max e y)
        have P1 := Lib.hid (own_other o1 G2 n4)
        have P2 := Lib.hid p2
        have PB : Hid (Below w.heap.size w (w7.setCell ⟨w.heap.size, q, none⟩ (.int .i64 (max e y)))) := bb.setCell hwl _
        clear o1 o2 bb G2 p2 O1 O2 BB d2 dt
        go_wp2
        go_roundw
        case rel => exact ⟨k + 1, _, _, by omega, by go_num, HN, HV, P1.out, P2.out, PB.out⟩
        case measure => simp [intOf]; omega
      · have : k = m := by omega
        subst this
        go_wp2
        go_returns
        refine ⟨_, _, rfl, by omega, ?_, ?_, hb⟩
        · rw [HK.out]; exact hown1
        · rw [HK.out]; exact hown2
end Go.Proofs.YthdbaflihgkomaaDoor
/- The code of blocks and rows, and the first row with a fault (program and reference). -/
namespace Go.Proofs.YthdbaflihgkomaaDoor
open Go.RowKit Go.Shelf

theorem outB_hit {xs : List Int} {k : Nat} {x lo hi : Int} (hx : xs[k]? = some x) (h : inB x lo hi = false) : outB xs lo hi = true := by
  unfold outB
  rw [List.any_eq_true]
  exact ⟨x, List.mem_of_getElem? hx, by rw [h]; rfl⟩
theorem outB_none {xs : List Int} {lo hi : Int} (h : ∀ (j : Nat) (x : Int), j < xs.length → xs[j]? = some x → inB x lo hi = true) : outB xs lo hi = false := by
  unfold outB
  rw [List.any_eq_false]
  intro x hx
  obtain ⟨j, hj, rfl⟩ := List.getElem_of_mem hx
  rw [h j _ hj (List.getElem?_eq_getElem hj)]
  simp

set_option maxHeartbeats 2000000 in
theorem l11Code_any (A : Option Addr) (n c : Nat) (ps : List (Int × Int)) (roll : Int) (B : Option Addr) (m d : Nat) (rs : List Int) (w : World) (h : Rd w 2 A n c (pr ps)) (hB : Rd w 1 B m d (ints rs)) :
    Calls Tryd.prog 42 #[.slice A n c, .int .i64 roll, .slice B m d] w fun e w' => e = .returned (.int .i64 (rowsC ps roll rs)) ∧ w = w' := by
  have hl := h.plen
  have hl' := hB.ilen
  have h1 := h.cap
  have h2 := h.max
  have h3 := hB.cap
  have h4 := hB.max
  have hcall := fun W h => l11Ok_any A n c ps roll W h
  have hcode : rowsC ps roll rs = if blocksB ps roll = false then 1 else if (decide (m ≠ n) || outB rs 0 8) = true then 2 else 0 := by
    unfold rowsC; rw [hl, hl']
  rw [hcode]
  cases hz : blocksB ps roll with
  | false =>
    rw [hz] at hcall
    rw [if_pos rfl]
    have HC := Lib.hid hcall
    have H := Lib.hid h
    clear hcall h hz hcode hl hl'
    go_enter Tryd.func42, Tryd.ntmps42
    go_wp2_with fail
    refine (HC.out _ H.out).mono ?_
    rintro e w1 ⟨rfl, rfl⟩
    go_wp2
    go_ret
    exact ⟨rfl, rfl⟩
  | true =>
    rw [hz] at hcall
    rw [if_neg (by simp)]
    obtain ⟨R, hR⟩ : ∃ R : Int, (if (decide (m ≠ n) || outB rs 0 8) = true then 2 else 0) = R := ⟨_, rfl⟩
    rw [hR]
    have HC := Lib.hid hcall
    have H := Lib.hid h
    have HB := Lib.hid hB
    have HL := Lib.hid hl'
    have HR := Lib.hid hR
    clear hcall h hz hcode hl hl' hR hB
    go_enter Tryd.func42, Tryd.ntmps42
    go_wp2_with fail
    refine (HC.out _ H.out).mono ?_
    rintro e w1 ⟨rfl, rfl⟩
    go_wp2_with fail
    go_loop [7] (fun i => ∃ k : Nat, k ≤ m ∧ i = .int .i64 k ∧ Hid (∀ (j : Nat) (x : Int), j < k → rs[j]? = some x → inB x 0 8 = true)) (fun i => m - (intOf i).toNat)
    case atStart => exact ⟨0, Nat.zero_le _, rfl, (show Hid _ from fun j _ hj => absurd hj (Nat.not_lt_zero _))⟩
    case round =>
      obtain ⟨k, hk, rfl, HQ⟩ := hrel
      by_cases hlt : k < m
      · obtain ⟨b, o, x, hA, hbl, hx, hc⟩ := HB.out.int hlt
        subst hA
        have hk0 : (0 : Int) ≤ (k : Int) := by omega
        have hk1 : (k : Int) < (m : Int) := by omega
        have HX := Lib.hid hx
        clear hx
        cases e1 : inB x 0 8 with
        | false =>
          have E1 := Lib.hid e1
          clear e1
          go_wp2_with (go_at_call 54; refine (l00In_any _ _ _ _).mono ?_; rw [E1.out]; rintro e w' ⟨rfl, rfl⟩)
          go_ret
          refine ⟨ret_i ?_, rfl⟩
          rw [← HR.out, outB_hit HX.out E1.out, if_pos (by simp)]
        | true =>
          have E1 := Lib.hid e1
          clear e1
          go_wp2_with (go_at_call 54; refine (l00In_any _ _ _ _).mono ?_; rw [E1.out]; rintro e w' ⟨rfl, rfl⟩)
          go_round
          case rel =>
            refine ⟨k + 1, by omega, by go_num, (show Hid _ from fun j p hj hp => ?_)⟩
            by_cases e : j = k
            · subst e
              have := HX.out
              rw [this] at hp
              injection hp with hp
              rw [← hp]
              exact E1.out
            · exact HQ.out j p (by omega) hp
          case measure => simp [intOf]; omega
      · have : k = m := by omega
        subst this
        have ho : outB rs 0 8 = false := outB_none (by rw [HL.out]; exact HQ.out)
        by_cases hmn : k = n
        · have hR : R = 0 := by rw [← HR.out, ho, if_neg (by simp [hmn])]
          subst hR
          subst hmn
          clear ho
          go_wp2
          go_ret
          exact ⟨rfl, rfl⟩
        · have hR : R = 2 := by rw [← HR.out, if_pos (by simp [hmn])]
          subst hR
          have hne : ((k : Int) != (n : Int)) = true := by simp; omega
          clear ho
          go_wp2
          go_ret
          exact ⟨rfl, rfl⟩

set_option maxHeartbeats 2000000 in
theorem rowsCode_any (A : Option Addr) (n c : Nat) (ps : List (Int × Int)) (roll : Int) (B : Option Addr) (m d : Nat) (rs : List Int) (w : World) (h : Rd w 2 A n c (pr ps)) (hB : Rd w 1 B m d (ints rs)) :
    Calls Tryd.prog 39 #[.slice A n c, .int .i64 roll, .slice B m d] w fun e w' => e = .returned (.int .i64 (rowsC ps roll rs)) ∧ Below w.heap.size w w' := by
  have hl := h.plen
  have hl' := hB.ilen
  have h1 := h.cap
  have h2 := h.max
  have h3 := hB.cap
  have h4 := hB.max
  have hcall := fun W h => implValidBlocks_any A n c ps roll W h
  have hcode : rowsC ps roll rs = if blocksB ps roll = false then 1 else if (decide (m ≠ n) || outB rs 0 8) = true then 2 else 0 := by
    unfold rowsC; rw [hl, hl']
  rw [hcode]
  cases hz : blocksB ps roll with
  | false =>
    rw [hz] at hcall
    rw [if_pos rfl]
    have HC := Lib.hid hcall
    have H := Lib.hid h
    clear hcall h hz hcode hl hl'
    go_enter Tryd.func39, Tryd.ntmps39
    go_wp2_with fail
    refine (HC.out _ H.out).mono ?_
    rintro e w1 ⟨rfl, hb⟩
    go_wp2
    go_ret
    exact ⟨rfl, hb⟩
  | true =>
    rw [hz] at hcall
    rw [if_neg (by simp)]
    by_cases hmn : m = n
    · subst hmn
      have hout := fun W h => outside_any B m d rs 0 8 W h
      generalize outB rs 0 8 = r at *
      have HC := Lib.hid hcall
      have H := Lib.hid h
      have HB := Lib.hid hB
      have HU := Lib.hid hout
      clear hcall h hz hcode hl hl' hB hout
      cases r with
      | true =>
        rw [if_pos (by simp)]
        go_enter Tryd.func39, Tryd.ntmps39
        go_wp2_with fail
        refine (HC.out _ H.out).mono ?_
        rintro e w1 ⟨rfl, hb⟩
        go_wp2_with fail
        refine (HU.out _ (HB.out.below hb)).mono ?_
        rintro e w2 ⟨rfl, hb2⟩
        go_wp2
        go_ret
        exact ⟨rfl, hb.trans (hb2.mono hb.size)⟩
      | false =>
        rw [if_neg (by simp)]
        go_enter Tryd.func39, Tryd.ntmps39
        go_wp2_with fail
        refine (HC.out _ H.out).mono ?_
        rintro e w1 ⟨rfl, hb⟩
        go_wp2_with fail
        refine (HU.out _ (HB.out.below hb)).mono ?_
        rintro e w2 ⟨rfl, hb2⟩
        go_wp2
        go_ret
        exact ⟨rfl, hb.trans (hb2.mono hb.size)⟩
    · rw [if_pos (by simp [hmn])]
      have hne : ((m : Int) != (n : Int)) = true := by simp; omega
      have HC := Lib.hid hcall
      have H := Lib.hid h
      clear hcall h hz hcode hl hl' hB
      go_enter Tryd.func39, Tryd.ntmps39
      go_wp2_with fail
      refine (HC.out _ H.out).mono ?_
      rintro e w1 ⟨rfl, hb⟩
      go_wp2
      go_ret
      exact ⟨rfl, hb⟩

/-- The first row that is too wide. -/
def faultZ (ps : List (Int × Int)) (roll : Int) (rs : List Int) : Int := idxF (fun x => decide (roll < x)) (rowsK ps rs rs.length).1
def rowsFaultZ (ps : List (Int × Int)) (roll : Int) (rs : List Int) : Int := if rowsC ps roll rs = 0 then faultZ ps roll rs else 0
theorem rowsK_B {ps : List (Int × Int)} {roll : Int} {rs : List Int} (ho : BOk ps roll) (hr : ∀ (j : Nat) (r : Int), rs[j]? = some r → 0 ≤ r ∧ r ≤ 8) : ∀ k, k ≤ rs.length → k ≤ ps.length → RowsB (rowsK ps rs k).1 (rowsK ps rs k).2 k
  | 0, _, _ => rowsB0
  | k + 1, h1, h2 => by
    have ih := rowsK_B ho hr k (by omega) (by omega)
    obtain ⟨r, hr'⟩ : ∃ r, rs[k]? = some r := ⟨_, List.getElem?_eq_getElem (by omega)⟩
    obtain ⟨⟨x, y⟩, hp⟩ : ∃ r, ps[k]? = some r := ⟨_, List.getElem?_eq_getElem (by omega)⟩
    rw [rowsK_step (W := (rowsK ps rs k).1) (H := (rowsK ps rs k).2) rfl hr' hp]
    have hb := ho.blk k _ hp
    have h1 := ho.r1
    exact ih.step (hr k r hr') ⟨by have := hb.1.1; simp at this; omega, by have := hb.1.2; simp at this; omega⟩ ⟨by have := hb.2.1; simp at this; omega, hb.2.2⟩

end Go.Proofs.YthdbaflihgkomaaDoor
/- The first row with a fault (program and reference). -/
namespace Go.Proofs.YthdbaflihgkomaaDoor
open Go.RowKit Go.Shelf

set_option maxHeartbeats 2000000 in
theorem l11Fault_any (A : Option Addr) (n c : Nat) (ps : List (Int × Int)) (roll : Int) (B : Option Addr) (d : Nat) (rs : List Int) (w : World) (h : Rd w 2 A n c (pr ps)) (hB : Rd w 1 B n d (ints rs)) (ho : BOk ps roll) (hr : ∀ (j : Nat) (r : Int), rs[j]? = some r → 0 ≤ r ∧ r ≤ 8) :
    Calls Tryd.prog 43 #[.slice A n c, .int .i64 roll, .slice B n d] w fun e w' => e = .returned (.int .i64 (faultZ ps roll rs)) ∧ Below w.heap.size w w' := by
  have hl := h.plen
  have hl' := hB.ilen
  have hbd := rowsK_B ho hr n (by omega) (by omega)
  have hcall := fun W h hB => l11Sums_any A n c ps roll B n d rs W h hB ho (by omega) hr
  have hf : faultZ ps roll rs = idxF (fun x => decide (roll < x)) (rowsK ps rs n).1 := by unfold faultZ; rw [hl']
  rw [hf]
  generalize rowsK ps rs n = S at *
  obtain ⟨R, hR⟩ : ∃ R, idxF (fun x => decide (roll < x)) S.1 = R := ⟨_, rfl⟩
  rw [hR]
  have HR := Lib.hid hR
  have HC := Lib.hid hcall
  have H := Lib.hid h
  have HB := Lib.hid hB
  have HD := Lib.hid hbd
  clear hcall h hB hbd hf hR hl hl' ho hr
  go_enter Tryd.func43, Tryd.ntmps43
  go_wp2_with fail
  refine (HC.out _ H.out HB.out).mono ?_
  rintro e w1 ⟨g1, g2, rfl, hne, o1, o2, hb⟩
  have HO := Lib.hid (Rd.of_own o1)
  have HBW := Lib.hid hb
  clear o1 o2 hb hne
  go_wp2_with fail
  go_loop [9] (fun i => ∃ k : Nat, k ≤ 9 ∧ i = .int .i64 k ∧ Hid (∀ (j : Nat) (x : Int), j < k → S.1[j]? = some x → decide (roll < x) = false)) (fun i => 9 - (intOf i).toNat)
  case atStart => exact ⟨0, Nat.zero_le _, rfl, (show Hid _ from fun j _ hj => absurd hj (Nat.not_lt_zero _))⟩
  case round =>
    obtain ⟨k, hk, rfl, HQ⟩ := hrel
    by_cases hlt : k < 9
    · obtain ⟨b, o, x, hA, hbl, hx, hc⟩ := HO.out.int hlt
      injection hA with hA
      injection hA with hA1 hA2
      subst hA1
      subst hA2
      rw [Nat.zero_add] at hc
      have hk0 : (0 : Int) ≤ (k : Int) := by omega
      have hk1 : (k : Int) < 9 := by omega
      have HX := Lib.hid hx
      clear hx
      by_cases e1 : roll < x
      · have e1' : decide (roll < x) = true := decide_eq_true e1
        have hRk : R = (k : Int) := by rw [← HR.out]; exact idxF_hit HX.out e1' HQ.out
        subst hRk
        clear e1'
        go_wp2
        go_ret
        exact ⟨rfl, HBW.out⟩
      · have E1 := Lib.hid (decide_eq_false e1)
        go_wp2
        go_round
        case rel =>
          refine ⟨k + 1, by omega, by go_num, (show Hid _ from fun j p hj hp => ?_)⟩
          by_cases e : j = k
          · subst e
            have := HX.out
            rw [this] at hp
            injection hp with hp
            rw [← hp]
            exact E1.out
          · exact HQ.out j p (by omega) hp
        case measure => simp [intOf]; omega
    · have : k = 9 := by omega
      subst this
      have hRk : R = -1 := by rw [← HR.out]; exact idxF_miss (by rw [HD.out.wl]; exact HQ.out)
      subst hRk
      go_wp2
      go_ret
      exact ⟨rfl, HBW.out⟩

set_option maxHeartbeats 2000000 in
theorem specRowsFault_any (A : Option Addr) (n c : Nat) (ps : List (Int × Int)) (roll : Int) (B : Option Addr) (m d : Nat) (rs : List Int) (w : World) (h : Rd w 2 A n c (pr ps)) (hB : Rd w 1 B m d (ints rs)) :
    Calls Tryd.prog 15 #[.slice A n c, .int .i64 roll, .slice B m d] w fun e w' => e = .returned (.tuple #[.int .i64 (rowsFaultZ ps roll rs), .int .i64 (rowsC ps roll rs)]) ∧ Below w.heap.size w w' := by
  have hl := h.plen
  have hl' := hB.ilen
  have hcode := fun W h hB => l11Code_any A n c ps roll B m d rs W h hB
  unfold rowsFaultZ
  by_cases hz : rowsC ps roll rs = 0
  · obtain ⟨ho, hlen, hr⟩ := rowsC_ok hz
    have hmn : m = n := by omega
    subst hmn
    have hf := fun W h hB => l11Fault_any A m c ps roll B d rs W h hB ho hr
    rw [hz] at hcode
    rw [hz, if_pos rfl]
    generalize faultZ ps roll rs = F at *
    have HC := Lib.hid hcode
    have HF := Lib.hid hf
    have H := Lib.hid h
    have HB := Lib.hid hB
    clear hcode hf h hB hl hl' ho hlen hr hz
    go_enter Tryd.func15, Tryd.ntmps15
    go_wp2_with fail
    refine (HC.out _ H.out HB.out).mono ?_
    rintro e w1 ⟨rfl, rfl⟩
    go_wp2_with fail
    refine (HF.out _ H.out HB.out).mono ?_
    rintro e w2 ⟨rfl, hb⟩
    go_wp2_with fail
    go_returns
    exact ⟨rfl, hb⟩
  · rw [if_neg hz]
    have hne : (rowsC ps roll rs != 0) = true := by simpa using hz
    generalize rowsC ps roll rs = F at *
    have HC := Lib.hid hcode
    have H := Lib.hid h
    have HB := Lib.hid hB
    clear hcode h hB hl hl' hz
    go_enter Tryd.func15, Tryd.ntmps15
    go_wp2_with fail
    refine (HC.out _ H.out HB.out).mono ?_
    rintro e w1 ⟨rfl, rfl⟩
    go_wp2_with fail
    go_returns
    exact ⟨rfl, Below.refl _ _⟩

set_option maxHeartbeats 1000000 in
theorem rowsFault_pred (xs : List Int) (roll : Int) (b1 : Nat) (w : World) (h1 : w.cell? ⟨b1, 0, none⟩ = some (.int .i64 roll)) :
    PredB Tryd.prog 41 #[.pointer (some ⟨b1, 0, none⟩)] (Value.int .i64) (fun x => decide (roll < x)) xs w := fun W x _ hb => by
  have hl1 := World.block_lt_of_cell? _ _ h1
  have c1 : W.cell? ⟨b1, 0, none⟩ = some (.int .i64 roll) := (hb.cell (p := ⟨b1, 0, none⟩) hl1).trans h1
  clear h1 hb
  show Calls Tryd.prog 41 #[.int .i64 x, .pointer (some ⟨b1, 0, none⟩)] W fun e w' => e = .returned (.bool (decide (roll < x))) ∧ Below W.heap.size W w'
  go_enter Tryd.func41, Tryd.ntmps41
  go_wp2
  go_ret
  exact ⟨rfl, Below.refl _ _⟩

set_option maxHeartbeats 2000000 in
theorem implRowsFault_any (A : Option Addr) (n c : Nat) (ps : List (Int × Int)) (roll : Int) (B : Option Addr) (m d : Nat) (rs : List Int) (w : World) (h : Rd w 2 A n c (pr ps)) (hB : Rd w 1 B m d (ints rs)) :
    Calls Tryd.prog 14 #[.slice A n c, .int .i64 roll, .slice B m d] w fun e w' => e = .returned (.tuple #[.int .i64 (rowsFaultZ ps roll rs), .int .i64 (rowsC ps roll rs)]) ∧ Below w.heap.size w w' := by
  have hl := h.plen
  have hl' := hB.ilen
  have hcode := fun W h hB => rowsCode_any A n c ps roll B m d rs W h hB
  have b0 : Below w.heap.size w (w.alloc (.cells #[.int .i64 roll] 2)) := (by go_grown)
  have B0 := Box.new w #[.int .i64 roll] 2
  have c0 := B0.cell
  have H0 := Lib.hid (h.below b0)
  have HB0 := Lib.hid (hB.below b0)
  unfold rowsFaultZ
  by_cases hz : rowsC ps roll rs = 0
  · obtain ⟨ho, hlen, hr⟩ := rowsC_ok hz
    have hmn : m = n := by omega
    subst hmn
    have eg : ∀ args w, (callFunc 41 args).run Tryd.prog w = .ok (.enter 41 args) w := enters_of Tryd.func41 (by kernel_rfl) rfl
    have hf := fun W h hB => rowsOf_any A m c ps roll B m d rs W h hB ho (Nat.le_refl _) hr
    rw [hz] at hcode
    rw [hz, if_pos rfl]
    have hfz : faultZ ps roll rs = idxF (fun x => decide (roll < x)) (rowsK ps rs m).1 := by unfold faultZ; rw [hl']
    rw [hfz]
    generalize rowsK ps rs m = S at *
    have hix := fun A n c W h hc => indexFunc_i64 41 #[.pointer (some ⟨w.heap.size, 0, none⟩)] eg (fun x => decide (roll < x)) A n c S.1 W h (rowsFault_pred S.1 roll w.heap.size W hc)
    generalize idxF (fun x => decide (roll < x)) S.1 = F at *
    have HC := Lib.hid hcode
    have HF := Lib.hid hf
    have HI := Lib.hid hix
    clear hcode hf hix h hB hl hl' ho hlen hr hz eg hfz
    go_enter Tryd.func14, Tryd.ntmps14
    go_wp2_with fail
    refine (HC.out _ H0.out HB0.out).mono ?_
    rintro e w1 ⟨rfl, hb1⟩
    have b1 := b0.trans (hb1.mono b0.size)
    have B1 := B0.below hb1
    have H1 := Lib.hid (H0.out.below hb1)
    have HB1 := Lib.hid (HB0.out.below hb1)
    have c1 := B1.cell
    clear hb1 b0 B0 c0 H0 HB0
    go_wp2_with fail
    refine (HF.out _ H1.out HB1.out).mono ?_
    rintro e w2 ⟨g1, g2, rfl, hne, o1, o2, hb2⟩
    have b2 := b1.trans (hb2.mono b1.size)
    have B2 := B1.below hb2
    have c2 : w2.cell? ⟨w.heap.size, 0, none⟩ = some (.int .i64 roll) := B2.cell 0
    have R2 := Lib.hid (Rd.of_own o1)
    clear hb2 b1 B1 c1 H1 HB1 o1 o2 hne
    go_wp2_with fail
    refine (HI.out _ _ _ _ R2.out c2).mono ?_
    rintro e w3 ⟨rfl, hb3⟩
    have b3 := b2.trans (hb3.mono b2.size)
    go_wp2_with fail
    go_returns
    exact ⟨rfl, b3⟩
  · rw [if_neg hz]
    have hne : (rowsC ps roll rs != 0) = true := by simpa using hz
    generalize rowsC ps roll rs = F at *
    have HC := Lib.hid hcode
    clear hcode h hB hl hl' hz
    go_enter Tryd.func14, Tryd.ntmps14
    go_wp2_with fail
    refine (HC.out _ H0.out HB0.out).mono ?_
    rintro e w1 ⟨rfl, hb1⟩
    have b1 := b0.trans (hb1.mono b0.size)
    go_wp2_with fail
    go_returns
    exact ⟨rfl, b1⟩
end Go.Proofs.YthdbaflihgkomaaDoor
/- The law on RowsFault. Printed by mkrw6.py. -/
namespace Go.Proofs.YthdbaflihgkomaaDoor
open Go.RowKit

end Go.Proofs.YthdbaflihgkomaaDoor
/- The length of rows: sumOf, l11Height, l11Fine, HeightOfRows (program and reference), and the law. Printed by mkrw7.py. -/
namespace Go.Proofs.YthdbaflihgkomaaDoor
open Go.RowKit Go.Shelf

def sumI : List Int → Int
  | [] => 0
  | x :: xs => x + sumI xs
theorem sumI_app : ∀ (xs : List Int) (x : Int), sumI (xs ++ [x]) = sumI xs + x
  | [], x => by simp [sumI]
  | y :: ys, x => by
    simp only [List.cons_append, sumI, sumI_app ys x]
    omega
theorem sumI_bd {xs : List Int} (h : ∀ (j : Nat) (x : Int), xs[j]? = some x → 0 ≤ x ∧ x ≤ 5000) : ∀ k, k ≤ xs.length → 0 ≤ sumI (xs.take k) ∧ sumI (xs.take k) ≤ k * 5000
  | 0, _ => by simp [sumI]
  | k + 1, hk => by
    obtain ⟨x, hx⟩ : ∃ x, xs[k]? = some x := ⟨_, List.getElem?_eq_getElem (by omega)⟩
    have ih := sumI_bd h k (by omega)
    have hb := h k x hx
    rw [take_snoc hx, sumI_app]
    omega

set_option maxHeartbeats 1000000 in
theorem sumOf_any (A : Option Addr) (n c : Nat) (xs : List Int) (w : World) (h : Rd w 1 A n c (ints xs)) (hn : n ≤ 9) (hx : ∀ (j : Nat) (x : Int), xs[j]? = some x → 0 ≤ x ∧ x ≤ 5000) :
    Calls Tryd.prog 36 #[.slice A n c] w fun e w' => e = .returned (.int .i64 (sumI xs)) ∧ w = w' := by
  have hl := h.ilen
  have h1 := h.cap
  have h2 := h.max
  obtain ⟨R, hR⟩ : ∃ R, sumI xs = R := ⟨_, rfl⟩
  rw [hR]
  have H := Lib.hid h
  have HL := Lib.hid hl
  have HX := Lib.hid hx
  have HR := Lib.hid hR
  clear h hl hx hR
  go_enter Tryd.func36, Tryd.ntmps36
  go_wp2
  go_loop [3, 8] (fun sm i => ∃ (k : Nat) (S : Int), k ≤ n ∧ i = .int .i64 k ∧ sm = .int .i64 S ∧ Hid (sumI (xs.take k) = S)) (fun _ i => n - (intOf i).toNat)
  case atStart => exact ⟨0, 0, Nat.zero_le _, rfl, rfl, (show Hid _ from rfl)⟩
  case round =>
    obtain ⟨k, S, hk, rfl, rfl, HS⟩ := hrel
    by_cases hlt : k < n
    · obtain ⟨b, o, x, hA, hbl, hx, hc⟩ := H.out.int hlt
      subst hA
      have hb := HX.out k x hx
      have hS := sumI_bd HX.out k (by have := HL.out; omega)
      rw [HS.out] at hS
      have hk0 : (0 : Int) ≤ (k : Int) := by omega
      have hk1 : (k : Int) < (n : Int) := by omega
      have HN : Hid (sumI (xs.take (k + 1)) = S + x) := by rw [take_snoc hx, sumI_app, HS.out]; exact Lib.hid rfl
      clear hx
      go_wp2
      go_round
      case rel => exact ⟨k + 1, S + x, by omega, by go_num, rfl, HN⟩
      case measure => simp [intOf]; omega
    · have : k = n := by omega
      subst this
      have hS : S = R := by rw [← HS.out, ← HR.out, List.take_of_length_le (by rw [HL.out]; exact Nat.le_refl _)]
      subst hS
      go_wp2
      go_ret
      exact ⟨rfl, rfl⟩

/-- The code of blocks and rows without faults; the length. -/
def fineZ (ps : List (Int × Int)) (roll : Int) (rs : List Int) : Int := if rowsC ps roll rs = 0 then (if 0 ≤ faultZ ps roll rs then 6 else 0) else rowsC ps roll rs
def lenZ (ps : List (Int × Int)) (rs : List Int) : Int := sumI (rowsK ps rs rs.length).2
def heightOfZ (ps : List (Int × Int)) (roll : Int) (rs : List Int) : Int := if fineZ ps roll rs = 0 then lenZ ps rs else 0
theorem fine_ok {ps : List (Int × Int)} {roll : Int} {rs : List Int} (h : fineZ ps roll rs = 0) : rowsC ps roll rs = 0 ∧ faultZ ps roll rs < 0 := by
  unfold fineZ at h
  split at h
  · rename_i h1
    split at h
    · omega
    · exact ⟨h1, by omega⟩
  · rename_i h1
    exact absurd h h1

set_option maxHeartbeats 2000000 in
theorem l11Fine_any (A : Option Addr) (n c : Nat) (ps : List (Int × Int)) (roll : Int) (B : Option Addr) (m d : Nat) (rs : List Int) (w : World) (h : Rd w 2 A n c (pr ps)) (hB : Rd w 1 B m d (ints rs)) :
    Calls Tryd.prog 37 #[.slice A n c, .int .i64 roll, .slice B m d] w fun e w' => e = .returned (.int .i64 (fineZ ps roll rs)) ∧ Below w.heap.size w w' := by
  have hl := h.plen
  have hl' := hB.ilen
  have hcode := fun W h hB => l11Code_any A n c ps roll B m d rs W h hB
  unfold fineZ
  by_cases hz : rowsC ps roll rs = 0
  · obtain ⟨ho, hlen, hr⟩ := rowsC_ok hz
    have hmn : m = n := by omega
    subst hmn
    have hf := fun W h hB => l11Fault_any A m c ps roll B d rs W h hB ho hr
    rw [hz] at hcode
    rw [hz, if_pos rfl]
    generalize faultZ ps roll rs = F at *
    have HC := Lib.hid hcode
    have HF := Lib.hid hf
    have H := Lib.hid h
    have HB := Lib.hid hB
    clear hcode hf h hB hl hl' ho hlen hr hz
    by_cases hF : 0 ≤ F
    · rw [if_pos hF]
      go_enter Tryd.func37, Tryd.ntmps37
      go_wp2_with fail
      refine (HC.out _ H.out HB.out).mono ?_
      rintro e w1 ⟨rfl, rfl⟩
      go_wp2_with fail
      refine (HF.out _ H.out HB.out).mono ?_
      rintro e w2 ⟨rfl, hb⟩
      go_wp2_with fail
      go_ret
      exact ⟨rfl, hb⟩
    · rw [if_neg hF]
      go_enter Tryd.func37, Tryd.ntmps37
      go_wp2_with fail
      refine (HC.out _ H.out HB.out).mono ?_
      rintro e w1 ⟨rfl, rfl⟩
      go_wp2_with fail
      refine (HF.out _ H.out HB.out).mono ?_
      rintro e w2 ⟨rfl, hb⟩
      go_wp2_with fail
      go_ret
      exact ⟨rfl, hb⟩
  · rw [if_neg hz]
    have hne : (rowsC ps roll rs == 0) = false := by simpa using hz
    generalize rowsC ps roll rs = F at *
    have HC := Lib.hid hcode
    have H := Lib.hid h
    have HB := Lib.hid hB
    clear hcode h hB hl hl' hz
    go_enter Tryd.func37, Tryd.ntmps37
    go_wp2_with fail
    refine (HC.out _ H.out HB.out).mono ?_
    rintro e w1 ⟨rfl, rfl⟩
    go_wp2_with fail
    go_ret
    exact ⟨rfl, Below.refl _ _⟩

set_option maxHeartbeats 2000000 in
theorem l11Height_any (A : Option Addr) (n c : Nat) (ps : List (Int × Int)) (roll : Int) (B : Option Addr) (d : Nat) (rs : List Int) (w : World) (h : Rd w 2 A n c (pr ps)) (hB : Rd w 1 B n d (ints rs)) (ho : BOk ps roll) (hr : ∀ (j : Nat) (r : Int), rs[j]? = some r → 0 ≤ r ∧ r ≤ 8) :
    Calls Tryd.prog 44 #[.slice A n c, .slice B n d] w fun e w' => e = .returned (.int .i64 (lenZ ps rs)) ∧ Below w.heap.size w w' := by
  have hl := h.plen
  have hl' := hB.ilen
  have hbd := rowsK_B ho hr n (by omega) (by omega)
  have hcall := fun W h hB => l11Sums_any A n c ps roll B n d rs W h hB ho (by omega) hr
  have hf : lenZ ps rs = sumI (rowsK ps rs n).2 := by unfold lenZ; rw [hl']
  rw [hf]
  generalize rowsK ps rs n = S at *
  obtain ⟨R, hR⟩ : ∃ R, sumI S.2 = R := ⟨_, rfl⟩
  rw [hR]
  have HR := Lib.hid hR
  have HC := Lib.hid hcall
  have H := Lib.hid h
  have HB := Lib.hid hB
  have HD := Lib.hid hbd
  clear hcall h hB hbd hf hR hl hl' ho hr
  go_enter Tryd.func44, Tryd.ntmps44
  go_wp2_with fail
  refine (HC.out _ H.out HB.out).mono ?_
  rintro e w1 ⟨g1, g2, rfl, hne, o1, o2, hb⟩
  have HO := Lib.hid (Rd.of_own o2)
  have HBW := Lib.hid hb
  clear o1 o2 hb hne
  go_wp2_with fail
  go_loop [7, 8] (fun sm i => ∃ (k : Nat) (Q : Int), k ≤ 9 ∧ i = .int .i64 k ∧ sm = .int .i64 Q ∧ Hid (sumI (S.2.take k) = Q)) (fun _ i => 9 - (intOf i).toNat)
  case atStart => exact ⟨0, 0, Nat.zero_le _, rfl, rfl, (show Hid _ from rfl)⟩
  case round =>
    obtain ⟨k, Q, hk, rfl, rfl, HQ⟩ := hrel
    by_cases hlt : k < 9
    · obtain ⟨b, o, x, hA, hbl, hx, hc⟩ := HO.out.int hlt
      injection hA with hA
      injection hA with hA1 hA2
      subst hA1
      subst hA2
      rw [Nat.zero_add] at hc
      have hb := HD.out.hb k x hx
      have hS := sumI_bd HD.out.hb k (by rw [HD.out.hl]; exact hk)
      rw [HQ.out] at hS
      have hk0 : (0 : Int) ≤ (k : Int) := by omega
      have hk1 : (k : Int) < 9 := by omega
      have HN : Hid (sumI (S.2.take (k + 1)) = Q + x) := by rw [take_snoc hx, sumI_app, HQ.out]; exact Lib.hid rfl
      clear hx
      go_wp2
      go_round
      case rel => exact ⟨k + 1, Q + x, by omega, by go_num, rfl, HN⟩
      case measure => simp [intOf]; omega
    · have : k = 9 := by omega
      subst this
      have hS : Q = R := by rw [← HQ.out, ← HR.out, List.take_of_length_le (by rw [HD.out.hl]; exact Nat.le_refl _)]
      subst hS
      go_wp2
      go_ret
      exact ⟨rfl, HBW.out⟩

set_option maxHeartbeats 2000000 in
theorem specHeightOfRows_any (A : Option Addr) (n c : Nat) (ps : List (Int × Int)) (roll : Int) (B : Option Addr) (m d : Nat) (rs : List Int) (w : World) (h : Rd w 2 A n c (pr ps)) (hB : Rd w 1 B m d (ints rs)) :
    Calls Tryd.prog 17 #[.slice A n c, .int .i64 roll, .slice B m d] w fun e w' => e = .returned (.tuple #[.int .i64 (heightOfZ ps roll rs), .int .i64 (fineZ ps roll rs)]) ∧ Below w.heap.size w w' := by
  have hl := h.plen
  have hl' := hB.ilen
  have hcode := fun W h hB => l11Fine_any A n c ps roll B m d rs W h hB
  unfold heightOfZ
  by_cases hz : fineZ ps roll rs = 0
  · obtain ⟨ho, hlen, hr⟩ := rowsC_ok (fine_ok hz).1
    have hmn : m = n := by omega
    subst hmn
    have hf := fun W h hB => l11Height_any A m c ps roll B d rs W h hB ho hr
    rw [hz] at hcode
    rw [hz, if_pos rfl]
    generalize lenZ ps rs = F at *
    have HC := Lib.hid hcode
    have HF := Lib.hid hf
    have H := Lib.hid h
    have HB := Lib.hid hB
    clear hcode hf h hB hl hl' ho hlen hr hz
    go_enter Tryd.func17, Tryd.ntmps17
    go_wp2_with fail
    refine (HC.out _ H.out HB.out).mono ?_
    rintro e w1 ⟨rfl, hb1⟩
    go_wp2_with fail
    refine (HF.out _ (H.out.below hb1) (HB.out.below hb1)).mono ?_
    rintro e w2 ⟨rfl, hb⟩
    go_wp2_with fail
    go_returns
    exact ⟨rfl, hb1.trans (hb.mono hb1.size)⟩
  · rw [if_neg hz]
    have hne : (fineZ ps roll rs != 0) = true := by simpa using hz
    generalize fineZ ps roll rs = F at *
    have HC := Lib.hid hcode
    have H := Lib.hid h
    have HB := Lib.hid hB
    clear hcode h hB hl hl' hz
    go_enter Tryd.func17, Tryd.ntmps17
    go_wp2_with fail
    refine (HC.out _ H.out HB.out).mono ?_
    rintro e w1 ⟨rfl, hb⟩
    go_wp2_with fail
    go_returns
    exact ⟨rfl, hb⟩

set_option maxHeartbeats 2000000 in
theorem implHeightOfRows_any (A : Option Addr) (n c : Nat) (ps : List (Int × Int)) (roll : Int) (B : Option Addr) (m d : Nat) (rs : List Int) (w : World) (h : Rd w 2 A n c (pr ps)) (hB : Rd w 1 B m d (ints rs)) :
    Calls Tryd.prog 16 #[.slice A n c, .int .i64 roll, .slice B m d] w fun e w' => e = .returned (.tuple #[.int .i64 (heightOfZ ps roll rs), .int .i64 (fineZ ps roll rs)]) ∧ Below w.heap.size w w' := by
  have hl := h.plen
  have hl' := hB.ilen
  have hcode := fun W h hB => implRowsFault_any A n c ps roll B m d rs W h hB
  unfold heightOfZ fineZ
  unfold rowsFaultZ at hcode
  by_cases hz : rowsC ps roll rs = 0
  · obtain ⟨ho, hlen, hr⟩ := rowsC_ok hz
    have hmn : m = n := by omega
    subst hmn
    have hbd := rowsK_B ho hr m (by omega) (by omega)
    have hf := fun W h hB => rowsOf_any A m c ps roll B m d rs W h hB ho (Nat.le_refl _) hr
    have hlz : lenZ ps rs = sumI (rowsK ps rs m).2 := by unfold lenZ; rw [hl']
    rw [hz, if_pos rfl] at hcode
    rw [hz, if_pos rfl, hlz]
    generalize rowsK ps rs m = S at *
    have hsum := fun A c W h => sumOf_any A 9 c S.2 W h (Nat.le_refl _) hbd.hb
    generalize faultZ ps roll rs = F at *
    generalize sumI S.2 = R at *
    have HC := Lib.hid hcode
    have HF := Lib.hid hf
    have HS := Lib.hid hsum
    have H := Lib.hid h
    have HB := Lib.hid hB
    clear hcode hf hsum h hB hl hl' ho hlen hr hz hlz hbd
    by_cases hF : 0 ≤ F
    · rw [if_pos hF, if_neg (by omega)]
      go_enter Tryd.func16, Tryd.ntmps16
      go_wp2_with fail
      refine (HC.out _ H.out HB.out).mono ?_
      rintro e w1 ⟨rfl, hb1⟩
      go_wp2_with fail
      go_returns
      exact ⟨rfl, hb1⟩
    · rw [if_neg hF, if_pos rfl]
      go_enter Tryd.func16, Tryd.ntmps16
      go_wp2_with fail
      refine (HC.out _ H.out HB.out).mono ?_
      rintro e w1 ⟨rfl, hb1⟩
      go_wp2_with fail
      refine (HF.out _ (H.out.below hb1) (HB.out.below hb1)).mono ?_
      rintro e w2 ⟨g1, g2, rfl, hne, o1, o2, hb2⟩
      have b2 := hb1.trans (hb2.mono hb1.size)
      have R2 := Lib.hid (Rd.of_own o2)
      clear o1 o2 hne hb2
      go_wp2_with fail
      refine (HS.out _ _ _ R2.out).mono ?_
      rintro e w3 ⟨rfl, rfl⟩
      go_wp2_with fail
      go_returns
      exact ⟨rfl, b2⟩
  · rw [if_neg hz, if_neg hz]
    rw [if_neg hz] at hcode
    have hne : (rowsC ps roll rs != 0) = true := by simpa using hz
    generalize rowsC ps roll rs = F at *
    have HC := Lib.hid hcode
    have H := Lib.hid h
    have HB := Lib.hid hB
    clear hcode h hB hl hl' hz
    go_enter Tryd.func16, Tryd.ntmps16
    go_wp2_with fail
    refine (HC.out _ H.out HB.out).mono ?_
    rintro e w1 ⟨rfl, hb⟩
    go_wp2_with fail
    go_returns
    exact ⟨rfl, hb⟩

end Go.Proofs.YthdbaflihgkomaaDoor
