/- First rows with room, of the program (firstRows). Printed by mkfr4.py. -/
import Derived.Test.YthdbaflihgkomaaFr3
namespace Go.Proofs.Ythdbaflihgkomaa
open Go.RowKit Go.Shelf

def cn (n : Nat) : Array Value := (ints (List.replicate n 0)).toArray
theorem mkn (n : Nat) (hn : n ≤ 9) (W : World) : (Instr.makeSlice 35 (.int .i64 n) (.int .i64 n)).run Try.prog W = .ok (.slice (some ⟨W.heap.size, 0, none⟩) n n) (W.alloc (.cells (cn n) 2)) := by
  obtain ⟨i0, hi, hz0, hz1, hz2⟩ := info_parts info_i64r
  have h := run_make (P := Try.prog) W 35 2 i0 (.int .i64 0) Try.underlying35 hi hz0 .i64 .i64 n n (by omega) (by omega) (by rw [hz2]; omega) (by omega)
  rw [hz1, Int.toNat_natCast] at h
  have e : madeCells (Value.int .i64 0).cells (n * 1) = cn n := by
    apply Array.toList_inj.1
    simp [cn, ints, toList_madeCells_one, Value.cells]
  rw [e] at h
  exact h
theorem ownn (n : Nat) (hn : n ≤ 9) (W : World) (base : Nat) (hb : base ≤ W.heap.size) : (W.alloc (.cells (cn n) 2)).ownsRow base 2 1 (.slice (some ⟨W.heap.size, 0, none⟩) n n) n (ints (List.replicate n 0)) := by
  have h := World.ownsRow_lit (e := 2) (size := 1) W (cn n) n hb (by unfold maxLen; omega) (by simp [cn, ints])
  exact h
theorem ownA (n : Nat) (hn : n ≤ 9) (w : World) (base : Nat) (hb : base ≤ w.heap.size) : ((w.alloc (.cells (cn n) 2)).alloc (.cells c9 2)).drew.ownsRow base 2 1 (.slice (some ⟨w.heap.size, 0, none⟩) n n) n (ints (List.replicate n 0)) ∧
    ((w.alloc (.cells (cn n) 2)).alloc (.cells c9 2)).drew.ownsRow base 2 1 (.slice (some ⟨w.heap.size + 1, 0, none⟩) 9 9) 9 (ints z9) ∧
    Below w.heap.size w ((w.alloc (.cells (cn n) 2)).alloc (.cells c9 2)).drew := by
  have h1 := ownn n hn w base hb
  have h2 := own9 (w.alloc (.cells (cn n) 2)) base (by simp; omega)
  have e : (w.alloc (.cells (cn n) 2)).heap.size = w.heap.size + 1 := by simp
  rw [e] at h2
  exact ⟨(own_below h1 ((Below.refl _ _).alloc (Nat.le_refl _) _)).drew, h2.drew, (((Below.refl w.heap.size w).alloc (Nat.le_refl _) _).alloc (by simp) _).drew⟩
theorem ownB (n : Nat) (hn : n ≤ 9) (w : World) (base : Nat) (hb : base ≤ w.heap.size) : ((w.alloc (.cells c9 2)).alloc (.cells (cn n) 2)).drew.ownsRow base 2 1 (.slice (some ⟨w.heap.size + 1, 0, none⟩) n n) n (ints (List.replicate n 0)) ∧
    ((w.alloc (.cells c9 2)).alloc (.cells (cn n) 2)).drew.ownsRow base 2 1 (.slice (some ⟨w.heap.size, 0, none⟩) 9 9) 9 (ints z9) ∧
    Below w.heap.size w ((w.alloc (.cells c9 2)).alloc (.cells (cn n) 2)).drew := by
  have h1 := own9 w base hb
  have h2 := ownn n hn (w.alloc (.cells c9 2)) base (by simp; omega)
  have e : (w.alloc (.cells c9 2)).heap.size = w.heap.size + 1 := by simp
  rw [e] at h2
  exact ⟨h2.drew, (own_below h1 ((Below.refl _ _).alloc (Nat.le_refl _) _)).drew, (((Below.refl w.heap.size w).alloc (Nat.le_refl _) _).alloc (by simp) _).drew⟩

set_option maxHeartbeats 1000000 in
theorem first_pred (roll : Int) (b o n c i : Nat) (W : List Int) (x : Int) (p1 p2 p3 : Nat) (w : World) (hW : ∀ (j : Nat) (v : Int), W[j]? = some v → 0 ≤ v ∧ v ≤ 5000) (hx : 0 ≤ x ∧ x ≤ 5000) (hi : i < n)
    (k1 : w.cell? ⟨b, o + i * 2, none⟩ = some (.int .i64 x)) (h1 : w.cell? ⟨p1, 0, none⟩ = some (.slice (some ⟨b, o, none⟩) n c)) (h2 : w.cell? ⟨p2, 0, none⟩ = some (.int .i64 i)) (h3 : w.cell? ⟨p3, 0, none⟩ = some (.int .i64 roll)) :
    PredB Try.prog 76 #[.pointer (some ⟨p1, 0, none⟩), .pointer (some ⟨p2, 0, none⟩), .pointer (some ⟨p3, 0, none⟩)] (Value.int .i64) (fun v => decide (v + x ≤ roll)) W w := fun V v hv hb => by
  have c0 : V.cell? ⟨b, o + i * 2, none⟩ = some (.int .i64 x) := (hb.cell (p := ⟨b, o + i * 2, none⟩) (World.block_lt_of_cell? _ _ k1)).trans k1
  have c1 : V.cell? ⟨p1, 0, none⟩ = some (.slice (some ⟨b, o, none⟩) n c) := (hb.cell (p := ⟨p1, 0, none⟩) (World.block_lt_of_cell? _ _ h1)).trans h1
  have c2 : V.cell? ⟨p2, 0, none⟩ = some (.int .i64 i) := (hb.cell (p := ⟨p2, 0, none⟩) (World.block_lt_of_cell? _ _ h2)).trans h2
  have c3 : V.cell? ⟨p3, 0, none⟩ = some (.int .i64 roll) := (hb.cell (p := ⟨p3, 0, none⟩) (World.block_lt_of_cell? _ _ h3)).trans h3
  obtain ⟨j, hj⟩ := List.getElem?_of_mem hv
  have hvb := hW j v hj
  have hi0 : (0 : Int) ≤ (i : Int) := by omega
  have hi1 : (i : Int) < (n : Int) := by omega
  clear k1 h1 h2 h3 hb hj hv hW
  show Calls Try.prog 76 #[.int .i64 v, .pointer (some ⟨p1, 0, none⟩), .pointer (some ⟨p2, 0, none⟩), .pointer (some ⟨p3, 0, none⟩)] V fun e w' => e = .returned (.bool (decide (v + x ≤ roll))) ∧ Below V.heap.size V w'
  go_enter Try.func76, Try.ntmps76
  go_wp2
  go_quiet (fail)
  go_wp2
  go_ret
  exact ⟨rfl, below_drewN (Below.refl _ _) _⟩

set_option maxRecDepth 100000 in
set_option maxHeartbeats 8000000 in
theorem firstRows_any (b o : Nat) (n c : Nat) (ps : List (Int × Int)) (roll : Int) (B : Option Addr) (m d : Nat) (os : List Int) (w : World) (h : Rd w 2 (some ⟨b, o, none⟩) n c (pr ps)) (hB : Rd w 1 B m d (ints os)) (ho : BOk ps roll) (hm : m ≤ 9) (hos : ∀ (j : Nat) (i : Int), os[j]? = some i → 0 ≤ i ∧ i < n) :
    Calls Try.prog 56 #[.slice (some ⟨b, o, none⟩) n c, .int .i64 roll, .slice B m d] w fun e w' => ∃ g, e = .returned (.slice (some ⟨g, 0, none⟩) n n) ∧
      w'.ownsRow w.heap.size 2 1 (.slice (some ⟨g, 0, none⟩) n n) n (ints (firstK ps roll os m).1) ∧ Below w.heap.size w w' := by
  have eg : ∀ args w, (callFunc 76 args).run Try.prog w = .ok (.enter 76 args) w := enters_of Try.func76 (by kernel_rfl) rfl
  have hl := h.plen
  have hn9 := ho.len
  have hn9' : n ≤ 9 := by omega
  have r0 := ho.r0
  have r1 := ho.r1
  have h1 := h.cap
  have h2 := h.max
  have h3 := hB.cap
  have h4 := hB.max
  have hmk := mkn n hn9'
  have b0 : Below w.heap.size w ((w.alloc (.cells #[.slice (some ⟨b, o, none⟩) n c] 25)).alloc (.cells #[.int .i64 roll] 2)) := (by go_grown)
  have B1 := (Box.new w #[.slice (some ⟨b, o, none⟩) n c] 25).alloc (.cells #[.int .i64 roll] 2)
  have B2 : Box ((w.alloc (.cells #[.slice (some ⟨b, o, none⟩) n c] 25)).alloc (.cells #[.int .i64 roll] 2)) (w.heap.size + 1) #[.int .i64 roll] := by
    have := Box.new (w.alloc (.cells #[.slice (some ⟨b, o, none⟩) n c] 25)) #[.int .i64 roll] 2
    simpa using this
  have s0 : ((w.alloc (.cells #[.slice (some ⟨b, o, none⟩) n c] 25)).alloc (.cells #[.int .i64 roll] 2)).heap.size = w.heap.size + 2 := by simp
  have H := Lib.hid h
  have HB := Lib.hid hB
  have HL := Lib.hid hl
  have HO := Lib.hid ho
  have HI := Lib.hid hos
  have HB1 := Lib.hid B1
  have HB2 := Lib.hid B2
  have HB0 := Lib.hid b0
  have HS0 := Lib.hid s0
  have HEG := Lib.hid eg
  clear h hB hl ho hos hn9 B1 B2 b0 s0 eg
  go_enter Try.func56, Try.ntmps56
  go_wp2
  generalize (w.alloc (.cells #[.slice (some ⟨b, o, none⟩) n c] 25)).alloc (.cells #[.int .i64 roll] 2) = w0 at *
  have c1 : w0.cell? ⟨w.heap.size, 0, none⟩ = some (.slice (some ⟨b, o, none⟩) n c) := HB1.out.cell 0
  have c1b : (w0.alloc (.cells c9 2)).cell? ⟨w.heap.size, 0, none⟩ = some (.slice (some ⟨b, o, none⟩) n c) := (HB1.out.alloc _).cell 0
  go_region
  · obtain ⟨oo1, oo2, oob⟩ := ownA n hn9' w0 w.heap.size (by rw [HS0.out]; omega)
    have hsz : w0.heap.size + 2 ≤ ((w0.alloc (.cells (cn n) 2)).alloc (.cells c9 2)).drew.heap.size := by simp
    generalize ((w0.alloc (.cells (cn n) 2)).alloc (.cells c9 2)).drew = w2 at *
    have HO1 := Lib.hid oo1
    have HO2 := Lib.hid oo2
    have HBB := Lib.hid (HB0.out.trans (oob.mono (by rw [HS0.out]; omega)))
    have P1 := Lib.hid (HB1.out.below oob)
    have P2 := Lib.hid (HB2.out.below oob)
    have hs2 := oob.size
    have hp1 := HB1.out.lt
    have hp2 := HB2.out.lt
    clear oo1 oo2 oob c1 c1b hmk HB1 HB2 HB0 HS0
    generalize w0.heap.size = S0 at *
    go_wp2
    go_loopw [18] (fun vi wr => ∃ (k : Nat) (O W : List Int), k ≤ m ∧ vi = .int .i64 k ∧ Hid (firstK ps roll os k = (O, W)) ∧ Hid (FirstB n roll O W k) ∧
        wr.ownsRow w.heap.size 2 1 (.slice (some ⟨S0, 0, none⟩) n n) n (ints O) ∧ wr.ownsRow w.heap.size 2 1 (.slice (some ⟨(S0 + 1), 0, none⟩) 9 9) 9 (ints W) ∧
        wr.cell? ⟨w.heap.size, 0, none⟩ = some (.slice (some ⟨b, o, none⟩) n c) ∧ wr.cell? ⟨w.heap.size + 1, 0, none⟩ = some (.int .i64 roll) ∧ S0 + 2 ≤ wr.heap.size ∧ Below w.heap.size w wr) (fun vi _ => m - (intOf vi).toNat)
    case atStart => exact ⟨0, _, _, Nat.zero_le _, rfl, (show Hid _ from rfl), (show Hid _ from by rw [HL.out]; exact firstB0 (by omega)), by rw [HL.out]; exact HO1.out, HO2.out, P1.out.cell 0, P2.out.cell 0, hsz, HBB.out⟩
    case round =>
      obtain ⟨k, O, W, hk, rfl, HK, HW, hown1, hown2, q1, q2, hsz', hb⟩ := hrel
      by_cases hlt : k < m
      · obtain ⟨b', o', iv, hA', hbl', hiv, hc3⟩ := HB.out.int hlt
        have hib := HI.out k iv hiv
        obtain ⟨i, rfl⟩ := Int.eq_ofNat_of_zero_le hib.1
        obtain ⟨b1, o1, x, y, hA, hbl, hx, hc1, hc2⟩ := H.out.pair (show i < n by omega)
        injection hA with hA
        injection hA with hA1 hA2
        subst hA1
        subst hA2
        subst hA'
        have hc1 := (hb.cell (p := ⟨b, o + i * 2, none⟩) hbl).trans hc1
        have hc3 := (hb.cell (p := ⟨b', o' + k, none⟩) hbl').trans hc3
        have hxy := HO.out.blk i _ hx
        have x0 : 1 ≤ x ∧ x ≤ roll := hxy.1
        obtain ⟨r, hr, hrk, hfit, hno⟩ := HW.out.room (by omega) x0.2
        have HN : Hid (firstK ps roll os (k + 1) = (O.set i (r : Int), W.set r (W.getD r 0 + x))) := Lib.hid (by have := firstK_step HK.out hiv hx hr; simpa using this)
        have HV : Hid (FirstB n roll (O.set i (r : Int)) (W.set r (W.getD r 0 + x)) (k + 1)) := Lib.hid (HW.out.step (i := i) (by omega) hrk hfit (by omega))
        have hA2 : Below wr.heap.size wr (wr.alloc (.cells #[.int .i64 i] 3)) := (by go_grown)
        have BX := (Box.new wr #[.int .i64 i] 3).cell 0
        have z1 := own_below hown1 hA2
        have z2 := own_below hown2 hA2
        have l1 := (hA2.cell (p := ⟨b, o + i * 2, none⟩) (World.block_lt_of_cell? _ _ hc1)).trans hc1
        have l2 := (hA2.cell (p := ⟨w.heap.size, 0, none⟩) (World.block_lt_of_cell? _ _ q1)).trans q1
        have l3 := (hA2.cell (p := ⟨w.heap.size + 1, 0, none⟩) (World.block_lt_of_cell? _ _ q2)).trans q2
        have hroom : idxF (fun v => decide (v + x ≤ roll)) W = (r : Int) := hr
        have hidx := indexFunc_i64 76 #[.pointer (some ⟨w.heap.size, 0, none⟩), .pointer (some ⟨wr.heap.size, 0, none⟩), .pointer (some ⟨w.heap.size + 1, 0, none⟩)] HEG.out (fun v => decide (v + x ≤ roll)) _ _ _ W _ (Rd.of_own z2)
          (first_pred roll b o n c i W x w.heap.size wr.heap.size (w.heap.size + 1) _ (fun j v hv => by have := HW.out.wb j v hv; omega) (by omega) (by omega) l1 l2 BX l3)
        rw [hroom] at hidx
        have HIX := Lib.hid hidx
        have hb3 := hb.trans (hA2.mono hb.size)
        have wq := HW.out.wb r _ (getD_of (by rw [HW.out.wl]; omega))
        have hk0 : (0 : Int) ≤ (k : Int) := by omega
        have hk1 : (k : Int) < (m : Int) := by omega
        have hi0 : (0 : Int) ≤ (i : Int) := by omega
        have hi1 : (i : Int) < (n : Int) := by omega
        have hr8 : r ≤ 8 := by omega
        have Z1 := Lib.hid z1
        have Z2 := Lib.hid z2
        have L1 := Lib.hid l1
        have L2 := Lib.hid l2
        have L3 := Lib.hid l3
        have LB := Lib.hid BX
        have HB3 := Lib.hid hb3
        have hss : S0 + 2 ≤ (wr.alloc (.cells #[.int .i64 i] 3)).heap.size := by simp; omega
        clear hown1 hown2 hb hx hxy hr hno hiv hib BX hA2 z1 z2 l1 l2 l3 hidx hroom hb3 hc1 hc2 q1 q2 HK
        go_wp2_with fail
        refine (HIX.out).mono ?_
        rintro e w4 ⟨rfl, hb4⟩
        have z1 := own_below Z1.out hb4
        have z2 := own_below Z2.out hb4
        have d1 : w4.cell? ⟨b, o + i * 2, none⟩ = some (.int .i64 x) := (hb4.cell (p := ⟨b, o + i * 2, none⟩) (World.block_lt_of_cell? _ _ L1.out)).trans L1.out
        have d2 : w4.cell? ⟨w.heap.size, 0, none⟩ = some (.slice (some ⟨b, o, none⟩) n c) := (hb4.cell (p := ⟨w.heap.size, 0, none⟩) (World.block_lt_of_cell? _ _ L2.out)).trans L2.out
        have d3 : w4.cell? ⟨w.heap.size + 1, 0, none⟩ = some (.int .i64 roll) := (hb4.cell (p := ⟨w.heap.size + 1, 0, none⟩) (World.block_lt_of_cell? _ _ L3.out)).trans L3.out
        have d4 : w4.cell? ⟨wr.heap.size, 0, none⟩ = some (.int .i64 i) := (hb4.cell (p := ⟨wr.heap.size, 0, none⟩) (World.block_lt_of_cell? _ _ LB.out)).trans LB.out
        have hb5 := HB3.out.trans (hb4.mono HB3.out.size)
        have hs4 := hb4.size
        have cw := own_int z2 (i := r) (by omega) HW.out.wl
        have f4 := z2.frozenAt
        generalize W.getD r 0 = a at *
        have S2 := (own_iset z2 r (a + x)).1.drew
        have G2 := grown_drew (own_iset z2 r (a + x)).2
        have S1 := own_other z1 G2 (by omega)
        have T2 := cell_other d2 G2 (by omega)
        have T3 := cell_other d3 G2 (by omega)
        have T4 := cell_other d4 G2 (by omega)
        have SB : Below w.heap.size w (w4.setCell ⟨(S0 + 1), r, none⟩ (.int .i64 (a + x))).drew := (hb5.setCell (show w.heap.size ≤ (S0 + 1) by omega) _).drew
        have hs5 : S0 + 2 ≤ (w4.setCell ⟨(S0 + 1), r, none⟩ (.int .i64 (a + x))).drew.heap.size := by simp; omega
        have V1 := Lib.hid S1
        have V2 := Lib.hid S2
        have U2 := Lib.hid T2
        have U3 := Lib.hid T3
        have U4 := Lib.hid T4
        have VB := Lib.hid SB
        clear z1 z2 hb5 hb4 S1 S2 T2 T3 T4 SB G2 Z1 Z2 L1 L2 L3 LB HB3 HIX hss
        go_wp2
        go_region
        generalize (w4.setCell ⟨(S0 + 1), r, none⟩ (.int .i64 (a + x))).drew = w7 at *
        have e4 := U4.out
        have f7 := V1.out.frozenAt
        have c7 := own_int V1.out (i := i) (by omega) HW.out.ol
        obtain ⟨u1, G1⟩ := own_iset V1.out i (r : Int)
        have X1 := Lib.hid u1
        have X2 := Lib.hid (own_other V2.out G1 (by omega))
        have X3 := Lib.hid (cell_other U2.out G1 (by omega))
        have X4 := Lib.hid (cell_other U3.out G1 (by omega))
        have XB : Hid (Below w.heap.size w (w7.setCell ⟨S0, i, none⟩ (.int .i64 r))) := VB.out.setCell (show w.heap.size ≤ S0 by omega) _
        clear u1 G1 V1 V2 U2 U3 U4 VB d1 d2 d3 d4 cw f4
        go_wp2
        go_roundw
        case rel => exact ⟨k + 1, _, _, by omega, by go_num, HN, HV, X1.out, X2.out, X3.out, X4.out, by simpa using hs5, XB.out⟩
        case measure => simp [intOf]; omega
      · have : k = m := by omega
        subst this
        go_wp2
        go_ret
        refine ⟨_, rfl, ?_, hb⟩
        rw [HK.out]; exact hown1
  · obtain ⟨oo1, oo2, oob⟩ := ownB n hn9' w0 w.heap.size (by rw [HS0.out]; omega)
    have hsz : w0.heap.size + 2 ≤ ((w0.alloc (.cells c9 2)).alloc (.cells (cn n) 2)).drew.heap.size := by simp
    generalize ((w0.alloc (.cells c9 2)).alloc (.cells (cn n) 2)).drew = w2 at *
    have HO1 := Lib.hid oo1
    have HO2 := Lib.hid oo2
    have HBB := Lib.hid (HB0.out.trans (oob.mono (by rw [HS0.out]; omega)))
    have P1 := Lib.hid (HB1.out.below oob)
    have P2 := Lib.hid (HB2.out.below oob)
    have hs2 := oob.size
    have hp1 := HB1.out.lt
    have hp2 := HB2.out.lt
    clear oo1 oo2 oob c1 c1b hmk HB1 HB2 HB0 HS0
    generalize w0.heap.size = S0 at *
    go_wp2
    go_loopw [18] (fun vi wr => ∃ (k : Nat) (O W : List Int), k ≤ m ∧ vi = .int .i64 k ∧ Hid (firstK ps roll os k = (O, W)) ∧ Hid (FirstB n roll O W k) ∧
        wr.ownsRow w.heap.size 2 1 (.slice (some ⟨(S0 + 1), 0, none⟩) n n) n (ints O) ∧ wr.ownsRow w.heap.size 2 1 (.slice (some ⟨S0, 0, none⟩) 9 9) 9 (ints W) ∧
        wr.cell? ⟨w.heap.size, 0, none⟩ = some (.slice (some ⟨b, o, none⟩) n c) ∧ wr.cell? ⟨w.heap.size + 1, 0, none⟩ = some (.int .i64 roll) ∧ S0 + 2 ≤ wr.heap.size ∧ Below w.heap.size w wr) (fun vi _ => m - (intOf vi).toNat)
    case atStart => exact ⟨0, _, _, Nat.zero_le _, rfl, (show Hid _ from rfl), (show Hid _ from by rw [HL.out]; exact firstB0 (by omega)), by rw [HL.out]; exact HO1.out, HO2.out, P1.out.cell 0, P2.out.cell 0, hsz, HBB.out⟩
    case round =>
      obtain ⟨k, O, W, hk, rfl, HK, HW, hown1, hown2, q1, q2, hsz', hb⟩ := hrel
      by_cases hlt : k < m
      · obtain ⟨b', o', iv, hA', hbl', hiv, hc3⟩ := HB.out.int hlt
        have hib := HI.out k iv hiv
        obtain ⟨i, rfl⟩ := Int.eq_ofNat_of_zero_le hib.1
        obtain ⟨b1, o1, x, y, hA, hbl, hx, hc1, hc2⟩ := H.out.pair (show i < n by omega)
        injection hA with hA
        injection hA with hA1 hA2
        subst hA1
        subst hA2
        subst hA'
        have hc1 := (hb.cell (p := ⟨b, o + i * 2, none⟩) hbl).trans hc1
        have hc3 := (hb.cell (p := ⟨b', o' + k, none⟩) hbl').trans hc3
        have hxy := HO.out.blk i _ hx
        have x0 : 1 ≤ x ∧ x ≤ roll := hxy.1
        obtain ⟨r, hr, hrk, hfit, hno⟩ := HW.out.room (by omega) x0.2
        have HN : Hid (firstK ps roll os (k + 1) = (O.set i (r : Int), W.set r (W.getD r 0 + x))) := Lib.hid (by have := firstK_step HK.out hiv hx hr; simpa using this)
        have HV : Hid (FirstB n roll (O.set i (r : Int)) (W.set r (W.getD r 0 + x)) (k + 1)) := Lib.hid (HW.out.step (i := i) (by omega) hrk hfit (by omega))
        have hA2 : Below wr.heap.size wr (wr.alloc (.cells #[.int .i64 i] 3)) := (by go_grown)
        have BX := (Box.new wr #[.int .i64 i] 3).cell 0
        have z1 := own_below hown1 hA2
        have z2 := own_below hown2 hA2
        have l1 := (hA2.cell (p := ⟨b, o + i * 2, none⟩) (World.block_lt_of_cell? _ _ hc1)).trans hc1
        have l2 := (hA2.cell (p := ⟨w.heap.size, 0, none⟩) (World.block_lt_of_cell? _ _ q1)).trans q1
        have l3 := (hA2.cell (p := ⟨w.heap.size + 1, 0, none⟩) (World.block_lt_of_cell? _ _ q2)).trans q2
        have hroom : idxF (fun v => decide (v + x ≤ roll)) W = (r : Int) := hr
        have hidx := indexFunc_i64 76 #[.pointer (some ⟨w.heap.size, 0, none⟩), .pointer (some ⟨wr.heap.size, 0, none⟩), .pointer (some ⟨w.heap.size + 1, 0, none⟩)] HEG.out (fun v => decide (v + x ≤ roll)) _ _ _ W _ (Rd.of_own z2)
          (first_pred roll b o n c i W x w.heap.size wr.heap.size (w.heap.size + 1) _ (fun j v hv => by have := HW.out.wb j v hv; omega) (by omega) (by omega) l1 l2 BX l3)
        rw [hroom] at hidx
        have HIX := Lib.hid hidx
        have hb3 := hb.trans (hA2.mono hb.size)
        have wq := HW.out.wb r _ (getD_of (by rw [HW.out.wl]; omega))
        have hk0 : (0 : Int) ≤ (k : Int) := by omega
        have hk1 : (k : Int) < (m : Int) := by omega
        have hi0 : (0 : Int) ≤ (i : Int) := by omega
        have hi1 : (i : Int) < (n : Int) := by omega
        have hr8 : r ≤ 8 := by omega
        have Z1 := Lib.hid z1
        have Z2 := Lib.hid z2
        have L1 := Lib.hid l1
        have L2 := Lib.hid l2
        have L3 := Lib.hid l3
        have LB := Lib.hid BX
        have HB3 := Lib.hid hb3
        have hss : S0 + 2 ≤ (wr.alloc (.cells #[.int .i64 i] 3)).heap.size := by simp; omega
        clear hown1 hown2 hb hx hxy hr hno hiv hib BX hA2 z1 z2 l1 l2 l3 hidx hroom hb3 hc1 hc2 q1 q2 HK
        go_wp2_with fail
        refine (HIX.out).mono ?_
        rintro e w4 ⟨rfl, hb4⟩
        have z1 := own_below Z1.out hb4
        have z2 := own_below Z2.out hb4
        have d1 : w4.cell? ⟨b, o + i * 2, none⟩ = some (.int .i64 x) := (hb4.cell (p := ⟨b, o + i * 2, none⟩) (World.block_lt_of_cell? _ _ L1.out)).trans L1.out
        have d2 : w4.cell? ⟨w.heap.size, 0, none⟩ = some (.slice (some ⟨b, o, none⟩) n c) := (hb4.cell (p := ⟨w.heap.size, 0, none⟩) (World.block_lt_of_cell? _ _ L2.out)).trans L2.out
        have d3 : w4.cell? ⟨w.heap.size + 1, 0, none⟩ = some (.int .i64 roll) := (hb4.cell (p := ⟨w.heap.size + 1, 0, none⟩) (World.block_lt_of_cell? _ _ L3.out)).trans L3.out
        have d4 : w4.cell? ⟨wr.heap.size, 0, none⟩ = some (.int .i64 i) := (hb4.cell (p := ⟨wr.heap.size, 0, none⟩) (World.block_lt_of_cell? _ _ LB.out)).trans LB.out
        have hb5 := HB3.out.trans (hb4.mono HB3.out.size)
        have hs4 := hb4.size
        have cw := own_int z2 (i := r) (by omega) HW.out.wl
        have f4 := z2.frozenAt
        generalize W.getD r 0 = a at *
        have S2 := (own_iset z2 r (a + x)).1.drew
        have G2 := grown_drew (own_iset z2 r (a + x)).2
        have S1 := own_other z1 G2 (by omega)
        have T2 := cell_other d2 G2 (by omega)
        have T3 := cell_other d3 G2 (by omega)
        have T4 := cell_other d4 G2 (by omega)
        have SB : Below w.heap.size w (w4.setCell ⟨S0, r, none⟩ (.int .i64 (a + x))).drew := (hb5.setCell (show w.heap.size ≤ S0 by omega) _).drew
        have hs5 : S0 + 2 ≤ (w4.setCell ⟨S0, r, none⟩ (.int .i64 (a + x))).drew.heap.size := by simp; omega
        have V1 := Lib.hid S1
        have V2 := Lib.hid S2
        have U2 := Lib.hid T2
        have U3 := Lib.hid T3
        have U4 := Lib.hid T4
        have VB := Lib.hid SB
        clear z1 z2 hb5 hb4 S1 S2 T2 T3 T4 SB G2 Z1 Z2 L1 L2 L3 LB HB3 HIX hss
        go_wp2
        go_region
        generalize (w4.setCell ⟨S0, r, none⟩ (.int .i64 (a + x))).drew = w7 at *
        have e4 := U4.out
        have f7 := V1.out.frozenAt
        have c7 := own_int V1.out (i := i) (by omega) HW.out.ol
        obtain ⟨u1, G1⟩ := own_iset V1.out i (r : Int)
        have X1 := Lib.hid u1
        have X2 := Lib.hid (own_other V2.out G1 (by omega))
        have X3 := Lib.hid (cell_other U2.out G1 (by omega))
        have X4 := Lib.hid (cell_other U3.out G1 (by omega))
        have XB : Hid (Below w.heap.size w (w7.setCell ⟨(S0 + 1), i, none⟩ (.int .i64 r))) := VB.out.setCell (show w.heap.size ≤ (S0 + 1) by omega) _
        clear u1 G1 V1 V2 U2 U3 U4 VB d1 d2 d3 d4 cw f4
        go_wp2
        go_roundw
        case rel => exact ⟨k + 1, _, _, by omega, by go_num, HN, HV, X1.out, X2.out, X3.out, X4.out, by simpa using hs5, XB.out⟩
        case measure => simp [intOf]; omega
      · have : k = m := by omega
        subst this
        go_wp2
        go_ret
        refine ⟨_, rfl, ?_, hb⟩
        rw [HK.out]; exact hown1
end Go.Proofs.Ythdbaflihgkomaa
