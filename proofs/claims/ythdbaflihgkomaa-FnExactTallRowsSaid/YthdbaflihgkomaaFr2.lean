/- First rows with room, of the reference (l11First). -/
import Derived.Test.YthdbaflihgkomaaFr
namespace Go.Proofs.Ythdbaflihgkomaa
open Go.RowKit Go.Shelf

set_option maxRecDepth 100000 in
set_option maxHeartbeats 8000000 in
theorem l11First_any (A : Option Addr) (n c : Nat) (ps : List (Int × Int)) (roll : Int) (B : Option Addr) (m d : Nat) (os : List Int) (w : World) (h : Rd w 2 A n c (pr ps)) (hB : Rd w 1 B m d (ints os)) (ho : BOk ps roll) (hm : m ≤ 9) (hos : ∀ (j : Nat) (i : Int), os[j]? = some i → 0 ≤ i ∧ i < n) :
    Calls Try.prog 55 #[.slice A n c, .int .i64 roll, .slice B m d] w fun e w' => ∃ g, e = .returned (.slice (some ⟨g, 0, none⟩) n n) ∧
      w'.ownsRow w.heap.size 2 1 (.slice (some ⟨g, 0, none⟩) n n) n (ints (firstK ps roll os m).1) ∧ Below w.heap.size w w' := by
  obtain ⟨i0, hi, hz0, hz1, hz2⟩ := info_parts info_i64r
  have hl := h.plen
  have hn9 := ho.len
  have hn9' : n ≤ 9 := by omega
  have r0 := ho.r0
  have r1 := ho.r1
  have h1 := h.cap
  have h2 := h.max
  have h3 := hB.cap
  have h4 := hB.max
  have H := Lib.hid h
  have HB := Lib.hid hB
  have HL := Lib.hid hl
  have HO := Lib.hid ho
  have HI := Lib.hid hos
  clear h hB hl ho hos hn9
  go_enter Try.func55, Try.ntmps55
  go_wp2_with (refine wpList_make_full _ rfl (.tmp 13) (.tmp 13) _ rfl w.heap.size 2 i0 (.int .i64 0) 1 Try.underlying35 hi hz0 hz1 .i64 .i64 n n n rfl rfl rfl rfl (by rw [hz2]; omega) (by unfold maxLen; omega) (Nat.le_refl _) ?_; intro w1 ho1 hg1)
  have hb1 : Below w.heap.size w w1 := (Below.refl _ _).grown hg1 (Nat.le_refl _) (by simp)
  have e1 : (madeCells (Value.int .i64 0).cells (n * 1)).toList = ints (List.replicate n 0) := by simp [ints, toList_madeCells_one, Value.cells]
  rw [e1] at ho1
  have hlt1 : w.heap.size < w1.heap.size := by
    have := hg1.size
    rcases ho1.2 with ⟨hh, _⟩ | ⟨g, cap, cur, hh, _, hgg, _⟩
    · cases hh
    · injection hh with hh _ _
      injection hh with hh
      injection hh with hh
      rw [hh]
      exact (Array.getElem?_eq_some_iff.1 hgg).1
  have hA1 : Below w1.heap.size w1 (w1.alloc (.cells c9 2)) := (by go_grown)
  have ho1' := own_below ho1 hA1
  have ho2 := own9 w1 w.heap.size (Nat.le_of_lt hlt1)
  have hb2 : Below w.heap.size w (w1.alloc (.cells c9 2)) := hb1.trans (hA1.mono hb1.size)
  have HO1 := Lib.hid ho1'
  have HO2 := Lib.hid ho2
  have HB2 := Lib.hid hb2
  clear ho1 ho1' ho2 hb1 hb2 hA1 hg1 e1
  go_wp2_with fail
  go_loopw [9] (fun vi wr => ∃ (k : Nat) (O W : List Int), k ≤ m ∧ vi = .int .i64 k ∧ Hid (firstK ps roll os k = (O, W)) ∧ Hid (FirstB n roll O W k) ∧
      wr.ownsRow w.heap.size 2 1 (.slice (some ⟨w.heap.size, 0, none⟩) n n) n (ints O) ∧ wr.ownsRow w.heap.size 2 1 (.slice (some ⟨w1.heap.size, 0, none⟩) 9 9) 9 (ints W) ∧ Below w.heap.size w wr) (fun vi _ => m - (intOf vi).toNat)
  case atStart => exact ⟨0, _, _, Nat.zero_le _, rfl, (show Hid _ from rfl), (show Hid _ from by rw [HL.out]; exact firstB0 (by omega)), by rw [HL.out]; exact HO1.out, HO2.out, HB2.out⟩
  case round =>
    obtain ⟨k, O, W, hk, rfl, HK, HW, hown1, hown2, hb⟩ := hrel
    by_cases hlt : k < m
    · obtain ⟨b', o', iv, hA', hbl', hiv, hc3⟩ := HB.out.int hlt
      have hib := HI.out k iv hiv
      obtain ⟨i, rfl⟩ := Int.eq_ofNat_of_zero_le hib.1
      obtain ⟨b, o, x, y, hA, hbl, hx, hc1, hc2⟩ := H.out.pair (show i < n by omega)
      subst hA
      subst hA'
      have hc1 := (hb.cell (p := ⟨b, o + i * 2, none⟩) hbl).trans hc1
      have hc2 := (hb.cell (p := ⟨b, o + i * 2 + 1, none⟩) hbl).trans hc2
      have hc3 := (hb.cell (p := ⟨b', o' + k, none⟩) hbl').trans hc3
      have hxy := HO.out.blk i _ hx
      have x0 : 1 ≤ x ∧ x ≤ roll := hxy.1
      obtain ⟨r, hr, hrk, hfit, hno⟩ := HW.out.room (by omega) x0.2
      have HN : Hid (firstK ps roll os (k + 1) = (O.set i (r : Int), W.set r (W.getD r 0 + x))) := Lib.hid (by have := firstK_step HK.out hiv hx hr; simpa using this)
      have HV : Hid (FirstB n roll (O.set i (r : Int)) (W.set r (W.getD r 0 + x)) (k + 1)) := Lib.hid (HW.out.step (i := i) (by omega) hrk hfit (by omega))
      have HNO := Lib.hid hno
      have hss := hb.size
      have hA2 : Below wr.heap.size wr (wr.alloc (.cells #[.int .i64 x, .int .i64 y] 54)) := (by go_grown)
      have BX := Box.new wr #[.int .i64 x, .int .i64 y] 54
      have HO1 := Lib.hid (own_below hown1 hA2)
      have HO2 := Lib.hid (own_below hown2 hA2)
      have HBX := Lib.hid BX
      have HB3 := Lib.hid (hb.trans (hA2.mono hb.size))
      have hg2 : w1.heap.size < wr.heap.size := by
        obtain ⟨g, e, _, hh⟩ := own_at hown2 (by omega)
        injection e with e
        injection e with e
        omega
      have d3 : (wr.alloc (.cells #[.int .i64 x, .int .i64 y] 54)).cell? ⟨b', o' + k, none⟩ = some (.int .i64 k) ∨ True := .inr trivial
      have HC3 := Lib.hid ((hA2.cell (p := ⟨b', o' + k, none⟩) (World.block_lt_of_cell? _ _ hc3)).trans hc3)
      have hk0 : (0 : Int) ≤ (k : Int) := by omega
      have hk1 : (k : Int) < (m : Int) := by omega
      have hkd : decide ((k : Int) < (m : Int)) = true := decide_eq_true hk1
      have hi0 : (0 : Int) ≤ (i : Int) := by omega
      have hi1 : (i : Int) < (n : Int) := by omega
      have hr8 : r ≤ 8 := by omega
      clear hown1 hown2 hb hx hxy hr hno hiv hib BX hA2 d3 HK
      go_wp2
      generalize hw2 : wr.alloc (.cells #[.int .i64 x, .int .i64 y] 54) = w2 at *
      generalize hgb : wr.heap.size = gb at *
      go_loopw [11] (fun vi wq => ∃ j : Nat, j ≤ r ∧ vi = .int .i64 j ∧ Below w2.heap.size w2 wq) (fun vi _ => r - (intOf vi).toNat)
      case atStart => exact ⟨0, Nat.zero_le _, rfl, Below.refl _ _⟩
      case round =>
        obtain ⟨j, hj, rfl, hbq⟩ := hrel
        have cx : wr.cell? ⟨gb, 0, none⟩ = some (.int .i64 x) := (HBX.out.below hbq).cell 0
        have q2 := own_below HO2.out hbq
        have cw := own_int q2 (i := j) (by omega) HW.out.wl
        have hga := getD_of (l := W) (j := j) (by rw [HW.out.wl]; omega)
        have ha := HW.out.wb j _ hga
        have hj0 : (0 : Int) ≤ (j : Int) := by omega
        have hj9 : (j : Int) < 9 := by omega
        by_cases hjr : j < r
        · have hgt := HNO.out j _ hjr hga
          generalize W.getD j 0 = a at *
          have hd : decide (roll < a + x) = true := decide_eq_true hgt
          have HQ := Lib.hid hbq
          clear hbq hga q2 hgt
          go_wp2
          go_quiet (fail)
          go_wp2
          go_roundw
          case rel => exact ⟨j + 1, by omega, by go_num, below_drewN HQ.out _⟩
          case measure => simp [intOf]; omega
        · have hje : j = r := by omega
          subst hje
          have hd : decide (roll < W.getD j 0 + x) = false := decide_eq_false (by omega)
          generalize W.getD j 0 = a at *
          have Q1 := Lib.hid (own_below HO1.out hbq)
          have Q2 := Lib.hid q2
          have Q3 := Lib.hid ((hbq.cell (p := ⟨b', o' + k, none⟩) (World.block_lt_of_cell? _ _ HC3.out)).trans HC3.out)
          have QB := Lib.hid (HB3.out.trans (hbq.mono HB3.out.size))
          clear hbq hga q2 HO1 HO2 HC3 HB3 HBX HNO
          go_wp2
          go_quiet (fail)
          have dx : (wr.drewN nq).cell? ⟨gb, 0, none⟩ = some (.int .i64 x) := cx
          have dw : (wr.drewN nq).cell? ⟨w1.heap.size, j, none⟩ = some (.int .i64 a) := cw
          have d3 : (wr.drewN nq).cell? ⟨b', o' + k, none⟩ = some (.int .i64 i) := Q3.out
          have p1 := own_drewN Q1.out nq
          have p2 := own_drewN Q2.out nq
          have pb := below_drewN QB.out nq
          generalize wr.drewN nq = w6 at *
          have f2 := p2.frozenAt
          have S2 := (own_iset p2 j (a + x)).1.drew
          have G2 := grown_drew (own_iset p2 j (a + x)).2
          have S1 := own_other p1 G2 (by omega)
          have S3 := cell_other d3 G2 (by omega)
          have SB : Below w.heap.size w (w6.setCell ⟨w1.heap.size, j, none⟩ (.int .i64 (a + x))).drew := (pb.setCell (Nat.le_of_lt hlt1) _).drew
          have T1 := Lib.hid S1
          have T2 := Lib.hid S2
          have T3 := Lib.hid S3
          have TB := Lib.hid SB
          clear p1 p2 pb d3 cx cw S1 S2 S3 SB G2 Q1 Q2 Q3 QB
          go_wp2
          go_region
          generalize (w6.setCell ⟨w1.heap.size, j, none⟩ (.int .i64 (a + x))).drew = w7 at *
          have d7 := T3.out
          have f7 := T1.out.frozenAt
          have c7 := own_int T1.out (i := i) (by omega) HW.out.ol
          obtain ⟨u1, G1⟩ := own_iset T1.out i (j : Int)
          have U1 := Lib.hid u1
          have U2 := Lib.hid (own_other T2.out G1 (by omega))
          have UB : Hid (Below w.heap.size w (w7.setCell ⟨w.heap.size, i, none⟩ (.int .i64 j))) := TB.out.setCell (Nat.le_refl _) _
          clear u1 G1 T1 T2 T3 TB dx dw f2
          go_wp2
          go_roundw
          case rel => exact ⟨k + 1, _, _, by omega, by go_num, HN, HV, U1.out, U2.out, UB.out⟩
          case measure => simp [intOf]; omega
    · have : k = m := by omega
      subst this
      go_wp2
      go_ret
      refine ⟨_, rfl, ?_, hb⟩
      rw [HK.out]; exact hown1
end Go.Proofs.Ythdbaflihgkomaa
