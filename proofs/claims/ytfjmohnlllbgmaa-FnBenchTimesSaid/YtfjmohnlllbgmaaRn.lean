/- The benches' times: run of the program, l14Times of the reference. Printed by mkrn.py. -/
import Derived.Test.YtfjmohnlllbgmaaTi
import Derived.Test.YtfjmohnlllbgmaaWd
import Derived.Test.YtfjmohnlllbgmaaBd
namespace Go.Proofs.Ytfjmohnlllbgmaa
open Go.RowKit Go.Shelf

set_option maxRecDepth 100000 in
set_option maxHeartbeats 8000000 in
theorem run_any (A : Option Addr) (n c : Nat) (ps : List (Int × Int)) (B : Option Addr) (m d : Nat) (os : List Int) (w : World) (h : Rd w 2 A n c (pr ps)) (hB : Rd w 1 B m d (ints os)) (ho : JOk ps) (hm : m ≤ 7) (hos : ∀ (j : Nat) (i : Int), os[j]? = some i → 0 ≤ i ∧ i < n) :
    Calls Try.prog 77 #[.slice A n c, .slice B m d] w fun e w' => ∃ g1 g2, e = .returned (.tuple #[.slice (some ⟨g1, 0, none⟩) n n, .slice (some ⟨g2, 0, none⟩) n n]) ∧ g1 ≠ g2 ∧
      w'.ownsRow w.heap.size 2 1 (.slice (some ⟨g1, 0, none⟩) n n) n (ints (timK ps os m).F) ∧ w'.ownsRow w.heap.size 2 1 (.slice (some ⟨g2, 0, none⟩) n n) n (ints (timK ps os m).S) ∧ Below w.heap.size w w' := by
  have hl := h.plen
  have hn7 := ho.len
  have hn7' : n ≤ 7 := by omega
  have h1 := h.cap
  have h2 := h.max
  have h3 := hB.cap
  have h4 := hB.max
  have hmk := mkn n (by omega)
  have H := Lib.hid h
  have HB := Lib.hid hB
  have HL := Lib.hid hl
  have HO := Lib.hid ho
  have HI := Lib.hid hos
  clear h hB hl ho hos hn7
  go_enter Try.func77, Try.ntmps77
  go_wp2
  go_region
  · obtain ⟨oo1, oo2, oob⟩ := own2 n (by omega) w w.heap.size (Nat.le_refl _)
    have oo1 := own_drew oo1
    have oo2 := own_drew oo2
    have oob := oob.drew
    generalize ((w.alloc (.cells (cn n) 2)).alloc (.cells (cn n) 2)).drew = w2 at *
    have HO1 := Lib.hid oo1
    have HO2 := Lib.hid oo2
    have HBB := Lib.hid oob
    clear oo1 oo2 oob hmk
    go_wp2_with fail
    go_loopw [8, 9, 20] (fun va vb vi wr => ∃ (k : Nat) (t : Tim), k ≤ m ∧ vi = .int .i64 k ∧ va = .int .i64 t.a ∧ vb = .int .i64 t.b ∧ Hid (timK ps os k = t) ∧ Hid (TimB n k t) ∧
        wr.ownsRow w.heap.size 2 1 (.slice (some ⟨w.heap.size, 0, none⟩) n n) n (ints t.F) ∧ wr.ownsRow w.heap.size 2 1 (.slice (some ⟨(w.heap.size + 1), 0, none⟩) n n) n (ints t.S) ∧ Below w.heap.size w wr) (fun va vb vi _ => m - (intOf vi).toNat)
    case atStart => exact ⟨0, _, Nat.zero_le _, rfl, rfl, rfl, (show Hid _ from rfl), Lib.hid (by have e := HL.out; simp only [timK, e]; exact timB0 n), by have e := HL.out; simp only [timK, e]; exact HO1.out, by have e := HL.out; simp only [timK, e]; exact HO2.out, HBB.out⟩
    case round =>
      obtain ⟨k, t, hk, rfl, rfl, rfl, HK, HT, hown1, hown2, hb⟩ := hrel
      by_cases hlt : k < m
      · obtain ⟨b', o', iv, hA', hbl', hiv, hc3⟩ := HB.out.int hlt
        have hib := HI.out k iv hiv
        obtain ⟨i, rfl⟩ := Int.eq_ofNat_of_zero_le hib.1
        obtain ⟨b, o, x, y, hA, hbl, hx, hc1, hc2⟩ := H.out.pair (show i < n by omega)
        subst hA
        subst hA'
        have c1 := (hb.cell (p := ⟨b, o + i * 2, none⟩) hbl).trans hc1
        have c2 := (hb.cell (p := ⟨b, o + i * 2 + 1, none⟩) hbl).trans hc2
        have c3 := (hb.cell (p := ⟨b', o' + k, none⟩) hbl').trans hc3
        obtain ⟨⟨x0, x1⟩, ⟨y0, y1⟩⟩ := HO.out.job i _ hx
        simp only at x0 x1 y0 y1
        have HN := Lib.hid (tim_step HK.out hiv hx)
        have HV := Lib.hid (HT.out.step (i := i) (p := (x, y)) ⟨x0, x1⟩ ⟨y0, y1⟩)
        have ta0 := HT.out.a0
        have ta1 := HT.out.a1
        have tb0 := HT.out.b0
        have tb1 := HT.out.b1
        have cf := own_int hown1 (i := i) (by omega) HT.out.fl
        have cs := own_int hown2 (i := i) (by omega) HT.out.sl
        have f1 := hown1.frozenAt
        have f2 := hown2.frozenAt
        obtain ⟨u1, G1⟩ := own_iset hown1 i (t.a + x)
        have v1 := own_other hown2 G1 (by omega)
        obtain ⟨u2, G2⟩ := own_iset v1 i (max (t.a + x) t.b + y)
        have q1 := own_other u1 G2 (by omega)
        have bb : Below w.heap.size w ((wr.setCell ⟨w.heap.size, i, none⟩ (.int .i64 (t.a + x))).setCell ⟨(w.heap.size + 1), i, none⟩ (.int .i64 (max (t.a + x) t.b + y))) := (hb.setCell (show w.heap.size ≤ w.heap.size by omega) _).setCell (show w.heap.size ≤ (w.heap.size + 1) by omega) _
        have P1 := Lib.hid q1
        have P2 := Lib.hid u2
        have PB := Lib.hid bb
        have hk0 : (0 : Int) ≤ (k : Int) := by omega
        have hk1 : (k : Int) < (m : Int) := by omega
        have hkd : decide ((k : Int) < (m : Int)) = true := decide_eq_true hk1
        have hi0 : (0 : Int) ≤ (i : Int) := by omega
        have hi1 : (i : Int) < (n : Int) := by omega
        clear hown1 hown2 hb hx hiv hib hc1 hc2 hc3 u1 G1 v1 u2 G2 q1 bb HK
        go_wp2
        go_roundw
        case rel => exact ⟨k + 1, _, by omega, by go_num, by simp [Tim.step], by simp [Tim.step], HN, HV, P1.out, P2.out, PB.out⟩
        case measure => simp [intOf]; omega
      · have : k = m := by omega
        subst this
        go_wp2
        go_ret2
        refine ⟨_, _, rfl, by omega, ?_, ?_, hb⟩
        · rw [HK.out]; exact hown1
        · rw [HK.out]; exact hown2
  · obtain ⟨oo2, oo1, oob⟩ := own2 n (by omega) w w.heap.size (Nat.le_refl _)
    have oo1 := own_drew oo1
    have oo2 := own_drew oo2
    have oob := oob.drew
    generalize ((w.alloc (.cells (cn n) 2)).alloc (.cells (cn n) 2)).drew = w2 at *
    have HO1 := Lib.hid oo1
    have HO2 := Lib.hid oo2
    have HBB := Lib.hid oob
    clear oo1 oo2 oob hmk
    go_wp2_with fail
    go_loopw [8, 9, 20] (fun va vb vi wr => ∃ (k : Nat) (t : Tim), k ≤ m ∧ vi = .int .i64 k ∧ va = .int .i64 t.a ∧ vb = .int .i64 t.b ∧ Hid (timK ps os k = t) ∧ Hid (TimB n k t) ∧
        wr.ownsRow w.heap.size 2 1 (.slice (some ⟨(w.heap.size + 1), 0, none⟩) n n) n (ints t.F) ∧ wr.ownsRow w.heap.size 2 1 (.slice (some ⟨w.heap.size, 0, none⟩) n n) n (ints t.S) ∧ Below w.heap.size w wr) (fun va vb vi _ => m - (intOf vi).toNat)
    case atStart => exact ⟨0, _, Nat.zero_le _, rfl, rfl, rfl, (show Hid _ from rfl), Lib.hid (by have e := HL.out; simp only [timK, e]; exact timB0 n), by have e := HL.out; simp only [timK, e]; exact HO1.out, by have e := HL.out; simp only [timK, e]; exact HO2.out, HBB.out⟩
    case round =>
      obtain ⟨k, t, hk, rfl, rfl, rfl, HK, HT, hown1, hown2, hb⟩ := hrel
      by_cases hlt : k < m
      · obtain ⟨b', o', iv, hA', hbl', hiv, hc3⟩ := HB.out.int hlt
        have hib := HI.out k iv hiv
        obtain ⟨i, rfl⟩ := Int.eq_ofNat_of_zero_le hib.1
        obtain ⟨b, o, x, y, hA, hbl, hx, hc1, hc2⟩ := H.out.pair (show i < n by omega)
        subst hA
        subst hA'
        have c1 := (hb.cell (p := ⟨b, o + i * 2, none⟩) hbl).trans hc1
        have c2 := (hb.cell (p := ⟨b, o + i * 2 + 1, none⟩) hbl).trans hc2
        have c3 := (hb.cell (p := ⟨b', o' + k, none⟩) hbl').trans hc3
        obtain ⟨⟨x0, x1⟩, ⟨y0, y1⟩⟩ := HO.out.job i _ hx
        simp only at x0 x1 y0 y1
        have HN := Lib.hid (tim_step HK.out hiv hx)
        have HV := Lib.hid (HT.out.step (i := i) (p := (x, y)) ⟨x0, x1⟩ ⟨y0, y1⟩)
        have ta0 := HT.out.a0
        have ta1 := HT.out.a1
        have tb0 := HT.out.b0
        have tb1 := HT.out.b1
        have cf := own_int hown1 (i := i) (by omega) HT.out.fl
        have cs := own_int hown2 (i := i) (by omega) HT.out.sl
        have f1 := hown1.frozenAt
        have f2 := hown2.frozenAt
        obtain ⟨u1, G1⟩ := own_iset hown1 i (t.a + x)
        have v1 := own_other hown2 G1 (by omega)
        obtain ⟨u2, G2⟩ := own_iset v1 i (max (t.a + x) t.b + y)
        have q1 := own_other u1 G2 (by omega)
        have bb : Below w.heap.size w ((wr.setCell ⟨(w.heap.size + 1), i, none⟩ (.int .i64 (t.a + x))).setCell ⟨w.heap.size, i, none⟩ (.int .i64 (max (t.a + x) t.b + y))) := (hb.setCell (show w.heap.size ≤ (w.heap.size + 1) by omega) _).setCell (show w.heap.size ≤ w.heap.size by omega) _
        have P1 := Lib.hid q1
        have P2 := Lib.hid u2
        have PB := Lib.hid bb
        have hk0 : (0 : Int) ≤ (k : Int) := by omega
        have hk1 : (k : Int) < (m : Int) := by omega
        have hkd : decide ((k : Int) < (m : Int)) = true := decide_eq_true hk1
        have hi0 : (0 : Int) ≤ (i : Int) := by omega
        have hi1 : (i : Int) < (n : Int) := by omega
        clear hown1 hown2 hb hx hiv hib hc1 hc2 hc3 u1 G1 v1 u2 G2 q1 bb HK
        go_wp2
        go_roundw
        case rel => exact ⟨k + 1, _, by omega, by go_num, by simp [Tim.step], by simp [Tim.step], HN, HV, P1.out, P2.out, PB.out⟩
        case measure => simp [intOf]; omega
      · have : k = m := by omega
        subst this
        go_wp2
        go_ret2
        refine ⟨_, _, rfl, by omega, ?_, ?_, hb⟩
        · rw [HK.out]; exact hown1
        · rw [HK.out]; exact hown2

set_option maxRecDepth 100000 in
set_option maxHeartbeats 8000000 in
theorem l14Times_any (A : Option Addr) (n c : Nat) (ps : List (Int × Int)) (B : Option Addr) (m d : Nat) (os : List Int) (w : World) (h : Rd w 2 A n c (pr ps)) (hB : Rd w 1 B m d (ints os)) (ho : JOk ps) (hm : m ≤ 7) (hos : ∀ (j : Nat) (i : Int), os[j]? = some i → 0 ≤ i ∧ i < n) :
    Calls Try.prog 76 #[.slice A n c, .slice B m d] w fun e w' => ∃ g1 g2, e = .returned (.tuple #[.slice (some ⟨g1, 0, none⟩) n n, .slice (some ⟨g2, 0, none⟩) n n, .int .i64 (timK ps os m).b]) ∧ g1 ≠ g2 ∧
      w'.ownsRow w.heap.size 2 1 (.slice (some ⟨g1, 0, none⟩) n n) n (ints (timK ps os m).F) ∧ w'.ownsRow w.heap.size 2 1 (.slice (some ⟨g2, 0, none⟩) n n) n (ints (timK ps os m).B) ∧ Below w.heap.size w w' := by
  have hl := h.plen
  have hn7 := ho.len
  have hn7' : n ≤ 7 := by omega
  have h1 := h.cap
  have h2 := h.max
  have h3 := hB.cap
  have h4 := hB.max
  have hmk := mkn n (by omega)
  have H := Lib.hid h
  have HB := Lib.hid hB
  have HL := Lib.hid hl
  have HO := Lib.hid ho
  have HI := Lib.hid hos
  clear h hB hl ho hos hn7
  go_enter Try.func76, Try.ntmps76
  go_wp2
  · obtain ⟨oo1, oo2, oob⟩ := own2 n (by omega) w w.heap.size (Nat.le_refl _)
    generalize (w.alloc (.cells (cn n) 2)).alloc (.cells (cn n) 2) = w2 at *
    have HO1 := Lib.hid oo1
    have HO2 := Lib.hid oo2
    have HBB := Lib.hid oob
    clear oo1 oo2 oob hmk
    go_wp2_with fail
    go_loopw [9, 10, 11] (fun va vb vi wr => ∃ (k : Nat) (t : Tim), k ≤ m ∧ vi = .int .i64 k ∧ va = .int .i64 t.a ∧ vb = .int .i64 t.b ∧ Hid (timK ps os k = t) ∧ Hid (TimB n k t) ∧
        wr.ownsRow w.heap.size 2 1 (.slice (some ⟨w.heap.size, 0, none⟩) n n) n (ints t.F) ∧ wr.ownsRow w.heap.size 2 1 (.slice (some ⟨(w.heap.size + 1), 0, none⟩) n n) n (ints t.B) ∧ Below w.heap.size w wr) (fun va vb vi _ => m - (intOf vi).toNat)
    case atStart => exact ⟨0, _, Nat.zero_le _, rfl, rfl, rfl, (show Hid _ from rfl), Lib.hid (by have e := HL.out; simp only [timK, e]; exact timB0 n), by have e := HL.out; simp only [timK, e]; exact HO1.out, by have e := HL.out; simp only [timK, e]; exact HO2.out, HBB.out⟩
    case round =>
      obtain ⟨k, t, hk, rfl, rfl, rfl, HK, HT, hown1, hown2, hb⟩ := hrel
      by_cases hlt : k < m
      · obtain ⟨b', o', iv, hA', hbl', hiv, hc3⟩ := HB.out.int hlt
        have hib := HI.out k iv hiv
        obtain ⟨i, rfl⟩ := Int.eq_ofNat_of_zero_le hib.1
        obtain ⟨b, o, x, y, hA, hbl, hx, hc1, hc2⟩ := H.out.pair (show i < n by omega)
        subst hA
        subst hA'
        have c1 := (hb.cell (p := ⟨b, o + i * 2, none⟩) hbl).trans hc1
        have c2 := (hb.cell (p := ⟨b, o + i * 2 + 1, none⟩) hbl).trans hc2
        have c3 := (hb.cell (p := ⟨b', o' + k, none⟩) hbl').trans hc3
        obtain ⟨⟨x0, x1⟩, ⟨y0, y1⟩⟩ := HO.out.job i _ hx
        simp only at x0 x1 y0 y1
        have HN := Lib.hid (tim_step HK.out hiv hx)
        have HV := Lib.hid (HT.out.step (i := i) (p := (x, y)) ⟨x0, x1⟩ ⟨y0, y1⟩)
        have ta0 := HT.out.a0
        have ta1 := HT.out.a1
        have tb0 := HT.out.b0
        have tb1 := HT.out.b1
        have cf := own_int hown1 (i := i) (by omega) HT.out.fl
        have cs := own_int hown2 (i := i) (by omega) HT.out.bl
        have f1 := hown1.frozenAt
        have f2 := hown2.frozenAt
        obtain ⟨u1, G1⟩ := own_iset hown1 i (t.a + x)
        have v1 := own_other hown2 G1 (by omega)
        obtain ⟨u2, G2⟩ := own_iset v1 i (max (t.a + x) t.b)
        have q1 := own_other u1 G2 (by omega)
        have bb : Below w.heap.size w ((wr.setCell ⟨w.heap.size, i, none⟩ (.int .i64 (t.a + x))).setCell ⟨(w.heap.size + 1), i, none⟩ (.int .i64 (max (t.a + x) t.b))) := (hb.setCell (show w.heap.size ≤ w.heap.size by omega) _).setCell (show w.heap.size ≤ (w.heap.size + 1) by omega) _
        have P1 := Lib.hid q1
        have P2 := Lib.hid u2
        have PB := Lib.hid bb
        have d2 : (wr.setCell ⟨w.heap.size, i, none⟩ (.int .i64 (t.a + x))).cell? ⟨b, o + i * 2 + 1, none⟩ = some (.int .i64 y) := cell_other c2 G1 (by omega)
        have d4 : ((wr.setCell ⟨w.heap.size, i, none⟩ (.int .i64 (t.a + x))).setCell ⟨(w.heap.size + 1), i, none⟩ (.int .i64 (max (t.a + x) t.b))).cell? ⟨b, o + i * 2 + 1, none⟩ = some (.int .i64 y) := cell_other d2 G2 (by omega)
        have hmx : max t.b (t.a + x) = max (t.a + x) t.b := by omega
        have HMX := Lib.hid hmx
        clear hmx d2
        have hk0 : (0 : Int) ≤ (k : Int) := by omega
        have hk1 : (k : Int) < (m : Int) := by omega
        have hkd : decide ((k : Int) < (m : Int)) = true := decide_eq_true hk1
        have hi0 : (0 : Int) ≤ (i : Int) := by omega
        have hi1 : (i : Int) < (n : Int) := by omega
        clear hown1 hown2 hb hx hiv hib hc1 hc2 hc3 u1 G1 v1 u2 G2 q1 bb HK
        go_wp2_with fail
        refine (l00MaxJ_any _ _ _).mono ?_
        rw [HMX.out]
        rintro e w' ⟨rfl, rfl⟩
        go_wp2
        go_roundw
        case rel => exact ⟨k + 1, _, by omega, by go_num, by simp [Tim.step], by simp [Tim.step], HN, HV, P1.out, P2.out, PB.out⟩
        case measure => simp [intOf]; omega
      · have : k = m := by omega
        subst this
        go_wp2
        go_ret3
        refine ⟨w.heap.size, w.heap.size + 1, by rw [HK.out]; rfl, by omega, ?_, ?_, hb⟩
        · rw [HK.out]; exact hown1
        · rw [HK.out]; exact hown2
end Go.Proofs.Ytfjmohnlllbgmaa
