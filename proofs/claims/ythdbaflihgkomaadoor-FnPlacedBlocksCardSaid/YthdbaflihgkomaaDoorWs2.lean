/- WasteOfRows of the reference, and the law. Printed by mkws.py. -/
import Derived.Test.YthdbaflihgkomaaDoorWs
namespace Go.Proofs.YthdbaflihgkomaaDoor
open Go.RowKit Go.Shelf

set_option maxHeartbeats 4000000 in
theorem specWasteOfRows_any (A : Option Addr) (n c : Nat) (ps : List (Int × Int)) (roll : Int) (B : Option Addr) (m d : Nat) (rs : List Int) (w : World) (h : Rd w 2 A n c (pr ps)) (hB : Rd w 1 B m d (ints rs)) :
    Calls Tryd.prog 19 #[.slice A n c, .int .i64 roll, .slice B m d] w fun e w' => e = .returned (.tuple #[.agg #[.int .i64 (wasteN ps roll rs), .int .i64 (wasteD ps roll rs)], .int .i64 (wasteC ps roll rs)]) ∧ Below w.heap.size w w' := by
  have hl := h.plen
  have hl' := hB.ilen
  have h1 := h.cap
  have h2 := h.max
  have b0 : Below w.heap.size w (w.alloc (.cells #[.int .i64 0, .int .i64 0] 40)) := (by go_grown)
  have R0 := Box.new w #[.int .i64 0, .int .i64 0] 40
  have H0 := Lib.hid (h.below b0)
  have HB0 := Lib.hid (hB.below b0)
  have hcode := fun W h hB => l11Fine_any A n c ps roll B m d rs W h hB
  unfold wasteN wasteD
  by_cases hz : fineZ ps roll rs = 0
  rotate_left
  · have hc : wasteC ps roll rs = fineZ ps roll rs := by unfold wasteC; rw [if_neg hz]
    rw [hc, if_neg hz, if_neg hz]
    have hne : (fineZ ps roll rs == 0) = false := by simpa using hz
    have hne2 : (fineZ ps roll rs != 0) = true := by simpa using hz
    generalize fineZ ps roll rs = F at *
    have HC := Lib.hid hcode
    clear hcode h hB hl hl' hc
    go_enter Tryd.func19, Tryd.ntmps19
    go_wp2_with fail
    refine (HC.out _ H0.out HB0.out).mono ?_
    rintro e w1 ⟨rfl, hb1⟩
    have R1 := R0.below hb1
    have b1 := b0.trans (hb1.mono b0.size)
    have c10 : w1.cell? ⟨w.heap.size, 0, none⟩ = some (.int .i64 0) := R1.cell 0
    have c11 : w1.cell? ⟨w.heap.size, 1, none⟩ = some (.int .i64 0) := R1.cell 1
    have f1 := R1.froz
    clear hb1 R0 b0
    go_wp2_with fail
    refine bodyPost_ret (v := .tuple #[.agg #[.int .i64 0, .int .i64 0], .int .i64 F]) (by simp [results, Tryd.results19, go_sem, c10, c11]) rfl ⟨rfl, ?_⟩
    exact (b1.setCell (p := ⟨w.heap.size, 0, none⟩) (by simp) _).setCell (p := ⟨w.heap.size, 1, none⟩) (by simp) _
  have har := area_le hz
  by_cases hn : n = 0
  · subst hn
    have hc : wasteC ps roll rs = 3 := by unfold wasteC; rw [if_pos hz, if_pos hl]
    rw [hc, if_neg (by omega), if_neg (by omega)]
    rw [hz] at hcode
    have HC := Lib.hid hcode
    clear hcode h hB hl hl' hc hz har
    go_enter Tryd.func19, Tryd.ntmps19
    go_wp2_with fail
    refine (HC.out _ H0.out HB0.out).mono ?_
    rintro e w1 ⟨rfl, hb1⟩
    have R1 := R0.below hb1
    have b1 := b0.trans (hb1.mono b0.size)
    have c10 : w1.cell? ⟨w.heap.size, 0, none⟩ = some (.int .i64 0) := R1.cell 0
    have c11 : w1.cell? ⟨w.heap.size, 1, none⟩ = some (.int .i64 0) := R1.cell 1
    have f1 := R1.froz
    clear hb1 R0 b0
    go_wp2_with fail
    refine bodyPost_ret (v := .tuple #[.agg #[.int .i64 0, .int .i64 0], .int .i64 3]) (by simp [results, Tryd.results19, go_sem, c10, c11]) rfl ⟨rfl, ?_⟩
    exact (b1.setCell (p := ⟨w.heap.size, 0, none⟩) (by simp) _).setCell (p := ⟨w.heap.size, 1, none⟩) (by simp) _
  have hc : wasteC ps roll rs = 0 := by unfold wasteC; rw [if_pos hz, if_neg (by omega)]
  rw [hc, if_pos rfl, if_pos rfl]
  rw [hz] at hcode
  obtain ⟨ho, hlen, hr⟩ := rowsC_ok (fine_ok hz).1
  have r0 := ho.r0
  have r1 := ho.r1
  have hta := areaB n ho (by omega)
  have hn9 : n ≤ 9 := by have := ho.len; omega
  have htk : ps.take n = ps := List.take_of_length_le (by omega)
  rw [htk] at hta
  have hmn : m = n := by omega
  subst hmn
  have hpr := mulB (x := roll) (y := lenZ ps rs) (p := 5000) (q := 45000) (by omega) r1 har.2.1 har.2.2
  have hcov := fun W h hB => l11Height_any A m c ps roll B d rs W h hB ho hr
  have hnb : ((m : Int) == 0) = false := by simp; omega
  generalize lenZ ps rs = L at *
  obtain ⟨Q, hQ⟩ : ∃ Q, areaF ps = Q := ⟨_, rfl⟩
  rw [hQ] at har hta ⊢
  obtain ⟨h0, hl0, hl1⟩ := har
  generalize hP : roll * L = P at *
  have HC := Lib.hid hcode
  have HV := Lib.hid hcov
  have HP := Lib.hid hP
  have HQ := Lib.hid hQ
  have HO := Lib.hid ho
  have HK := Lib.hid htk
  have HL := Lib.hid hl
  clear hcode hcov h hB hl hl' hc hz ho hlen hr htk hQ hP
  go_enter Tryd.func19, Tryd.ntmps19
  go_wp2_with fail
  refine (HC.out _ H0.out HB0.out).mono ?_
  rintro e w1 ⟨rfl, hb1⟩
  have HR1 := Lib.hid (R0.below hb1)
  have HBW := Lib.hid (b0.trans (hb1.mono b0.size))
  have H1 := Lib.hid (H0.out.below hb1)
  have HB1 := Lib.hid (HB0.out.below hb1)
  clear hb1 R0 b0
  go_wp2_with fail
  go_loopw [9, 10] (fun sm i wr => ∃ (k : Nat) (S : Int), k ≤ m ∧ i = .int .i64 k ∧ sm = .int .i64 S ∧ Hid (areaF (ps.take k) = S) ∧ Below w1.heap.size w1 wr) (fun _ i _ => m - (intOf i).toNat)
  case atStart => exact ⟨0, 0, Nat.zero_le _, rfl, rfl, (show Hid _ from rfl), Below.refl _ _⟩
  case round =>
    obtain ⟨k, S, hk, rfl, rfl, HS, hb⟩ := hrel
    by_cases hlt : k < m
    · obtain ⟨b, o, x, y, hA, hbl, hx, hc1, hc2⟩ := (H1.out.below hb).pair hlt
      subst hA
      have hxy := HO.out.area hx
      have hS := areaB k HO.out (by have := HL.out; omega)
      rw [HS.out] at hS
      have hk0 : (0 : Int) ≤ (k : Int) := by omega
      have hk1 : (k : Int) < (m : Int) := by omega
      have HX : Hid (areaF (ps.take (k + 1)) = S + x * y) := by rw [take_snoc hx, area_app, HS.out]; exact Lib.hid rfl
      have HBB := Lib.hid hb
      clear hx hb
      go_wp2
      go_quiet (fail)
      go_wp2
      go_roundw
      case rel => exact ⟨k + 1, S + x * y, by omega, by go_num, rfl, HX, below_drewN HBB.out _⟩
      case measure => simp [intOf]; omega
    · have : k = m := by omega
      subst this
      have hS : S = Q := by rw [← HS.out, ← HQ.out, HK.out]
      subst hS
      have R2 := HR1.out.below hb
      have b2 := HBW.out.trans (hb.mono HBW.out.size)
      have H2 := Lib.hid (H1.out.below hb)
      have HB2 := Lib.hid (HB1.out.below hb)
      clear hb HS HR1 HBW H1 HB1
      have hP := HP.out
      go_wp2_with fail
      refine (HV.out _ H2.out HB2.out).mono ?_
      rintro e w4 ⟨rfl, hb4⟩
      have R4 := R2.below hb4
      have b4 := b2.trans (hb4.mono b2.size)
      clear hb4 R2 b2
      go_wp2_with fail
      refine (l02Make_any (P - S) P _ (by omega) (by omega) (by omega) (by omega)).mono ?_
      rintro e w3 ⟨rfl, hb3⟩
      have R3 := R4.below hb3
      have b3 := b4.trans (hb3.mono b4.size)
      have c30 : w3.cell? ⟨w.heap.size, 0, none⟩ = some (.int .i64 0) := R3.cell 0
      have c31 : w3.cell? ⟨w.heap.size, 1, none⟩ = some (.int .i64 0) := R3.cell 1
      have f3 := R3.froz
      clear hb3 R4 b4 hP
      go_wp2_with fail
      refine bodyPost_ret (v := .tuple #[.agg #[.int .i64 (lowN (P - S) P), .int .i64 (lowD (P - S) P)], .int .i64 0]) (by simp [results, Tryd.results19, go_sem, c30, c31]) rfl ⟨rfl, ?_⟩
      exact (b3.setCell (p := ⟨w.heap.size, 0, none⟩) (by simp) _).setCell (p := ⟨w.heap.size, 1, none⟩) (by simp) _

end Go.Proofs.YthdbaflihgkomaaDoor
