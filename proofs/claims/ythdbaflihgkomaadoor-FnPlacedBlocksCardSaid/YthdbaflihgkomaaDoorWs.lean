/- WasteOfRows (program and reference), and the law. Printed by mkws.py. -/
import Derived.Test.YthdbaflihgkomaaDoorMb
namespace Go.Proofs.YthdbaflihgkomaaDoor
open Go.RowKit Go.Shelf

/-- The area that two lists of widths and heights span. -/
def dotF : List Int → List Int → Int
  | a :: xs, b :: ys => a * b + dotF xs ys
  | _, _ => 0
theorem dot_set : ∀ (W H : List Int) (q : Nat) (a b : Int), q < W.length → q < H.length → dotF (W.set q a) (H.set q b) = dotF W H - W.getD q 0 * H.getD q 0 + a * b
  | [], _, q, a, b, h, _ => by simp at h
  | _ :: _, [], q, a, b, _, h => by simp at h
  | w :: W, h :: H, 0, a, b, _, _ => by simp [dotF]; omega
  | w :: W, h :: H, q + 1, a, b, h1, h2 => by
    simp only [List.set_cons_succ, dotF, List.getD_cons_succ]
    rw [dot_set W H q a b (by simpa using h1) (by simpa using h2)]
    omega
theorem dot_z : dotF z9 z9 = 0 := by decide
theorem dot_le {roll : Int} (hr : 0 ≤ roll) : ∀ (W H : List Int), (∀ (j : Nat) (x : Int), W[j]? = some x → x ≤ roll) → (∀ (j : Nat) (x : Int), H[j]? = some x → 0 ≤ x) → dotF W H ≤ roll * sumI H
  | [], H, _, hh => by
    have : 0 ≤ sumI H := by
      induction H with
      | nil => simp [sumI]
      | cons h H ih =>
        have h0 := hh 0 h rfl
        have h1 := ih (fun j x hj => hh (j + 1) x (by simpa using hj))
        simp only [sumI]
        omega
    simp only [dotF]
    exact Int.mul_nonneg hr this
  | _ :: _, [], _, _ => by simp [dotF, sumI]
  | w :: W, h :: H, hw, hh => by
    have ih := dot_le hr W H (fun j x hj => hw (j + 1) x (by simpa using hj)) (fun j x hj => hh (j + 1) x (by simpa using hj))
    have h1 := Int.mul_le_mul_of_nonneg_right (hw 0 w rfl) (hh 0 h rfl)
    simp only [dotF, sumI, Int.mul_add]
    omega
theorem area_dot {ps : List (Int × Int)} {roll : Int} {rs : List Int} (ho : BOk ps roll) (hr : ∀ (j : Nat) (r : Int), rs[j]? = some r → 0 ≤ r ∧ r ≤ 8) : ∀ k, k ≤ rs.length → k ≤ ps.length → areaF (ps.take k) ≤ dotF (rowsK ps rs k).1 (rowsK ps rs k).2
  | 0, _, _ => by simp [areaF, rowsK, dot_z]
  | k + 1, h1, h2 => by
    have ih := area_dot ho hr k (by omega) (by omega)
    have hB := rowsK_B ho hr k (by omega) (by omega)
    obtain ⟨r, hr'⟩ : ∃ r, rs[k]? = some r := ⟨_, List.getElem?_eq_getElem (by omega)⟩
    obtain ⟨⟨x, y⟩, hp⟩ : ∃ r, ps[k]? = some r := ⟨_, List.getElem?_eq_getElem (by omega)⟩
    have hb := ho.blk k _ hp
    have x0 : 0 ≤ x := by have := hb.1.1; simp at this; omega
    have y0 : 0 ≤ y := by have := hb.2.1; simp at this; omega
    have hq := hr k r hr'
    rw [rowsK_step (W := (rowsK ps rs k).1) (H := (rowsK ps rs k).2) rfl hr' hp, take_snoc hp, area_app]
    generalize (rowsK ps rs k).1 = W at *
    generalize (rowsK ps rs k).2 = T at *
    rw [dot_set W T r.toNat _ _ (by rw [hB.wl]; omega) (by rw [hB.hl]; omega)]
    have a0 := (hB.wb _ _ (getD_of (l := W) (j := r.toNat) (by rw [hB.wl]; omega))).1
    generalize W.getD r.toNat 0 = a at *
    generalize T.getD r.toNat 0 = e at *
    have m1 := Int.mul_le_mul_of_nonneg_left (show e ≤ max e y by omega) a0
    have m2 := Int.mul_le_mul_of_nonneg_left (show y ≤ max e y by omega) x0
    rw [Int.add_mul]
    omega
theorem idx_neg {xs : List Int} {p : Int → Bool} (h : idxF p xs < 0) : ∀ (j : Nat) (x : Int), xs[j]? = some x → p x = false := by
  unfold idxF at h
  cases hf : xs.findIdx? p with
  | some i => rw [hf] at h; simp at h; omega
  | none =>
    rw [List.findIdx?_eq_none_iff] at hf
    intro j x hx
    exact hf x (List.mem_of_getElem? hx)
/-- Blocks that lie well do not need more than the roll has. -/
theorem area_le {ps : List (Int × Int)} {roll : Int} {rs : List Int} (h : fineZ ps roll rs = 0) : areaF ps ≤ roll * lenZ ps rs ∧ 0 ≤ lenZ ps rs ∧ lenZ ps rs ≤ 45000 := by
  obtain ⟨hc, hf⟩ := fine_ok h
  obtain ⟨ho, hlen, hr⟩ := rowsC_ok hc
  have hB := rowsK_B ho hr rs.length (Nat.le_refl _) (by omega)
  have hd := area_dot ho hr rs.length (Nat.le_refl _) (by omega)
  rw [List.take_of_length_le (by omega)] at hd
  have hr0 := ho.r0
  have h1 := dot_le (roll := roll) (by omega) (rowsK ps rs rs.length).1 (rowsK ps rs rs.length).2 (fun j x hx => by
    have := idx_neg hf j x hx
    simp at this
    omega) (fun j x hx => (hB.hb j x hx).1)
  have h2 := sumI_bd hB.hb 9 (by rw [hB.hl]; exact Nat.le_refl _)
  rw [List.take_of_length_le (by rw [hB.hl]; exact Nat.le_refl _)] at h2
  unfold lenZ
  exact ⟨by omega, h2.1, by omega⟩

/-- The share that is not covered, and its code. -/
def wasteC (ps : List (Int × Int)) (roll : Int) (rs : List Int) : Int := if fineZ ps roll rs = 0 then (if ps.length = 0 then 3 else 0) else fineZ ps roll rs
def wasteN (ps : List (Int × Int)) (roll : Int) (rs : List Int) : Int := if wasteC ps roll rs = 0 then lowN (roll * lenZ ps rs - areaF ps) (roll * lenZ ps rs) else 0
def wasteD (ps : List (Int × Int)) (roll : Int) (rs : List Int) : Int := if wasteC ps roll rs = 0 then lowD (roll * lenZ ps rs - areaF ps) (roll * lenZ ps rs) else 0
set_option maxHeartbeats 4000000 in
theorem implWasteOfRows_any (A : Option Addr) (n c : Nat) (ps : List (Int × Int)) (roll : Int) (B : Option Addr) (m d : Nat) (rs : List Int) (w : World) (h : Rd w 2 A n c (pr ps)) (hB : Rd w 1 B m d (ints rs)) :
    Calls Tryd.prog 18 #[.slice A n c, .int .i64 roll, .slice B m d] w fun e w' => e = .returned (.tuple #[.agg #[.int .i64 (wasteN ps roll rs), .int .i64 (wasteD ps roll rs)], .int .i64 (wasteC ps roll rs)]) ∧ Below w.heap.size w w' := by
  have hl := h.plen
  have hl' := hB.ilen
  have h1 := h.cap
  have h2 := h.max
  have b0 : Below w.heap.size w (w.alloc (.cells #[.int .i64 0, .int .i64 0] 40)) := (by go_grown)
  have R0 := Box.new w #[.int .i64 0, .int .i64 0] 40
  have H0 := Lib.hid (h.below b0)
  have HB0 := Lib.hid (hB.below b0)
  have hcode := fun W h hB => implHeightOfRows_any A n c ps roll B m d rs W h hB
  unfold heightOfZ at hcode
  unfold wasteN wasteD
  by_cases hz : fineZ ps roll rs = 0
  rotate_left
  · have hc : wasteC ps roll rs = fineZ ps roll rs := by unfold wasteC; rw [if_neg hz]
    rw [hc, if_neg hz, if_neg hz]
    rw [if_neg hz] at hcode
    have hne : (fineZ ps roll rs != 0) = true := by simpa using hz
    generalize fineZ ps roll rs = F at *
    have HC := Lib.hid hcode
    clear hcode h hB hl hl' hc
    go_enter Tryd.func18, Tryd.ntmps18
    go_wp2_with fail
    refine (HC.out _ H0.out HB0.out).mono ?_
    rintro e w1 ⟨rfl, hb1⟩
    have R1 := R0.below hb1
    have b1 := b0.trans (hb1.mono b0.size)
    have c10 : w1.cell? ⟨w.heap.size, 0, none⟩ = some (.int .i64 0) := R1.cell 0
    have c11 : w1.cell? ⟨w.heap.size, 1, none⟩ = some (.int .i64 0) := R1.cell 1
    have f1 := R1.froz
    clear hb1 R0 b0
    go_wp2_with fail
    refine bodyPost_ret (v := .tuple #[.agg #[.int .i64 0, .int .i64 0], .int .i64 F]) (by simp [results, Tryd.results18, go_sem, c10, c11]) rfl ⟨rfl, ?_⟩
    exact (b1.setCell (p := ⟨w.heap.size, 0, none⟩) (by simp) _).setCell (p := ⟨w.heap.size, 1, none⟩) (by simp) _
  have har := area_le hz
  by_cases hn : n = 0
  · subst hn
    have hc : wasteC ps roll rs = 3 := by unfold wasteC; rw [if_pos hz, if_pos hl]
    rw [hc, if_neg (by omega), if_neg (by omega)]
    rw [hz, if_pos rfl] at hcode
    have HC := Lib.hid hcode
    clear hcode h hB hl hl' hc hz har
    go_enter Tryd.func18, Tryd.ntmps18
    go_wp2_with fail
    refine (HC.out _ H0.out HB0.out).mono ?_
    rintro e w1 ⟨rfl, hb1⟩
    have R1 := R0.below hb1
    have b1 := b0.trans (hb1.mono b0.size)
    have c10 : w1.cell? ⟨w.heap.size, 0, none⟩ = some (.int .i64 0) := R1.cell 0
    have c11 : w1.cell? ⟨w.heap.size, 1, none⟩ = some (.int .i64 0) := R1.cell 1
    have f1 := R1.froz
    clear hb1 R0 b0
    go_wp2_with fail
    refine bodyPost_ret (v := .tuple #[.agg #[.int .i64 0, .int .i64 0], .int .i64 3]) (by simp [results, Tryd.results18, go_sem, c10, c11]) rfl ⟨rfl, ?_⟩
    exact (b1.setCell (p := ⟨w.heap.size, 0, none⟩) (by simp) _).setCell (p := ⟨w.heap.size, 1, none⟩) (by simp) _
  have hc : wasteC ps roll rs = 0 := by unfold wasteC; rw [if_pos hz, if_neg (by omega)]
  rw [hc, if_pos rfl, if_pos rfl]
  rw [hz, if_pos rfl] at hcode
  obtain ⟨ho, hlen, hr⟩ := rowsC_ok (fine_ok hz).1
  have r0 := ho.r0
  have r1 := ho.r1
  have hta := areaB n ho (by omega)
  have hn9 : n ≤ 9 := by have := ho.len; omega
  have htk : ps.take n = ps := List.take_of_length_le (by omega)
  rw [htk] at hta
  have hmn : m = n := by omega
  subst hmn
  have hpr := mulB (x := roll) (y := lenZ ps rs) (p := 5000) (q := 45000) (by omega) r1 har.2.1 har.2.2
  have hcov := fun W h => covered_any A m c ps roll W h ho
  have hnb : ((m : Int) == 0) = false := by simp; omega
  generalize hL : lenZ ps rs = L at *
  generalize areaF ps = Q at *
  obtain ⟨h0, hl0, hl1⟩ := har
  generalize hP : roll * L = P at *
  have HC := Lib.hid hcode
  have HV := Lib.hid hcov
  have HP := Lib.hid hP
  clear hcode hcov h hB hl hl' hc hz ho hlen hr htk hL hP
  go_enter Tryd.func18, Tryd.ntmps18
  go_wp2_with fail
  refine (HC.out _ H0.out HB0.out).mono ?_
  rintro e w1 ⟨rfl, hb1⟩
  have R1 := R0.below hb1
  have b1 := b0.trans (hb1.mono b0.size)
  have H1 := Lib.hid (H0.out.below hb1)
  clear hb1 R0 b0
  have hP := HP.out
  go_wp2_with fail
  refine (HV.out _ H1.out).mono ?_
  rintro e w2 ⟨rfl, hb2⟩
  have R2 := R1.below hb2
  have b2 := b1.trans (hb2.mono b1.size)
  clear hb2 R1 b1 H1
  go_wp2_with fail
  refine (lowest_any (P - Q) P _ (by omega) (by omega) (by omega) (by omega)).mono ?_
  rintro e w3 ⟨rfl, hb3⟩
  have R3 := R2.below hb3
  have b3 := b2.trans (hb3.mono b2.size)
  have c30 : w3.cell? ⟨w.heap.size, 0, none⟩ = some (.int .i64 0) := R3.cell 0
  have c31 : w3.cell? ⟨w.heap.size, 1, none⟩ = some (.int .i64 0) := R3.cell 1
  have f3 := R3.froz
  clear hb3 R2 b2 hP
  go_wp2_with fail
  refine bodyPost_ret (v := .tuple #[.agg #[.int .i64 (lowN (P - Q) P), .int .i64 (lowD (P - Q) P)], .int .i64 0]) (by simp [results, Tryd.results18, go_sem, c30, c31]) rfl ⟨rfl, ?_⟩
  exact (b3.setCell (p := ⟨w.heap.size, 0, none⟩) (by simp) _).setCell (p := ⟨w.heap.size, 1, none⟩) (by simp) _
end Go.Proofs.YthdbaflihgkomaaDoor
