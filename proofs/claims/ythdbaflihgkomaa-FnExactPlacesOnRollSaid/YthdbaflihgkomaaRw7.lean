/- The length of rows: sumOf, l11Height, l11Fine, HeightOfRows (program and reference), and the law. Printed by mkrw7.py. -/
import Derived.Test.YthdbaflihgkomaaRw6
namespace Go.Proofs.Ythdbaflihgkomaa
open Go.RowKit Go.Shelf

def sumI : List Int → Int
  | [] => 0
  | x :: xs => x + sumI xs
theorem sumI_app : ∀ (xs : List Int) (x : Int), sumI (xs ++ [x]) = sumI xs + x
  | [], x => by simp [sumI]
  | y :: ys, x => by
    simp only [List.cons_append, sumI, sumI_app ys x]
    omega
theorem sumI_bd {xs : List Int} (h : ∀ (j : Nat) (x : Int), xs[j]? = some x → 0 ≤ x ∧ x ≤ 5000) : ∀ k, k ≤ xs.length → 0 ≤ sumI (xs.take k) ∧ sumI (xs.take k) ≤ k * 5000
  | 0, _ => by simp [sumI]
  | k + 1, hk => by
    obtain ⟨x, hx⟩ : ∃ x, xs[k]? = some x := ⟨_, List.getElem?_eq_getElem (by omega)⟩
    have ih := sumI_bd h k (by omega)
    have hb := h k x hx
    rw [take_snoc hx, sumI_app]
    omega

set_option maxHeartbeats 1000000 in
theorem sumOf_any (A : Option Addr) (n c : Nat) (xs : List Int) (w : World) (h : Rd w 1 A n c (ints xs)) (hn : n ≤ 9) (hx : ∀ (j : Nat) (x : Int), xs[j]? = some x → 0 ≤ x ∧ x ≤ 5000) :
    Calls Try.prog 66 #[.slice A n c] w fun e w' => e = .returned (.int .i64 (sumI xs)) ∧ w = w' := by
  have hl := h.ilen
  have h1 := h.cap
  have h2 := h.max
  obtain ⟨R, hR⟩ : ∃ R, sumI xs = R := ⟨_, rfl⟩
  rw [hR]
  have H := Lib.hid h
  have HL := Lib.hid hl
  have HX := Lib.hid hx
  have HR := Lib.hid hR
  clear h hl hx hR
  go_enter Try.func66, Try.ntmps66
  go_wp2
  go_loop [3, 8] (fun sm i => ∃ (k : Nat) (S : Int), k ≤ n ∧ i = .int .i64 k ∧ sm = .int .i64 S ∧ Hid (sumI (xs.take k) = S)) (fun _ i => n - (intOf i).toNat)
  case atStart => exact ⟨0, 0, Nat.zero_le _, rfl, rfl, (show Hid _ from rfl)⟩
  case round =>
    obtain ⟨k, S, hk, rfl, rfl, HS⟩ := hrel
    by_cases hlt : k < n
    · obtain ⟨b, o, x, hA, hbl, hx, hc⟩ := H.out.int hlt
      subst hA
      have hb := HX.out k x hx
      have hS := sumI_bd HX.out k (by have := HL.out; omega)
      rw [HS.out] at hS
      have hk0 : (0 : Int) ≤ (k : Int) := by omega
      have hk1 : (k : Int) < (n : Int) := by omega
      have HN : Hid (sumI (xs.take (k + 1)) = S + x) := by rw [take_snoc hx, sumI_app, HS.out]; exact Lib.hid rfl
      clear hx
      go_wp2
      go_round
      case rel => exact ⟨k + 1, S + x, by omega, by go_num, rfl, HN⟩
      case measure => simp [intOf]; omega
    · have : k = n := by omega
      subst this
      have hS : S = R := by rw [← HS.out, ← HR.out, List.take_of_length_le (by rw [HL.out]; exact Nat.le_refl _)]
      subst hS
      go_wp2
      go_ret
      exact ⟨rfl, rfl⟩

/-- The code of blocks and rows without faults; the length. -/
def fineZ (ps : List (Int × Int)) (roll : Int) (rs : List Int) : Int := if rowsC ps roll rs = 0 then (if 0 ≤ faultZ ps roll rs then 6 else 0) else rowsC ps roll rs
def lenZ (ps : List (Int × Int)) (rs : List Int) : Int := sumI (rowsK ps rs rs.length).2
def heightOfZ (ps : List (Int × Int)) (roll : Int) (rs : List Int) : Int := if fineZ ps roll rs = 0 then lenZ ps rs else 0
theorem fine_ok {ps : List (Int × Int)} {roll : Int} {rs : List Int} (h : fineZ ps roll rs = 0) : rowsC ps roll rs = 0 ∧ faultZ ps roll rs < 0 := by
  unfold fineZ at h
  split at h
  · rename_i h1
    split at h
    · omega
    · exact ⟨h1, by omega⟩
  · rename_i h1
    exact absurd h h1

set_option maxHeartbeats 2000000 in
theorem l11Fine_any (A : Option Addr) (n c : Nat) (ps : List (Int × Int)) (roll : Int) (B : Option Addr) (m d : Nat) (rs : List Int) (w : World) (h : Rd w 2 A n c (pr ps)) (hB : Rd w 1 B m d (ints rs)) :
    Calls Try.prog 64 #[.slice A n c, .int .i64 roll, .slice B m d] w fun e w' => e = .returned (.int .i64 (fineZ ps roll rs)) ∧ Below w.heap.size w w' := by
  have hl := h.plen
  have hl' := hB.ilen
  have hcode := fun W h hB => l11Code_any A n c ps roll B m d rs W h hB
  unfold fineZ
  by_cases hz : rowsC ps roll rs = 0
  · obtain ⟨ho, hlen, hr⟩ := rowsC_ok hz
    have hmn : m = n := by omega
    subst hmn
    have hf := fun W h hB => l11Fault_any A m c ps roll B d rs W h hB ho hr
    rw [hz] at hcode
    rw [hz, if_pos rfl]
    generalize faultZ ps roll rs = F at *
    have HC := Lib.hid hcode
    have HF := Lib.hid hf
    have H := Lib.hid h
    have HB := Lib.hid hB
    clear hcode hf h hB hl hl' ho hlen hr hz
    by_cases hF : 0 ≤ F
    · rw [if_pos hF]
      go_enter Try.func64, Try.ntmps64
      go_wp2_with fail
      refine (HC.out _ H.out HB.out).mono ?_
      rintro e w1 ⟨rfl, rfl⟩
      go_wp2_with fail
      refine (HF.out _ H.out HB.out).mono ?_
      rintro e w2 ⟨rfl, hb⟩
      go_wp2_with fail
      go_ret
      exact ⟨rfl, hb⟩
    · rw [if_neg hF]
      go_enter Try.func64, Try.ntmps64
      go_wp2_with fail
      refine (HC.out _ H.out HB.out).mono ?_
      rintro e w1 ⟨rfl, rfl⟩
      go_wp2_with fail
      refine (HF.out _ H.out HB.out).mono ?_
      rintro e w2 ⟨rfl, hb⟩
      go_wp2_with fail
      go_ret
      exact ⟨rfl, hb⟩
  · rw [if_neg hz]
    have hne : (rowsC ps roll rs == 0) = false := by simpa using hz
    generalize rowsC ps roll rs = F at *
    have HC := Lib.hid hcode
    have H := Lib.hid h
    have HB := Lib.hid hB
    clear hcode h hB hl hl' hz
    go_enter Try.func64, Try.ntmps64
    go_wp2_with fail
    refine (HC.out _ H.out HB.out).mono ?_
    rintro e w1 ⟨rfl, rfl⟩
    go_wp2_with fail
    go_ret
    exact ⟨rfl, Below.refl _ _⟩

set_option maxHeartbeats 2000000 in
theorem l11Height_any (A : Option Addr) (n c : Nat) (ps : List (Int × Int)) (roll : Int) (B : Option Addr) (d : Nat) (rs : List Int) (w : World) (h : Rd w 2 A n c (pr ps)) (hB : Rd w 1 B n d (ints rs)) (ho : BOk ps roll) (hr : ∀ (j : Nat) (r : Int), rs[j]? = some r → 0 ≤ r ∧ r ≤ 8) :
    Calls Try.prog 65 #[.slice A n c, .slice B n d] w fun e w' => e = .returned (.int .i64 (lenZ ps rs)) ∧ Below w.heap.size w w' := by
  have hl := h.plen
  have hl' := hB.ilen
  have hbd := rowsK_B ho hr n (by omega) (by omega)
  have hcall := fun W h hB => l11Sums_any A n c ps roll B n d rs W h hB ho (by omega) hr
  have hf : lenZ ps rs = sumI (rowsK ps rs n).2 := by unfold lenZ; rw [hl']
  rw [hf]
  generalize rowsK ps rs n = S at *
  obtain ⟨R, hR⟩ : ∃ R, sumI S.2 = R := ⟨_, rfl⟩
  rw [hR]
  have HR := Lib.hid hR
  have HC := Lib.hid hcall
  have H := Lib.hid h
  have HB := Lib.hid hB
  have HD := Lib.hid hbd
  clear hcall h hB hbd hf hR hl hl' ho hr
  go_enter Try.func65, Try.ntmps65
  go_wp2_with fail
  refine (HC.out _ H.out HB.out).mono ?_
  rintro e w1 ⟨g1, g2, rfl, hne, o1, o2, hb⟩
  have HO := Lib.hid (Rd.of_own o2)
  have HBW := Lib.hid hb
  clear o1 o2 hb hne
  go_wp2_with fail
  go_loop [7, 8] (fun sm i => ∃ (k : Nat) (Q : Int), k ≤ 9 ∧ i = .int .i64 k ∧ sm = .int .i64 Q ∧ Hid (sumI (S.2.take k) = Q)) (fun _ i => 9 - (intOf i).toNat)
  case atStart => exact ⟨0, 0, Nat.zero_le _, rfl, rfl, (show Hid _ from rfl)⟩
  case round =>
    obtain ⟨k, Q, hk, rfl, rfl, HQ⟩ := hrel
    by_cases hlt : k < 9
    · obtain ⟨b, o, x, hA, hbl, hx, hc⟩ := HO.out.int hlt
      injection hA with hA
      injection hA with hA1 hA2
      subst hA1
      subst hA2
      rw [Nat.zero_add] at hc
      have hb := HD.out.hb k x hx
      have hS := sumI_bd HD.out.hb k (by rw [HD.out.hl]; exact hk)
      rw [HQ.out] at hS
      have hk0 : (0 : Int) ≤ (k : Int) := by omega
      have hk1 : (k : Int) < 9 := by omega
      have HN : Hid (sumI (S.2.take (k + 1)) = Q + x) := by rw [take_snoc hx, sumI_app, HQ.out]; exact Lib.hid rfl
      clear hx
      go_wp2
      go_round
      case rel => exact ⟨k + 1, Q + x, by omega, by go_num, rfl, HN⟩
      case measure => simp [intOf]; omega
    · have : k = 9 := by omega
      subst this
      have hS : Q = R := by rw [← HQ.out, ← HR.out, List.take_of_length_le (by rw [HD.out.hl]; exact Nat.le_refl _)]
      subst hS
      go_wp2
      go_ret
      exact ⟨rfl, HBW.out⟩

set_option maxHeartbeats 2000000 in
theorem specHeightOfRows_any (A : Option Addr) (n c : Nat) (ps : List (Int × Int)) (roll : Int) (B : Option Addr) (m d : Nat) (rs : List Int) (w : World) (h : Rd w 2 A n c (pr ps)) (hB : Rd w 1 B m d (ints rs)) :
    Calls Try.prog 34 #[.slice A n c, .int .i64 roll, .slice B m d] w fun e w' => e = .returned (.tuple #[.int .i64 (heightOfZ ps roll rs), .int .i64 (fineZ ps roll rs)]) ∧ Below w.heap.size w w' := by
  have hl := h.plen
  have hl' := hB.ilen
  have hcode := fun W h hB => l11Fine_any A n c ps roll B m d rs W h hB
  unfold heightOfZ
  by_cases hz : fineZ ps roll rs = 0
  · obtain ⟨ho, hlen, hr⟩ := rowsC_ok (fine_ok hz).1
    have hmn : m = n := by omega
    subst hmn
    have hf := fun W h hB => l11Height_any A m c ps roll B d rs W h hB ho hr
    rw [hz] at hcode
    rw [hz, if_pos rfl]
    generalize lenZ ps rs = F at *
    have HC := Lib.hid hcode
    have HF := Lib.hid hf
    have H := Lib.hid h
    have HB := Lib.hid hB
    clear hcode hf h hB hl hl' ho hlen hr hz
    go_enter Try.func34, Try.ntmps34
    go_wp2_with fail
    refine (HC.out _ H.out HB.out).mono ?_
    rintro e w1 ⟨rfl, hb1⟩
    go_wp2_with fail
    refine (HF.out _ (H.out.below hb1) (HB.out.below hb1)).mono ?_
    rintro e w2 ⟨rfl, hb⟩
    go_wp2_with fail
    go_returns
    exact ⟨rfl, hb1.trans (hb.mono hb1.size)⟩
  · rw [if_neg hz]
    have hne : (fineZ ps roll rs != 0) = true := by simpa using hz
    generalize fineZ ps roll rs = F at *
    have HC := Lib.hid hcode
    have H := Lib.hid h
    have HB := Lib.hid hB
    clear hcode h hB hl hl' hz
    go_enter Try.func34, Try.ntmps34
    go_wp2_with fail
    refine (HC.out _ H.out HB.out).mono ?_
    rintro e w1 ⟨rfl, hb⟩
    go_wp2_with fail
    go_returns
    exact ⟨rfl, hb⟩

set_option maxHeartbeats 2000000 in
theorem implHeightOfRows_any (A : Option Addr) (n c : Nat) (ps : List (Int × Int)) (roll : Int) (B : Option Addr) (m d : Nat) (rs : List Int) (w : World) (h : Rd w 2 A n c (pr ps)) (hB : Rd w 1 B m d (ints rs)) :
    Calls Try.prog 35 #[.slice A n c, .int .i64 roll, .slice B m d] w fun e w' => e = .returned (.tuple #[.int .i64 (heightOfZ ps roll rs), .int .i64 (fineZ ps roll rs)]) ∧ Below w.heap.size w w' := by
  have hl := h.plen
  have hl' := hB.ilen
  have hcode := fun W h hB => implRowsFault_any A n c ps roll B m d rs W h hB
  unfold heightOfZ fineZ
  unfold rowsFaultZ at hcode
  by_cases hz : rowsC ps roll rs = 0
  · obtain ⟨ho, hlen, hr⟩ := rowsC_ok hz
    have hmn : m = n := by omega
    subst hmn
    have hbd := rowsK_B ho hr m (by omega) (by omega)
    have hf := fun W h hB => rowsOf_any A m c ps roll B m d rs W h hB ho (Nat.le_refl _) hr
    have hlz : lenZ ps rs = sumI (rowsK ps rs m).2 := by unfold lenZ; rw [hl']
    rw [hz, if_pos rfl] at hcode
    rw [hz, if_pos rfl, hlz]
    generalize rowsK ps rs m = S at *
    have hsum := fun A c W h => sumOf_any A 9 c S.2 W h (Nat.le_refl _) hbd.hb
    generalize faultZ ps roll rs = F at *
    generalize sumI S.2 = R at *
    have HC := Lib.hid hcode
    have HF := Lib.hid hf
    have HS := Lib.hid hsum
    have H := Lib.hid h
    have HB := Lib.hid hB
    clear hcode hf hsum h hB hl hl' ho hlen hr hz hlz hbd
    by_cases hF : 0 ≤ F
    · rw [if_pos hF, if_neg (by omega)]
      go_enter Try.func35, Try.ntmps35
      go_wp2_with fail
      refine (HC.out _ H.out HB.out).mono ?_
      rintro e w1 ⟨rfl, hb1⟩
      go_wp2_with fail
      go_returns
      exact ⟨rfl, hb1⟩
    · rw [if_neg hF, if_pos rfl]
      go_enter Try.func35, Try.ntmps35
      go_wp2_with fail
      refine (HC.out _ H.out HB.out).mono ?_
      rintro e w1 ⟨rfl, hb1⟩
      go_wp2_with fail
      refine (HF.out _ (H.out.below hb1) (HB.out.below hb1)).mono ?_
      rintro e w2 ⟨g1, g2, rfl, hne, o1, o2, hb2⟩
      have b2 := hb1.trans (hb2.mono hb1.size)
      have R2 := Lib.hid (Rd.of_own o2)
      clear o1 o2 hne hb2
      go_wp2_with fail
      refine (HS.out _ _ _ R2.out).mono ?_
      rintro e w3 ⟨rfl, rfl⟩
      go_wp2_with fail
      go_returns
      exact ⟨rfl, b2⟩
  · rw [if_neg hz, if_neg hz]
    rw [if_neg hz] at hcode
    have hne : (rowsC ps roll rs != 0) = true := by simpa using hz
    generalize rowsC ps roll rs = F at *
    have HC := Lib.hid hcode
    have H := Lib.hid h
    have HB := Lib.hid hB
    clear hcode h hB hl hl' hz
    go_enter Try.func35, Try.ntmps35
    go_wp2_with fail
    refine (HC.out _ H.out HB.out).mono ?_
    rintro e w1 ⟨rfl, hb⟩
    go_wp2_with fail
    go_returns
    exact ⟨rfl, hb⟩

set_option maxHeartbeats 4000000 in
theorem law_HeightOfRows (A : Option Addr) (n c : Nat) (ps : List (Int × Int)) (roll : Int) (B : Option Addr) (m d : Nat) (rs : List Int) (w : World) (h : Rd w 2 A n c (pr ps)) (hB : Rd w 1 B m d (ints rs)) :
    Calls Try.prog 9 #[.slice A n c, .int .i64 roll, .slice B m d] w fun e w' => e = .returned (.bool true) ∧ Below w.heap.size w w' := by
  have h1 := h.cap
  have h2 := h.max
  have h3 := hB.cap
  have h4 := hB.max
  have HA := Lib.hid h
  have HB := Lib.hid hB
  clear h hB
  by_cases hm : (1048576 : Int) < (m : Int)
  · go_enter Try.func9, Try.ntmps9
    go_wp2
    go_ret
    exact ⟨rfl, Below.refl _ _⟩
  by_cases hn : (1048576 : Int) < (n : Int)
  · go_enter Try.func9, Try.ntmps9
    go_wp2_with fail
    refine (szPrS_any _ _ _ _ _ (by omega) (by omega) (by omega)).mono ?_
    rw [if_pos (by omega)]
    rintro e w' ⟨rfl, rfl⟩
    go_wp2
    go_ret
    exact ⟨rfl, Below.refl _ _⟩
  have b0 : Below w.heap.size w w := Below.refl _ _
  go_enter Try.func9, Try.ntmps9
  go_wp2_with fail
  refine (szPrS_any _ _ _ _ _ (by omega) (by omega) (by omega)).mono ?_
  rw [if_neg (by omega)]
  rintro e w' ⟨rfl, rfl⟩
  have h5 : ¬ 1048576 - (n : Int) < 0 := by omega
  go_wp2_with fail
  refine (toPrS_any A n c ps _ (HA.out.below b0) (by omega)).mono ?_
  rintro e w1 ⟨gp, rfl, ho, hb⟩
  have b1 : Below w.heap.size w w1 := b0.trans (hb.mono b0.size)
  have Rp1 := Lib.hid (Rd.of_own ho)
  clear hb b0 ho
  go_wp2_with fail
  refine (toInt64S_any B m d rs _ (HB.out.below b1) (by omega)).mono ?_
  rintro e w2 ⟨gr, rfl, ho, hb⟩
  have b2 : Below w.heap.size w w2 := b1.trans (hb.mono b1.size)
  have Rp2 := Lib.hid (Rp1.out.below hb)
  have Rr2 := Lib.hid (Rd.of_own ho)
  clear hb b1 Rp1 ho
  go_wp2_with fail
  refine (specHeightOfRows_any _ _ _ ps roll _ _ _ rs _ Rp2.out Rr2.out).mono ?_
  rintro e w3 ⟨rfl, hb⟩
  have b3 : Below w.heap.size w w3 := b2.trans (hb.mono b2.size)
  have Rp3 := Lib.hid (Rp2.out.below hb)
  have Rr3 := Lib.hid (Rr2.out.below hb)
  clear hb b2 Rp2 Rr2
  go_wp2_with fail
  refine (toPrS_any A n c ps _ (HA.out.below b3) (by omega)).mono ?_
  rintro e w4 ⟨gx, rfl, ho, hb⟩
  have b4 : Below w.heap.size w w4 := b3.trans (hb.mono b3.size)
  have Rp4 := Lib.hid (Rp3.out.below hb)
  have Rr4 := Lib.hid (Rr3.out.below hb)
  have Rx4 := Lib.hid (Rd.of_own ho)
  clear hb b3 Rp3 Rr3 ho
  go_wp2_with fail
  refine (toInt64S_any B m d rs _ (HB.out.below b4) (by omega)).mono ?_
  rintro e w5 ⟨gy, rfl, ho, hb⟩
  have b5 : Below w.heap.size w w5 := b4.trans (hb.mono b4.size)
  have Rp5 := Lib.hid (Rp4.out.below hb)
  have Rr5 := Lib.hid (Rr4.out.below hb)
  have Rx5 := Lib.hid (Rx4.out.below hb)
  have Ry5 := Lib.hid (Rd.of_own ho)
  clear hb b4 Rp4 Rr4 Rx4 ho
  go_wp2_with fail
  refine (implHeightOfRows_any _ _ _ ps roll _ _ _ rs _ Rx5.out Ry5.out).mono ?_
  rintro e w6 ⟨rfl, hb⟩
  have b6 : Below w.heap.size w w6 := b5.trans (hb.mono b5.size)
  have Rp6 := Lib.hid (Rp5.out.below hb)
  have Rr6 := Lib.hid (Rr5.out.below hb)
  have Rx6 := Lib.hid (Rx5.out.below hb)
  have Ry6 := Lib.hid (Ry5.out.below hb)
  clear hb b5 Rp5 Rr5 Rx5 Ry5
  go_wp2_with fail
  refine (toPrS_any A n c ps _ (HA.out.below b6) (by omega)).mono ?_
  rintro e w7 ⟨gz, rfl, ho, hb⟩
  have b7 : Below w.heap.size w w7 := b6.trans (hb.mono b6.size)
  have Rp7 := Lib.hid (Rp6.out.below hb)
  have Rr7 := Lib.hid (Rr6.out.below hb)
  have Rx7 := Lib.hid (Rx6.out.below hb)
  have Ry7 := Lib.hid (Ry6.out.below hb)
  have Rz7 := Lib.hid (Rd.of_own ho)
  clear hb b6 Rp6 Rr6 Rx6 Ry6 ho
  go_wp2_with fail
  refine (eqPrS_any _ _ _ ps _ _ _ ps _ Rx7.out Rz7.out).mono ?_
  rw [eqG_self]
  rintro e w8 ⟨rfl, hb⟩
  have b8 : Below w.heap.size w w8 := b7.trans (hb.mono b7.size)
  have Rp8 := Lib.hid (Rp7.out.below hb)
  have Rr8 := Lib.hid (Rr7.out.below hb)
  have Rx8 := Lib.hid (Rx7.out.below hb)
  have Ry8 := Lib.hid (Ry7.out.below hb)
  have Rz8 := Lib.hid (Rz7.out.below hb)
  clear hb b7 Rp7 Rr7 Rx7 Ry7 Rz7
  go_wp2_with fail
  refine (toInt64S_any B m d rs _ (HB.out.below b8) (by omega)).mono ?_
  rintro e w9 ⟨gv, rfl, ho, hb⟩
  have b9 : Below w.heap.size w w9 := b8.trans (hb.mono b8.size)
  have Rp9 := Lib.hid (Rp8.out.below hb)
  have Rr9 := Lib.hid (Rr8.out.below hb)
  have Rx9 := Lib.hid (Rx8.out.below hb)
  have Ry9 := Lib.hid (Ry8.out.below hb)
  have Rz9 := Lib.hid (Rz8.out.below hb)
  have Rv9 := Lib.hid (Rd.of_own ho)
  clear hb b8 Rp8 Rr8 Rx8 Ry8 Rz8 ho
  go_wp2_with fail
  refine (eqInt64S_any _ _ _ rs _ _ _ rs _ Ry9.out Rv9.out).mono ?_
  rw [eqL_self]
  rintro e w10 ⟨rfl, hb⟩
  have b10 : Below w.heap.size w w10 := b9.trans (hb.mono b9.size)
  have Rp10 := Lib.hid (Rp9.out.below hb)
  have Rr10 := Lib.hid (Rr9.out.below hb)
  have Rx10 := Lib.hid (Rx9.out.below hb)
  have Ry10 := Lib.hid (Ry9.out.below hb)
  have Rz10 := Lib.hid (Rz9.out.below hb)
  have Rv10 := Lib.hid (Rv9.out.below hb)
  clear hb b9 Rp9 Rr9 Rx9 Ry9 Rz9 Rv9
  go_wp2_with fail
  go_ret
  exact ⟨rfl, b10⟩

end Go.Proofs.Ythdbaflihgkomaa
