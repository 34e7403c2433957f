/- The first row with a fault (program and reference). -/
import Derived.Test.YthdbaflihgkomaaRw4
namespace Go.Proofs.Ythdbaflihgkomaa
open Go.RowKit Go.Shelf

set_option maxHeartbeats 2000000 in
theorem l11Fault_any (A : Option Addr) (n c : Nat) (ps : List (Int × Int)) (roll : Int) (B : Option Addr) (d : Nat) (rs : List Int) (w : World) (h : Rd w 2 A n c (pr ps)) (hB : Rd w 1 B n d (ints rs)) (ho : BOk ps roll) (hr : ∀ (j : Nat) (r : Int), rs[j]? = some r → 0 ≤ r ∧ r ≤ 8) :
    Calls Try.prog 59 #[.slice A n c, .int .i64 roll, .slice B n d] w fun e w' => e = .returned (.int .i64 (faultZ ps roll rs)) ∧ Below w.heap.size w w' := by
  have hl := h.plen
  have hl' := hB.ilen
  have hbd := rowsK_B ho hr n (by omega) (by omega)
  have hcall := fun W h hB => l11Sums_any A n c ps roll B n d rs W h hB ho (by omega) hr
  have hf : faultZ ps roll rs = idxF (fun x => decide (roll < x)) (rowsK ps rs n).1 := by unfold faultZ; rw [hl']
  rw [hf]
  generalize rowsK ps rs n = S at *
  obtain ⟨R, hR⟩ : ∃ R, idxF (fun x => decide (roll < x)) S.1 = R := ⟨_, rfl⟩
  rw [hR]
  have HR := Lib.hid hR
  have HC := Lib.hid hcall
  have H := Lib.hid h
  have HB := Lib.hid hB
  have HD := Lib.hid hbd
  clear hcall h hB hbd hf hR hl hl' ho hr
  go_enter Try.func59, Try.ntmps59
  go_wp2_with fail
  refine (HC.out _ H.out HB.out).mono ?_
  rintro e w1 ⟨g1, g2, rfl, hne, o1, o2, hb⟩
  have HO := Lib.hid (Rd.of_own o1)
  have HBW := Lib.hid hb
  clear o1 o2 hb hne
  go_wp2_with fail
  go_loop [9] (fun i => ∃ k : Nat, k ≤ 9 ∧ i = .int .i64 k ∧ Hid (∀ (j : Nat) (x : Int), j < k → S.1[j]? = some x → decide (roll < x) = false)) (fun i => 9 - (intOf i).toNat)
  case atStart => exact ⟨0, Nat.zero_le _, rfl, (show Hid _ from fun j _ hj => absurd hj (Nat.not_lt_zero _))⟩
  case round =>
    obtain ⟨k, hk, rfl, HQ⟩ := hrel
    by_cases hlt : k < 9
    · obtain ⟨b, o, x, hA, hbl, hx, hc⟩ := HO.out.int hlt
      injection hA with hA
      injection hA with hA1 hA2
      subst hA1
      subst hA2
      rw [Nat.zero_add] at hc
      have hk0 : (0 : Int) ≤ (k : Int) := by omega
      have hk1 : (k : Int) < 9 := by omega
      have HX := Lib.hid hx
      clear hx
      by_cases e1 : roll < x
      · have e1' : decide (roll < x) = true := decide_eq_true e1
        have hRk : R = (k : Int) := by rw [← HR.out]; exact idxF_hit HX.out e1' HQ.out
        subst hRk
        clear e1'
        go_wp2
        go_ret
        exact ⟨rfl, HBW.out⟩
      · have E1 := Lib.hid (decide_eq_false e1)
        go_wp2
        go_round
        case rel =>
          refine ⟨k + 1, by omega, by go_num, (show Hid _ from fun j p hj hp => ?_)⟩
          by_cases e : j = k
          · subst e
            have := HX.out
            rw [this] at hp
            injection hp with hp
            rw [← hp]
            exact E1.out
          · exact HQ.out j p (by omega) hp
        case measure => simp [intOf]; omega
    · have : k = 9 := by omega
      subst this
      have hRk : R = -1 := by rw [← HR.out]; exact idxF_miss (by rw [HD.out.wl]; exact HQ.out)
      subst hRk
      go_wp2
      go_ret
      exact ⟨rfl, HBW.out⟩

set_option maxHeartbeats 2000000 in
theorem specRowsFault_any (A : Option Addr) (n c : Nat) (ps : List (Int × Int)) (roll : Int) (B : Option Addr) (m d : Nat) (rs : List Int) (w : World) (h : Rd w 2 A n c (pr ps)) (hB : Rd w 1 B m d (ints rs)) :
    Calls Try.prog 31 #[.slice A n c, .int .i64 roll, .slice B m d] w fun e w' => e = .returned (.tuple #[.int .i64 (rowsFaultZ ps roll rs), .int .i64 (rowsC ps roll rs)]) ∧ Below w.heap.size w w' := by
  have hl := h.plen
  have hl' := hB.ilen
  have hcode := fun W h hB => l11Code_any A n c ps roll B m d rs W h hB
  unfold rowsFaultZ
  by_cases hz : rowsC ps roll rs = 0
  · obtain ⟨ho, hlen, hr⟩ := rowsC_ok hz
    have hmn : m = n := by omega
    subst hmn
    have hf := fun W h hB => l11Fault_any A m c ps roll B d rs W h hB ho hr
    rw [hz] at hcode
    rw [hz, if_pos rfl]
    generalize faultZ ps roll rs = F at *
    have HC := Lib.hid hcode
    have HF := Lib.hid hf
    have H := Lib.hid h
    have HB := Lib.hid hB
    clear hcode hf h hB hl hl' ho hlen hr hz
    go_enter Try.func31, Try.ntmps31
    go_wp2_with fail
    refine (HC.out _ H.out HB.out).mono ?_
    rintro e w1 ⟨rfl, rfl⟩
    go_wp2_with fail
    refine (HF.out _ H.out HB.out).mono ?_
    rintro e w2 ⟨rfl, hb⟩
    go_wp2_with fail
    go_returns
    exact ⟨rfl, hb⟩
  · rw [if_neg hz]
    have hne : (rowsC ps roll rs != 0) = true := by simpa using hz
    generalize rowsC ps roll rs = F at *
    have HC := Lib.hid hcode
    have H := Lib.hid h
    have HB := Lib.hid hB
    clear hcode h hB hl hl' hz
    go_enter Try.func31, Try.ntmps31
    go_wp2_with fail
    refine (HC.out _ H.out HB.out).mono ?_
    rintro e w1 ⟨rfl, rfl⟩
    go_wp2_with fail
    go_returns
    exact ⟨rfl, Below.refl _ _⟩

set_option maxHeartbeats 1000000 in
theorem rowsFault_pred (xs : List Int) (roll : Int) (b1 : Nat) (w : World) (h1 : w.cell? ⟨b1, 0, none⟩ = some (.int .i64 roll)) :
    PredB Try.prog 63 #[.pointer (some ⟨b1, 0, none⟩)] (Value.int .i64) (fun x => decide (roll < x)) xs w := fun W x _ hb => by
  have hl1 := World.block_lt_of_cell? _ _ h1
  have c1 : W.cell? ⟨b1, 0, none⟩ = some (.int .i64 roll) := (hb.cell (p := ⟨b1, 0, none⟩) hl1).trans h1
  clear h1 hb
  show Calls Try.prog 63 #[.int .i64 x, .pointer (some ⟨b1, 0, none⟩)] W fun e w' => e = .returned (.bool (decide (roll < x))) ∧ Below W.heap.size W w'
  go_enter Try.func63, Try.ntmps63
  go_wp2
  go_ret
  exact ⟨rfl, Below.refl _ _⟩

set_option maxHeartbeats 2000000 in
theorem implRowsFault_any (A : Option Addr) (n c : Nat) (ps : List (Int × Int)) (roll : Int) (B : Option Addr) (m d : Nat) (rs : List Int) (w : World) (h : Rd w 2 A n c (pr ps)) (hB : Rd w 1 B m d (ints rs)) :
    Calls Try.prog 33 #[.slice A n c, .int .i64 roll, .slice B m d] w fun e w' => e = .returned (.tuple #[.int .i64 (rowsFaultZ ps roll rs), .int .i64 (rowsC ps roll rs)]) ∧ Below w.heap.size w w' := by
  have hl := h.plen
  have hl' := hB.ilen
  have hcode := fun W h hB => rowsCode_any A n c ps roll B m d rs W h hB
  have b0 : Below w.heap.size w (w.alloc (.cells #[.int .i64 roll] 2)) := (by go_grown)
  have B0 := Box.new w #[.int .i64 roll] 2
  have c0 := B0.cell
  have H0 := Lib.hid (h.below b0)
  have HB0 := Lib.hid (hB.below b0)
  unfold rowsFaultZ
  by_cases hz : rowsC ps roll rs = 0
  · obtain ⟨ho, hlen, hr⟩ := rowsC_ok hz
    have hmn : m = n := by omega
    subst hmn
    have eg : ∀ args w, (callFunc 63 args).run Try.prog w = .ok (.enter 63 args) w := enters_of Try.func63 (by kernel_rfl) rfl
    have hf := fun W h hB => rowsOf_any A m c ps roll B m d rs W h hB ho (Nat.le_refl _) hr
    rw [hz] at hcode
    rw [hz, if_pos rfl]
    have hfz : faultZ ps roll rs = idxF (fun x => decide (roll < x)) (rowsK ps rs m).1 := by unfold faultZ; rw [hl']
    rw [hfz]
    generalize rowsK ps rs m = S at *
    have hix := fun A n c W h hc => indexFunc_i64 63 #[.pointer (some ⟨w.heap.size, 0, none⟩)] eg (fun x => decide (roll < x)) A n c S.1 W h (rowsFault_pred S.1 roll w.heap.size W hc)
    generalize idxF (fun x => decide (roll < x)) S.1 = F at *
    have HC := Lib.hid hcode
    have HF := Lib.hid hf
    have HI := Lib.hid hix
    clear hcode hf hix h hB hl hl' ho hlen hr hz eg hfz
    go_enter Try.func33, Try.ntmps33
    go_wp2_with fail
    refine (HC.out _ H0.out HB0.out).mono ?_
    rintro e w1 ⟨rfl, hb1⟩
    have b1 := b0.trans (hb1.mono b0.size)
    have B1 := B0.below hb1
    have H1 := Lib.hid (H0.out.below hb1)
    have HB1 := Lib.hid (HB0.out.below hb1)
    have c1 := B1.cell
    clear hb1 b0 B0 c0 H0 HB0
    go_wp2_with fail
    refine (HF.out _ H1.out HB1.out).mono ?_
    rintro e w2 ⟨g1, g2, rfl, hne, o1, o2, hb2⟩
    have b2 := b1.trans (hb2.mono b1.size)
    have B2 := B1.below hb2
    have c2 : w2.cell? ⟨w.heap.size, 0, none⟩ = some (.int .i64 roll) := B2.cell 0
    have R2 := Lib.hid (Rd.of_own o1)
    clear hb2 b1 B1 c1 H1 HB1 o1 o2 hne
    go_wp2_with fail
    refine (HI.out _ _ _ _ R2.out c2).mono ?_
    rintro e w3 ⟨rfl, hb3⟩
    have b3 := b2.trans (hb3.mono b2.size)
    go_wp2_with fail
    go_returns
    exact ⟨rfl, b3⟩
  · rw [if_neg hz]
    have hne : (rowsC ps roll rs != 0) = true := by simpa using hz
    generalize rowsC ps roll rs = F at *
    have HC := Lib.hid hcode
    clear hcode h hB hl hl' hz
    go_enter Try.func33, Try.ntmps33
    go_wp2_with fail
    refine (HC.out _ H0.out HB0.out).mono ?_
    rintro e w1 ⟨rfl, hb1⟩
    have b1 := b0.trans (hb1.mono b0.size)
    go_wp2_with fail
    go_returns
    exact ⟨rfl, b1⟩
end Go.Proofs.Ythdbaflihgkomaa
