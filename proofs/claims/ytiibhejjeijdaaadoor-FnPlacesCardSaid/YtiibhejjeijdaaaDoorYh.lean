/- FnPlaces: the law's own helpers (a2Rises, a2Has), QualityAt. -/
import Derived.Test.YtiibhejjeijdaaaDoorYp
import Derived.Test.YtiibhejjeijdaaaDoorLg
namespace Go.Proofs.YtiibhejjeijdaaaDoor
open Go.RowKit Go.Shelf

set_option maxHeartbeats 1000000 in
theorem a2Has_any (A : Option Addr) (n c : Nat) (xs : List Int) (x : Int) (w : World) (h : Rd w 1 A n c (ints xs)) :
    Calls Tryd.prog 24 #[.slice A n c, .int .i64 x] w fun e w' => e = .returned (.bool (hasB xs x)) ∧ w = w' := by
  have hl := h.ilen
  have h1 := h.cap
  have h2 := h.max
  have H := Lib.hid h
  have HL := Lib.hid hl
  obtain ⟨r, hr⟩ : ∃ r, hasB xs x = r := ⟨_, rfl⟩
  rw [hr]
  have HR := Lib.hid hr
  clear h hl hr
  go_enter Tryd.func24, Tryd.ntmps24
  go_wp2
  go_loop [5] (fun i => ∃ k : Nat, k ≤ n ∧ i = .int .i64 k ∧ Hid (∀ j y, j < k → xs[j]? = some y → y ≠ x)) (fun i => n - (intOf i).toNat)
  case atStart => exact ⟨0, Nat.zero_le _, rfl, (show Hid _ from fun j _ hj => absurd hj (Nat.not_lt_zero _))⟩
  case round =>
    obtain ⟨k, hk, rfl, HB⟩ := hrel
    by_cases hlt : k < n
    · obtain ⟨b, o, y, hA, hbl, hx, hc⟩ := H.out.int hlt
      subst hA
      have HX := Lib.hid hx
      clear hx
      have hk1 : (k : Int) < (n : Int) := by omega
      by_cases hxy : y = x
      · subst hxy
        go_wp2
        go_ret
        exact ⟨ret_b (by rw [← HR.out]; exact (hasB_yes HX.out).symm), rfl⟩
      · have hne : (y == x) = false := by simpa using hxy
        go_wp2
        go_round
        case rel =>
          refine ⟨k + 1, by omega, by go_num, (show Hid _ from fun j z hj hz => ?_)⟩
          by_cases e : j = k
          · subst e
            have := HX.out
            rw [this] at hz
            injection hz with hz
            rw [← hz]
            exact hxy
          · exact HB.out j z (by omega) hz
        case measure => simp [intOf]; omega
    · have : k = n := by omega
      subst this
      go_wp2
      go_ret
      exact ⟨ret_b (by rw [← HR.out]; exact (hasB_no (by rw [HL.out]; exact HB.out)).symm), rfl⟩

set_option maxHeartbeats 2000000 in
theorem a2Rises_any (A : Option Addr) (n c : Nat) (xs : List Int) (N : Int) (w : World) (h : Rd w 1 A n c (ints xs)) (hb : ∀ (k : Nat) (x : Int), xs[k]? = some x → 0 ≤ x ∧ x < N) (hr : ∀ (k : Nat) (x y : Int), xs[k]? = some x → xs[k + 1]? = some y → x < y) :
    Calls Tryd.prog 22 #[.slice A n c, .int .i64 N] w fun e w' => e = .returned (.bool true) ∧ Below w.heap.size w w' := by
  have h1 := h.cap
  have h2 := h.max
  have H := Lib.hid h
  have HB := Lib.hid hb
  have HR := Lib.hid hr
  clear h hb hr
  go_enter Tryd.func22, Tryd.ntmps22
  go_wp2
  go_loopw [5] (fun i wr => ∃ k : Nat, k ≤ n ∧ i = .int .i64 k ∧ Hid (Below w.heap.size w wr)) (fun i _ => n - (intOf i).toNat)
  case atStart => exact ⟨0, Nat.zero_le _, rfl, Lib.hid (Below.refl _ _)⟩
  case round =>
    obtain ⟨k, hk, rfl, Hb⟩ := hrel
    by_cases hlt : k < n
    · obtain ⟨b, o, y, hA, hbl, hx, hc⟩ := (H.out.below Hb.out).int hlt
      have hy := HB.out k y hx
      have hk0 : (0 : Int) ≤ (k : Int) := by omega
      have hk1 : (k : Int) < (n : Int) := by omega
      have d1 : decide (y < 0) = false := by simp; omega
      have d2 : decide (y ≥ N) = false := by simp; omega
      cases k with
      | zero =>
        subst hA
        rw [Nat.add_zero] at hc
        clear hx
        go_wp2
        go_quiet (fail)
        have HB2 := Lib.hid (below_drewN Hb.out nq)
        go_wp2
        go_roundw
        case rel => exact ⟨1, by omega, by go_num, HB2⟩
        case measure => simp [intOf]; omega
      | succ j =>
        obtain ⟨b', o', z, hA', _, hz, hcz⟩ := (H.out.below Hb.out).int (show j < n by omega)
        have hzy := HR.out j z y hz hx
        have d3 : decide (z ≥ y) = false := by simp; omega
        rw [hA] at hA'
        injection hA' with hA'
        injection hA' with ea eb
        subst ea
        subst eb
        subst hA
        have hsub : ((j + 1 : Nat) : Int) - 1 = (j : Int) := by omega
        have hpos : (0 : Int) < ((j + 1 : Nat) : Int) := by omega
        clear hx hz
        go_wp2
        go_quiet (fail)
        have HB2 := Lib.hid (below_drewN Hb.out nq)
        go_wp2
        go_roundw
        case rel => exact ⟨j + 2, by omega, by go_num, HB2⟩
        case measure => simp [intOf]; omega
    · go_wp2
      go_ret
      exact ⟨rfl, Hb.out⟩

set_option maxRecDepth 100000 in
set_option maxHeartbeats 2000000 in
theorem qualityAt_any (A : Option Addr) (n c y x m : Nat) (rs : List ByteArray) (w : World) (h : Rd w 1 A n c (txs rs)) (hs : ∀ s ∈ rs, s.size ≤ 9223372036854775807) (hok : hidB rs = true) (hg : Grid rs n m) (hy : y < n) (hx : x < m) :
    Calls Tryd.prog 23 #[.slice A n c, .int .i64 y, .int .i64 x] w fun e w' => e = .returned (.tuple #[.int .i64 (qAt rs y x), .int .i64 0]) ∧ Below w.heap.size w w' := by
  have h1 := h.cap
  have h2 := h.max
  have hbn := hg.bn
  have hbm := hg.bm
  have hv := implValidHide_any A n c rs w h hs
  rw [hok] at hv
  have hy0 : (0 : Int) ≤ (y : Int) := by omega
  have hy1 : (y : Int) < (n : Int) := by omega
  have hx0 : (0 : Int) ≤ (x : Int) := by omega
  have HV := Lib.hid hv
  have HH := Lib.hid h
  have HG := Lib.hid hg
  have hw1 : inB (y : Int) 0 ((n : Int) - 1) = true := inB_mk (by omega) (by omega)
  have hw2 : inB (x : Int) 0 ((m : Int) - 1) = true := inB_mk (by omega) (by omega)
  have hwa := fun W => within_any (y : Int) 0 ((n : Int) - 1) W
  have hwb := fun W => within_any (x : Int) 0 ((m : Int) - 1) W
  rw [hw1] at hwa
  rw [hw2] at hwb
  have HWA := Lib.hid hwa
  have HWB := Lib.hid hwb
  clear hv h hg hwa hwb hw1 hw2 hs hok
  go_enter Tryd.func23, Tryd.ntmps23
  go_wp2_with fail
  refine (HV.out).mono ?_
  rintro e w1 ⟨rfl, hb1⟩
  have H1 := Lib.hid (HH.out.below hb1)
  have B1 := Lib.hid hb1
  clear hb1 HH HV
  go_wp2_with fail
  refine (sizeOf_any A n c m rs _ H1.out HG.out).mono ?_
  rintro e w2 ⟨rfl, hb2⟩
  have H2 := Lib.hid (H1.out.below hb2)
  have B2 := Lib.hid (B1.out.trans (hb2.mono B1.out.size))
  clear hb2 H1 B1
  go_wp2_with fail
  refine (HWA.out _).mono ?_
  rintro e w3 ⟨rfl, rfl⟩
  go_wp2_with fail
  refine (HWB.out _).mono ?_
  rintro e w4 ⟨rfl, rfl⟩
  obtain ⟨b, o, rr, hA, hbl, hxr, c0⟩ := H2.out.txt hy
  subst hA
  have hsz := HG.out.sz y rr hxr
  have hxs : x < rr.size := by omega
  have hx1 : (x : Int) < (rr.size : Int) := by omega
  have hqc := fun W => qualityOf_any ((rr[x]'hxs).toNat : Int) W
  have hqi : qI ((rr[x]'hxs).toNat : Int) = qAt rs y x := by
    rw [chr_at hxs, qAt_at hxr]
    exact q_eq (HG.out.fld y rr hxr x hx)
  rw [hqi] at hqc
  have HQ := Lib.hid hqc
  clear hqc hqi hxr
  go_wp2_with fail
  refine (HQ.out _).mono ?_
  rintro e w5 ⟨rfl, rfl⟩
  go_wp2
  go_ret2
  exact ⟨rfl, B2.out⟩
end Go.Proofs.YtiibhejjeijdaaaDoor
