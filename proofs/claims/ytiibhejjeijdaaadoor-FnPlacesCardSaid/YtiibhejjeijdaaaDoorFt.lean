/- Where pieces fit: l10Fits; valid pieces; all places (program, reference). Printed by mkft.py. -/
import Derived.Test.YtiibhejjeijdaaaDoorPl
namespace Go.Proofs.YtiibhejjeijdaaaDoor
open Go.RowKit

set_option maxRecDepth 100000 in
set_option maxHeartbeats 4000000 in
theorem l10Fits_any (A : Option Addr) (n c m f W H : Nat) (ql wo : Int) (rs : List ByteArray) (w : World) (h : Rd w 1 A n c (txs rs)) (hg : Grid rs n m) (hf : f < n * m) (hW : W ≤ 6) (hH : H ≤ 6) :
    Calls Tryd.prog 80 #[.slice A n c, .agg #[.int .i64 W, .int .i64 H, .int .i64 ql, .int .i64 wo], .int .i64 f] w fun e w' => e = .returned (.bool (fitB rs n m H W ql f)) ∧ Below w.heap.size w w' := by
  have h1 := h.cap
  have h2 := h.max
  have hbn := hg.bn
  have hbm := hg.bm
  obtain ⟨hr, hq, hfe⟩ := divmod hbm.1 hf
  have hyes := fitB_yes (rs := rs) (n := n) (m := m) (H := H) (W := W) (ql := ql) (f := f)
  have hno := fitB_no (rs := rs) (n := n) (m := m) (H := H) (W := W) (ql := ql) (f := f)
  have hd1 : (f : Int) / (m : Int) = ((f / m : Nat) : Int) := by rw [Int.natCast_ediv]
  have hd2 : (f : Int) % (m : Int) = ((f % m : Nat) : Int) := by rw [Int.natCast_emod]
  have hf36 : f < 36 := by
    have h1 : n * m ≤ 6 * m := Nat.mul_le_mul_right m (by omega)
    omega
  obtain ⟨r, hre⟩ : ∃ r, f / m = r := ⟨_, rfl⟩
  obtain ⟨q, hqe⟩ : ∃ q, f % m = q := ⟨_, rfl⟩
  rw [hre] at hr hfe hd1
  rw [hqe] at hq hfe hd2
  have hFit := fun (h1 : r + H ≤ n) (h2 : q + W ≤ m) (hgd : GoodR rs r q W ql (r + H) q) => (hgd.fit hre hqe h1 h2 : FitP rs n m H W ql f)
  have hNo1 : ¬ r + H ≤ n → ¬ FitP rs n m H W ql f := fun hn h => hn (by have := h.hh; omega)
  have hNo2 : ¬ q + W ≤ m → ¬ FitP rs n m H W ql f := fun hn h => hn (by have := h.hw; omega)
  have hNo3 : ∀ y x, r ≤ y → y < r + H → q ≤ x → x < q + W → qAt rs y x < ql → ¬ FitP rs n m H W ql f := fun y x a b c d e h => by have := h.good y x (by omega) (by omega) (by omega) (by omega); omega
  have hb0 : Below w.heap.size w (w.alloc (.cells #[.int .i64 W, .int .i64 H, .int .i64 ql, .int .i64 wo] 35)) := (Below.refl _ _).alloc (Nat.le_refl _) _
  have HX := Lib.hid (Box.new w #[.int .i64 W, .int .i64 H, .int .i64 ql, .int .i64 wo] 35)
  have hn0 : 0 < n := by omega
  have hn0I : (0 : Int) < (n : Int) := by omega
  obtain ⟨b0, o0, r0, hA0, hbl0, hx0, cc0⟩ := h.txt hn0
  rw [Nat.add_zero] at cc0
  have hsz0 := hg.sz 0 r0 hx0
  have dd0 := cell_belT cc0 hb0
  have HB0 := Lib.hid hb0
  generalize fitB rs n m H W ql f = z at *
  have HH := Lib.hid h
  have HG := Lib.hid hg
  have HY := Lib.hid hyes
  have HN := Lib.hid hno
  have HFT := Lib.hid hFit
  have HN1 := Lib.hid hNo1
  have HN2 := Lib.hid hNo2
  have HN3 := Lib.hid hNo3
  clear h hg hyes hno hFit hNo1 hNo2 hNo3 hb0 hf hre hqe hfe
  have hf0 : (0 : Int) ≤ (f : Int) := by omega
  have hm1 : (1 : Int) ≤ (m : Int) := by omega
  have hmz : ((m : Int) == 0) = false := by simp; omega
  subst hA0
  clear cc0 hx0
  have hsI : (r0.size : Int) = (m : Int) := by omega
  have HB2 := HB0
  have HX2 := HX
  have k0 := HX2.out.cell 0
  have k1 := HX2.out.cell 1
  have k2 := HX2.out.cell 2
  simp at k0 k1 k2
  have HSZ := Lib.hid hsz0
  clear HB0 HX hsz0
  by_cases hrH : r + H ≤ n
  · by_cases hqW : q + W ≤ m
    · have t1 : decide ((n : Int) < (r : Int) + (H : Int)) = false := by simp; omega
      have t2 : decide ((m : Int) < (q : Int) + (W : Int)) = false := by simp; omega
      go_enter Tryd.func80, Tryd.ntmps80
      go_wp2
      (try rw [hd1])
      (try rw [hd2])
      clear hd1 hd2
      go_loopw [10] (fun vy wr => ∃ (y : Nat), r ≤ y ∧ y ≤ r + H ∧ vy = .int .i64 y ∧ Hid (GoodR rs r q W ql y q) ∧ Hid (Box wr w.heap.size #[.int .i64 W, .int .i64 H, .int .i64 ql, .int .i64 wo]) ∧ Hid (Below w.heap.size w wr)) (fun vy _ => r + H - (intOf vy).toNat)
      case atStart => exact ⟨r, Nat.le_refl _, by omega, rfl, Lib.hid (GoodR.zero rs r q W ql), HX2, HB2⟩
      case round =>
        clear HX2 HB2 k0 k1 k2
        obtain ⟨y, hry, hyH, rfl, HGD, HX, HB⟩ := hrel
        have k0 := HX.out.cell 0
        have k1 := HX.out.cell 1
        have k2 := HX.out.cell 2
        simp at k0 k1 k2
        by_cases hly : y < r + H
        · have t3 : (y : Int) < (r : Int) + (H : Int) := by omega
          have t4 : decide ((y : Int) < (r : Int) + (H : Int)) = true := by simpa using t3
          go_wp2
          go_loopw [11] (fun vx wr => ∃ (x : Nat), q ≤ x ∧ x ≤ q + W ∧ vx = .int .i64 x ∧ Hid (GoodR rs r q W ql y x) ∧ Hid (Box wr w.heap.size #[.int .i64 W, .int .i64 H, .int .i64 ql, .int .i64 wo]) ∧ Hid (Below w.heap.size w wr)) (fun vx _ => q + W - (intOf vx).toNat)
          case atStart => exact ⟨q, Nat.le_refl _, by omega, rfl, HGD, HX, HB⟩
          case round =>
            clear HGD HX HB k0 k1 k2
            obtain ⟨x, hqx, hxW, rfl, HGD, HX, HB⟩ := hrel
            have k0 := HX.out.cell 0
            have k1 := HX.out.cell 1
            have k2 := HX.out.cell 2
            simp at k0 k1 k2
            by_cases hlx : x < q + W
            · have hyn : y < n := by omega
              have hxm : x < m := by omega
              have hy0 : (0 : Int) ≤ (y : Int) := by omega
              have hy1 : (y : Int) < (n : Int) := by omega
              have hx0 : (0 : Int) ≤ (x : Int) := by omega
              obtain ⟨b, o, rr, hA, hbl, hx, c0⟩ := HH.out.txt hyn
              injection hA with hA
              injection hA with ea eb
              subst ea
              subst eb
              have d0 := cell_belT c0 HB.out
              have hsz := HG.out.sz y rr hx
              have hxr : x < rr.size := by omega
              have hx1 : (x : Int) < (rr.size : Int) := by omega
              have hqc := fun W => l10Quality_any ((rr[x]'hxr).toNat : Int) W
              have hqi : qS ((rr[x]'hxr).toNat : Int) = qAt rs y x := by
                rw [chr_at hxr, qAt_at hx]
              rw [hqi] at hqc
              have hbad := fun h => HN.out (HN3.out y x hry hly hqx hlx h)
              have hgood := fun h => HGD.out.step (rs := rs) (x := x) h
              have hqb : -1 ≤ qAt rs y x ∧ qAt rs y x ≤ 3 := qS_bd _
              have HQ := Lib.hid hqc
              have HBD := Lib.hid hbad
              have HGO := Lib.hid hgood
              clear hqc hqi hbad hgood hx c0
              generalize qAt rs y x = qq at *
              by_cases hql : qq < ql
              · have hz := HBD.out hql
                subst hz
                clear HBD HGO
                go_wp2
                go_quiet ((go_at_call 72; refine Calls.quiet_of_same ((HQ.out _).mono fun _ _ h => ⟨h.1, h.2.symm⟩)))
                go_wp2
                go_ret
                exact ⟨rfl, below_drewN HB.out _⟩
              · have HG2 := Lib.hid (HGO.out (by omega))
                clear HBD HGO
                go_wp2
                go_quiet ((go_at_call 72; refine Calls.quiet_of_same ((HQ.out _).mono fun _ _ h => ⟨h.1, h.2.symm⟩)))
                have HX3 := Lib.hid (HX.out.below (below_drewN (Below.refl wr.heap.size wr) nq))
                have HB3 := Lib.hid (below_drewN HB.out nq)
                go_wp2
                go_roundw
                case rel => exact ⟨x + 1, by omega, by omega, by go_num, HG2, HX3, HB3⟩
                case measure => simp [intOf]; omega
            · have hxe : x = q + W := by omega
              subst hxe
              have HG2 := Lib.hid HGD.out.row
              go_wp2
              go_roundw
              case rel => exact ⟨y + 1, by omega, by omega, by go_num, HG2, HX, HB⟩
              case measure => simp [intOf]; omega
        · have hye : y = r + H := by omega
          subst hye
          have hz := HY.out (HFT.out hrH hqW HGD.out)
          subst hz
          go_wp2
          go_ret
          exact ⟨rfl, HB.out⟩
    · have hz := HN.out (HN2.out hqW)
      subst hz
      go_enter Tryd.func80, Tryd.ntmps80
      go_wp2
      go_ret
      exact ⟨rfl, HB2.out⟩
  · have hz := HN.out (HN1.out hrH)
    subst hz
    go_enter Tryd.func80, Tryd.ntmps80
    go_wp2
    go_ret
    exact ⟨rfl, HB2.out⟩

end Go.Proofs.YtiibhejjeijdaaaDoor
