/- The walk of the law FnPlaces. -/
import Derived.Test.YtiibhejjeijdaaaDoorDh
import Derived.Test.YtiibhejjeijdaaaDoorYh
import Derived.Deep.CutRange
namespace Go.Proofs.YtiibhejjeijdaaaDoor
open Go.RowKit Go.Shelf

theorem plZ_ok {rs : List ByteArray} {n m : Nat} {W H : Nat} {ql wo : Int} (hh : hidB rs = true) (hn : rs.length = n) (hm : colN rs = m) (hc : cutB ⟨(W : Int), (H : Int), ql, wo⟩ = true) : plZ rs ⟨(W : Int), (H : Int), ql, wo⟩ = (plL rs n m H W ql, 0) := by
  unfold plZ
  rw [if_pos hh, if_pos hc, hn, hm, Int.toNat_natCast, Int.toNat_natCast]
theorem cutB_mk {a b c d : Int} (h1 : 1 ≤ a ∧ a ≤ 6) (h2 : 1 ≤ b ∧ b ≤ 6) (h3 : 1 ≤ c ∧ c ≤ 3) (h4 : 0 ≤ d ∧ d ≤ 1000) : cutB ⟨a, b, c, d⟩ = true := by
  unfold cutB
  simp only
  rw [inB_mk h1.1 h1.2, inB_mk h2.1 h2.2, inB_mk h3.1 h3.2, inB_mk h4.1 h4.2]
  rfl
theorem lcZ_ok {rs : List ByteArray} {ql : Int} {a b : Nat} (hh : hidB rs = true) (hq : 1 ≤ ql ∧ ql ≤ 3) (h : lcT rs ql = (a, b)) : lcZ rs ql = if a = 0 then (0, 0, 3) else ((a : Int), (b : Int), 0) := by
  unfold lcZ
  rw [if_pos hh, if_pos (inB_mk hq.1 hq.2), h]

set_option maxRecDepth 100000 in
set_option maxHeartbeats 8000000 in
theorem law_Places (A : Option Addr) (n cp : Nat) (A' : Option Addr) (n' cp' : Nat) (w : World) (h1 : Bytes w A n cp) (h2 : Bytes w A' n' cp') :
    Calls Tryd.prog 4 #[.slice A n cp, .slice A' n' cp'] w fun e w' => e = .returned (.bool true) ∧ Below w.heap.size w w' := by
  have nn := h1.1
  have nn' := h2.1
  have nc := h1.2.1
  have nc' := h2.2.1
  have H1 := Lib.hid h1
  have H2 := Lib.hid h2
  clear h1 h2
  go_enter Tryd.func4, Tryd.ntmps4
  go_wp2_with fail
  refine (a2Long_any _ _ _ _ _ _ _ (by omega) (by omega)).mono ?_
  rintro e w' ⟨rfl, rfl⟩
  cases hz : (decide (3000 < n) || decide (3000 < n')) with
  | true =>
    go_wp2
    go_returns
    exact ⟨rfl, Below.refl _ _⟩
  | false =>
  clear hz
  go_wp2_with fail
  refine (a2Hide_any _ _ _ _ H1.out).mono ?_
  rintro e w1 ⟨g, k, c, m, rs, rfl, ho, hD, hk1, hk5, hm1, hm5, b1⟩
  have K1 := Lib.hid (H2.out.below b1)
  have R1 := Lib.hid (Rd.of_own ho)
  have B1 := Lib.hid b1
  have hrl : rs.length = k := (Rd.of_own ho).tlen
  obtain ⟨hok, hcol⟩ := hide_of (m := m) (by omega) (by omega) hD
  have hgr := hok.grid hrl
  rw [hcol] at hgr
  have hid := hidB_yes hok
  have hsz : ∀ s ∈ rs, s.size ≤ 9223372036854775807 := fun s hs => by have := (hD s hs).sz; omega
  have HG := Lib.hid hgr
  have HSZ := Lib.hid hsz
  have HID := Lib.hid hid
  have HRL := Lib.hid hrl
  have HCOL := Lib.hid hcol
  clear ho b1 H1 H2 hD hok hgr hid hsz hrl hcol
  go_wp2_with fail
  refine (a2Cuts_any _ _ _ _ K1.out).mono ?_
  rintro e w2 ⟨gc, kc, cc, cs, rfl, ho, hC, hc1, hc4, b2⟩
  have R2 := Lib.hid (R1.out.below b2)
  have B2 := Lib.hid (B1.out.trans (b2.mono B1.out.size))
  have hkc : (0 : Int) < (kc : Int) := by omega
  have hkc2 := (Rd.of_own ho).cap
  have hkc3 := (Rd.of_own ho).max
  obtain ⟨bc, oc, x, hA, hbl, hx, c0, c1, c2, c3⟩ := (Rd.of_own ho).cut (show 0 < kc by omega)
  have hcd := hC x (List.mem_of_getElem? hx)
  injection hA with hA
  injection hA with ea eb
  subst ea
  subst eb
  simp only [Nat.zero_mul, Nat.zero_add] at c0 c1 c2 c3
  obtain ⟨x0, x1, ql, wo⟩ := x
  have d0 := hcd.wd
  have d1 := hcd.ht
  have d2 := hcd.ql
  have d3 := hcd.wo
  simp only at d0 d1 d2 d3 c0 c1 c2 c3
  obtain ⟨W, rfl⟩ := Int.eq_ofNat_of_zero_le (show 0 ≤ x0 by omega)
  obtain ⟨H, rfl⟩ := Int.eq_ofNat_of_zero_le (show 0 ≤ x1 by omega)
  have X3 := Lib.hid (Box.new w2 #[.int .i64 W, .int .i64 H, .int .i64 ql, .int .i64 wo] 35)
  have hal : Below w2.heap.size w2 (w2.alloc (.cells #[.int .i64 W, .int .i64 H, .int .i64 ql, .int .i64 wo] 35)) := (Below.refl _ _).alloc (Nat.le_refl _) _
  have R3 := Lib.hid (R2.out.below hal)
  have B3 := Lib.hid (B2.out.trans (hal.mono B2.out.size))
  have hpz := plZ_ok (wo := wo) HID.out HRL.out HCOL.out (cutB_mk (a := (W : Int)) (b := (H : Int)) (by omega) (by omega) d2 (by omega))
  have hpc := fun V hV => implPlacesOf_any (some ⟨g, 0, none⟩) k c rs ⟨(W : Int), (H : Int), ql, wo⟩ V hV HSZ.out
  rw [hpz] at hpc
  simp only at hpc
  have HPC := Lib.hid hpc
  clear ho hC hx hcd b2 hal K1 R1 B1 R2 B2 hpz hpc hc1 hc4
  have k0 := X3.out.cell 0
  have k1 := X3.out.cell 1
  have k2 := X3.out.cell 2
  have k3 := X3.out.cell 3
  simp at k0 k1 k2 k3
  go_wp2_with fail
  refine (HPC.out _ R3.out).mono ?_
  rintro e w4 ⟨AP, nP, cP, rfl, hoP, b4⟩
  have X4 := Lib.hid (X3.out.below b4)
  have R4 := Lib.hid (R3.out.below b4)
  have B4 := Lib.hid (B3.out.trans (b4.mono B3.out.size))
  have P4 := Lib.hid (Rd.of_own hoP)
  have hpl : (plL rs k m H W ql).length = nP := (Rd.of_own hoP).ilen
  have hpc := P4.out.cap
  have hpm := P4.out.max
  have hrc := R4.out.cap
  have hrm := R4.out.max
  clear hoP b4 X3 R3 B3 k0 k1 k2 k3 HPC c0 c1 c2 c3 hbl
  have hbd : ∀ (j : Nat) (x : Int), (plL rs k m H W ql)[j]? = some x → 0 ≤ x ∧ x < ((k * m : Nat) : Int) := fun j x hx => fil_bd hx
  have hri : ∀ (j : Nat) (x y : Int), (plL rs k m H W ql)[j]? = some x → (plL rs k m H W ql)[j + 1]? = some y → x < y := fun j x y hx hy => fil_rise _ j x y hx hy
  have hhs : ∀ y x, y < k → x < m → hasB (plL rs k m H W ql) ((y * m + x : Nat) : Int) = fitB rs k m H W ql (y * m + x) := fun y x hy hx => pl_has hy hx
  have hhr : ∀ y x, x < m → HereP rs k m H W ql y x (fitB rs k m H W ql (y * m + x)) := fun y x hx => here_at hx
  have hlg := large_at (ql := ql) HRL.out HCOL.out
  have hN := prod36 (n := k) (m := m) (by omega) (by omega)
  have hpI : (k : Int) * (m : Int) = ((k * m : Nat) : Int) := by rw [Int.natCast_mul]
  obtain ⟨N, hNe⟩ : ∃ N, k * m = N := ⟨_, rfl⟩
  rw [hNe] at hbd hN hpI
  obtain ⟨P, hP⟩ : ∃ P, plL rs k m H W ql = P := ⟨_, rfl⟩
  rw [hP] at hbd hri hhs hpl P4
  have HBD := Lib.hid hbd
  have HRI := Lib.hid hri
  have HHS := Lib.hid hhs
  have HHR := Lib.hid hhr
  have HLG := Lib.hid hlg
  have HP := Lib.hid hP
  obtain ⟨b0, o0, r0, hA0, _, hx0, cr0⟩ := R4.out.txt (show 0 < k by omega)
  injection hA0 with hA0
  injection hA0 with ea eb
  subst ea
  subst eb
  rw [Nat.zero_add] at cr0
  have hs0 := HG.out.sz 0 r0 hx0
  have hs0I : (r0.size : Int) = (m : Int) := by omega
  have hkp : (0 : Int) < (k : Int) := by omega
  clear hbd hri hhs hhr hlg hP hx0 hNe
  go_wp2_with fail
  refine (a2Rises_any AP nP cP P (N : Int) _ P4.out HBD.out HRI.out).mono ?_
  rintro e w5 ⟨rfl, b5⟩
  have X5 := Lib.hid (X4.out.below b5)
  have R5 := Lib.hid (R4.out.below b5)
  have B5 := Lib.hid (B4.out.trans (b5.mono B4.out.size))
  have P5 := Lib.hid (P4.out.below b5)
  clear b5 X4 R4 B4 P4 cr0 HBD HRI hs0 hs0I hpI
  go_wp2_with fail
  go_loopw [12] (fun vy wr => ∃ y : Nat, y ≤ k ∧ vy = .int .i64 y ∧ Hid (Below w5.heap.size w5 wr)) (fun vy _ => k - (intOf vy).toNat)
  case atStart => exact ⟨0, Nat.zero_le _, rfl, Lib.hid (Below.refl _ _)⟩
  case round =>
    obtain ⟨y, hy, rfl, HB⟩ := hrel
    obtain ⟨w6, rfl⟩ : ∃ w', w' = wr := ⟨_, rfl⟩
    by_cases hyk : y < k
    · have hy1 : (y : Int) < (k : Int) := by omega
      go_wp2_with fail
      go_loopw [13] (fun vx wr => ∃ x : Nat, x ≤ m ∧ vx = .int .i64 x ∧ Hid (Below w5.heap.size w5 wr)) (fun vx _ => m - (intOf vx).toNat)
      case atStart => exact ⟨0, Nat.zero_le _, rfl, HB⟩
      case round =>
        clear HB
        obtain ⟨x, hx, rfl, HB⟩ := hrel
        obtain ⟨w7, rfl⟩ : ∃ w', w' = wr := ⟨_, rfl⟩
        by_cases hxm : x < m
        · have hx1 : (x : Int) < (m : Int) := by omega
          have hh := HHS.out y x hyk hxm
          have hr := HHR.out y x hxm
          have hp36 := place_lt hyk hxm (by omega) (by omega)
          obtain ⟨p, hpe⟩ : ∃ p, y * m = p := ⟨_, rfl⟩
          have hqI : (y : Int) * (m : Int) = (p : Int) := by rw [← hpe, Int.natCast_mul]
          rw [hpe] at hh hr hp36
          rw [Int.natCast_add] at hh
          obtain ⟨F, hF⟩ : ∃ F, fitB rs k m H W ql (p + x) = F := ⟨_, rfl⟩
          rw [hF] at hh hr
          have HHH := Lib.hid hh
          have HR := Lib.hid hr
          clear hh hr hF hpe
          have X7 := Lib.hid (X5.out.below HB.out)
          have k0 := X7.out.cell 0
          have k1 := X7.out.cell 1
          simp at k0 k1
          have hs7 := HB.out.size
          have hsz7 := HB.out.size
          go_upto_region 17 with fail
          go_cut [14] from 66 to 79 (fun vf wx => ∃ z : Bool, vf = .bool z ∧ Hid (z = true → y + H ≤ k ∧ x + W ≤ m) ∧ Hid (z = false → F = false) ∧ Hid (Below w5.heap.size w5 wx))
          case first =>
            by_cases e1 : y + H ≤ k
            · have t1 : (y : Int) + (H : Int) ≤ (k : Int) := by omega
              by_cases e2 : x + W ≤ m
              · have t2 : (x : Int) + (W : Int) ≤ (m : Int) := by omega
                go_wp2_with fail
                go_meet
                exact ⟨true, rfl, Lib.hid (fun _ => ⟨e1, e2⟩), Lib.hid (by simp), HB⟩
              · have t2 : ¬ (x : Int) + (W : Int) ≤ (m : Int) := by omega
                go_wp2_with fail
                go_meet
                exact ⟨false, rfl, Lib.hid (by simp), Lib.hid (fun _ => HR.out.no2 e2), HB⟩
            · have t1 : ¬ (y : Int) + (H : Int) ≤ (k : Int) := by omega
              go_wp2_with fail
              go_meet
              exact ⟨false, rfl, Lib.hid (by simp), Lib.hid (fun _ => HR.out.no1 e1), HB⟩
          case rest =>
          clear HB X7 k0 k1
          obtain ⟨z, rfl, HY0, HN0, HB⟩ := hcut
          obtain ⟨w8, rfl⟩ : ∃ w', w' = wc := ⟨_, rfl⟩
          go_wp2_with fail
          go_loopw [14, 15] (fun vf vv wr => ∃ (v : Nat) (z : Bool), y ≤ v ∧ vf = .bool z ∧ vv = .int .i64 v ∧ Hid (z = true → v ≤ y + H ∧ y + H ≤ k ∧ x + W ≤ m ∧ GoodR rs y x W ql v x) ∧ Hid (z = false → F = false) ∧ Hid (Below w5.heap.size w5 wr)) (fun _ vv _ => y + H - (intOf vv).toNat)
          case atStart => exact ⟨y, z, Nat.le_refl _, rfl, rfl, Lib.hid (fun h => ⟨by omega, (HY0.out h).1, (HY0.out h).2, GoodR.zero rs y x W ql⟩), HN0, HB⟩
          case round =>
            clear HB HY0 HN0
            obtain ⟨v, z, hyv, rfl, rfl, HZ, HF, HB⟩ := hrel
            obtain ⟨w9, rfl⟩ : ∃ w', w' = wr := ⟨_, rfl⟩
            have X9 := Lib.hid (X5.out.below HB.out)
            have k0 := X9.out.cell 0
            have k1 := X9.out.cell 1
            have k2 := X9.out.cell 2
            simp at k0 k1 k2
            cases z with
            | true =>
              obtain ⟨hvH, hyH, hxW, hgd⟩ := HZ.out (by simp)
              have HGD := Lib.hid hgd
              clear hgd HZ HF
              by_cases hv : v < y + H
              · have hv1 : (v : Int) < (y : Int) + (H : Int) := by omega
                go_wp2_with fail
                go_loopw [14, 16] (fun vf vu wr => ∃ (u : Nat) (z : Bool), x ≤ u ∧ u ≤ x + W ∧ vf = .bool z ∧ vu = .int .i64 u ∧ Hid (z = true → GoodR rs y x W ql v u) ∧ Hid (z = false → F = false) ∧ Hid (Below w5.heap.size w5 wr)) (fun _ vu _ => x + W - (intOf vu).toNat)
                case atStart => exact ⟨x, true, Nat.le_refl _, by omega, rfl, rfl, Lib.hid (fun _ => HGD.out), Lib.hid (by simp), HB⟩
                case round =>
                  clear HB HGD k0 k1 k2 X9
                  obtain ⟨u, z, hxu, huW, rfl, rfl, HZ, HF, HB⟩ := hrel
                  obtain ⟨wa, rfl⟩ : ∃ w', w' = wr := ⟨_, rfl⟩
                  have Xa := Lib.hid (X5.out.below HB.out)
                  have k0 := Xa.out.cell 0
                  have k1 := Xa.out.cell 1
                  have k2 := Xa.out.cell 2
                  simp at k0 k1 k2
                  cases z with
                  | true =>
                    by_cases hu : u < x + W
                    · have hu1 : (u : Int) < (x : Int) + (W : Int) := by omega
                      go_wp2_with fail
                      refine (qualityAt_any (some ⟨g, 0, none⟩) k c v u m rs _ (R5.out.below HB.out) HSZ.out HID.out HG.out (by omega) (by omega)).mono ?_
                      rintro e wb ⟨rfl, bb⟩
                      have HBb := Lib.hid (HB.out.trans (bb.mono HB.out.size))
                      have Xb := Lib.hid (Xa.out.below bb)
                      clear k0 k1 k2 bb
                      have k0 := Xb.out.cell 0
                      have k1 := Xb.out.cell 1
                      have k2 := Xb.out.cell 2
                      simp at k0 k1 k2
                      have hbad := HR.out.bad v u hyv hv hxu hu
                      have hgo := fun h => (HZ.out (by simp)).step (x := u) h
                      generalize qAt rs v u = qq at *
                      have HBAD := Lib.hid hbad
                      have HGO := Lib.hid hgo
                      clear hbad hgo HZ HF HB
                      by_cases hq : ql ≤ qq
                      · have hq2 : (qq : Int) ≥ ql := hq
                        go_wp2
                        go_roundw
                        case rel => exact ⟨u + 1, true, by omega, by omega, (by first | rfl | simp [hq]), by go_num, Lib.hid (fun _ => HGO.out hq), Lib.hid (by simp), HBb⟩
                        case measure => simp [intOf]; omega
                      · have hq2 : ¬ (qq : Int) ≥ ql := hq
                        have hFf := HBAD.out hq
                        go_wp2
                        go_roundw
                        case rel => exact ⟨u + 1, false, by omega, by omega, (by first | rfl | simp [hq]), by go_num, Lib.hid (by simp), Lib.hid (fun _ => hFf), HBb⟩
                        case measure => simp [intOf]; omega
                    · have hu2 : u = x + W := by omega
                      subst hu2
                      have hr2 := (HZ.out (by simp)).row
                      have HR2 := Lib.hid hr2
                      clear hr2 HZ HF
                      have hu1 : ¬ ((x + W : Nat) : Int) < (x : Int) + (W : Int) := by omega
                      go_wp2
                      go_roundw
                      case rel => exact ⟨v + 1, true, by omega, rfl, by go_num, Lib.hid (fun _ => ⟨by omega, hyH, hxW, HR2.out⟩), Lib.hid (by simp), HB⟩
                      case measure => simp [intOf]; omega
                  | false =>
                    have hFf := HF.out (by simp)
                    clear HZ HF
                    by_cases hu : u < x + W
                    · have hu1 : (u : Int) < (x : Int) + (W : Int) := by omega
                      go_wp2
                      go_roundw
                      case rel => exact ⟨v + 1, false, by omega, rfl, by go_num, Lib.hid (by simp), Lib.hid (fun _ => hFf), HB⟩
                      case measure => simp [intOf]; omega
                    · have hu1 : ¬ (u : Int) < (x : Int) + (W : Int) := by omega
                      go_wp2
                      go_roundw
                      case rel => exact ⟨v + 1, false, by omega, rfl, by go_num, Lib.hid (by simp), Lib.hid (fun _ => hFf), HB⟩
                      case measure => simp [intOf]; omega
              · have hve : v = y + H := by omega
                subst hve
                have hF := HR.out.yes hyH hxW HGD.out
                subst hF
                have hv1 : ¬ ((y + H : Nat) : Int) < (y : Int) + (H : Int) := by omega
                clear HGD
                go_wp2_with fail
                refine (a2Has_any AP nP cP P ((p : Int) + (x : Int)) _ (P5.out.below HB.out)).mono ?_
                rw [HHH.out]
                rintro e wz ⟨rfl, rfl⟩
                go_wp2
                go_roundw
                case rel => exact ⟨x + 1, by omega, by go_num, HB⟩
                case measure => simp [intOf]; omega
            | false =>
              have hF := HF.out (by simp)
              subst hF
              clear HZ HF
              by_cases hv : v < y + H
              · have hv1 : (v : Int) < (y : Int) + (H : Int) := by omega
                go_wp2_with fail
                refine (a2Has_any AP nP cP P ((p : Int) + (x : Int)) _ (P5.out.below HB.out)).mono ?_
                rw [HHH.out]
                rintro e wz ⟨rfl, rfl⟩
                go_wp2
                go_roundw
                case rel => exact ⟨x + 1, by omega, by go_num, HB⟩
                case measure => simp [intOf]; omega
              · have hv1 : ¬ (v : Int) < (y : Int) + (H : Int) := by omega
                go_wp2_with fail
                refine (a2Has_any AP nP cP P ((p : Int) + (x : Int)) _ (P5.out.below HB.out)).mono ?_
                rw [HHH.out]
                rintro e wz ⟨rfl, rfl⟩
                go_wp2
                go_roundw
                case rel => exact ⟨x + 1, by omega, by go_num, HB⟩
                case measure => simp [intOf]; omega
        · have hxe : x = m := by omega
          subst hxe
          go_wp2
          go_roundw
          case rel => exact ⟨y + 1, by omega, by go_num, HB⟩
          case measure => simp [intOf]; omega
    · clear hy HHS HHR
      obtain ⟨⟨a, b⟩, hT⟩ : ∃ st, lcT rs ql = st := ⟨_, rfl⟩
      have hlz := lcZ_ok HID.out d2 hT
      have hlg := HLG.out
      rw [hT] at hlg
      have hlie := hlg.lie
      have hbest := hlg.best H W (by omega) (by omega)
      rw [HP.out] at hbest
      simp only at hbest
      have hLC := fun V hV => implLargestCut_any (some ⟨g, 0, none⟩) k c rs ql V hV HSZ.out
      rw [hlz] at hLC
      have B6 := Lib.hid (B5.out.trans (HB.out.mono B5.out.size))
      have X6 := Lib.hid (X5.out.below HB.out)
      have R6 := Lib.hid (R5.out.below HB.out)
      have k2 := X6.out.cell 2
      simp at k2
      clear HB hlz hlg HLG hT
      by_cases ha : a = 0
      · subst ha
        rw [if_pos rfl] at hLC
        simp only at hLC
        have hst : b = 0 ∨ True := .inr trivial
        have hn0 : nP = 0 := by
          by_cases h0 : 0 < P.length
          · have := hbest h0
            have := Nat.mul_pos (show 0 < W by omega) (show 0 < H by omega)
            omega
          · omega
        have HLC := Lib.hid hLC
        clear hLC hlie hbest hst
        subst hn0
        go_wp2_with fail
        refine (HLC.out _ R6.out).mono ?_
        rintro e wz ⟨rfl, bz⟩
        have BZ := Lib.hid (B6.out.trans (bz.mono B6.out.size))
        clear bz k2
        go_wp2
        go_ret
        exact ⟨rfl, BZ.out⟩
      · rw [if_neg ha] at hLC
        simp only at hLC
        have hl2 : 1 ≤ a ∧ a ≤ m ∧ 1 ≤ b ∧ b ≤ k ∧ 0 < (plL rs k m b a ql).length := by
          rcases hlie with h | h
          · injection h with h _; exact absurd h ha
          · exact h
        obtain ⟨la1, la2, lb1, lb2, hlp⟩ := hl2
        have hpz := plZ_ok (wo := 0) HID.out HRL.out HCOL.out (cutB_mk (a := (a : Int)) (b := (b : Int)) (by omega) (by omega) d2 (by omega))
        have hpc2 := fun V hV => implPlacesOf_any (some ⟨g, 0, none⟩) k c rs ⟨(a : Int), (b : Int), ql, 0⟩ V hV HSZ.out
        rw [hpz] at hpc2
        simp only at hpc2
        have hprod : nP ≠ 0 → ((W : Int) * (H : Int) ≤ (a : Int) * (b : Int)) := fun h0 => by
          have := hbest (by omega)
          rw [← Int.natCast_mul, ← Int.natCast_mul]
          omega
        have hab := prod36 (n := a) (m := b) (by omega) (by omega)
        have hWH := prod36 (n := W) (m := H) (by omega) (by omega)
        have HLC := Lib.hid hLC
        have HPC := Lib.hid hpc2
        clear hLC hlie hbest hpz hpc2
        go_wp2_with fail
        refine (HLC.out _ R6.out).mono ?_
        rintro e wz ⟨rfl, bz⟩
        have BZ := Lib.hid (B6.out.trans (bz.mono B6.out.size))
        have XZ := Lib.hid (X6.out.below bz)
        have RZ := Lib.hid (R6.out.below bz)
        clear bz k2 HLC B6 X6 R6
        have k2 := XZ.out.cell 2
        simp at k2
        go_wp2_with fail
        refine (HPC.out _ RZ.out).mono ?_
        rintro e wy ⟨AQ, nQ, cQ, rfl, hoQ, by'⟩
        have hql : (plL rs k m b a ql).length = nQ := (Rd.of_own hoQ).ilen
        have hqc := (Rd.of_own hoQ).cap
        have hqm := (Rd.of_own hoQ).max
        rw [hql] at hlp
        have hlpI : (0 : Int) < (nQ : Int) := by omega
        have BY := Lib.hid (BZ.out.trans (by'.mono BZ.out.size))
        have XY := Lib.hid (XZ.out.below by')
        clear by' k2 BZ XZ RZ HPC hoQ hql
        have k0 := XY.out.cell 0
        have k1 := XY.out.cell 1
        simp at k0 k1
        obtain ⟨u, hu⟩ : ∃ u, a * b = u := ⟨_, rfl⟩
        obtain ⟨v, hv⟩ : ∃ v, W * H = v := ⟨_, rfl⟩
        have huI : (a : Int) * (b : Int) = (u : Int) := by rw [← hu, Int.natCast_mul]
        have hvI : (W : Int) * (H : Int) = (v : Int) := by rw [← hv, Int.natCast_mul]
        rw [huI, hvI] at hprod
        rw [hu] at hab
        rw [hv] at hWH
        clear hu hv
        by_cases hn0 : nP = 0
        · subst hn0
          clear hprod
          go_wp2
          go_ret
          exact ⟨rfl, BY.out⟩
        · have hpr := hprod hn0
          clear hprod
          have hnz : ((nP : Int) == 0) = false := by simp; omega
          have hnz2 : ¬ (nP : Int) = 0 := by omega
          go_wp2
          go_ret
          exact ⟨rfl, BY.out⟩
end Go.Proofs.YtiibhejjeijdaaaDoor
