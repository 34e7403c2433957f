/- Drawn operations and a drawn order: DrawIsOpOrder. -/
import Derived.Test.YtgghjieeckkpbaaDoorDr
import Derived.Test.YtgghjieeckkpbaaDoorCan
import Derived.Deep.CutRange
namespace Go.Proofs.YtgghjieeckkpbaaDoor
open Go.RowKit Go.Shelf

/-- Drawn operations and an order. -/
def IsPost (w : World) (e : Ending) (w' : World) : Prop :=
  ∃ go k co ops A m c ds, e = .returned (.tuple #[.slice (some ⟨go, 0, none⟩) k co, .slice A m c]) ∧ RdO w' (some ⟨go, 0, none⟩) k co ops ∧ Rd w' 1 A m c (ints ds) ∧ Below w.heap.size w w'

set_option maxRecDepth 100000 in
set_option maxHeartbeats 6000000 in
theorem drawIs_any (A : Option Addr) (n c : Nat) (w : World) (h : Bytes w A n c) :
    Calls Tryd.prog 16 #[.slice A n c] w (IsPost w) := by
  obtain ⟨i6, gi, gz0, gz1, gz2⟩ := info_parts info_i64r
  have hn := Nat.le_trans h.1 h.2.1
  have H := Lib.hid h
  clear h
  go_enter Tryd.func16, Tryd.ntmps16
  go_wp2_with fail
  refine (l00From_any A n c _ H.out).mono ?_
  rintro e w1 ⟨g, rfl, hs, hge, hb1⟩
  have S1 := Lib.hid hs
  have B1 := Lib.hid hb1
  have hgl := hs.lt
  clear hs hb1
  go_wp2_with fail
  refine (l13Bent_any g A n c 0 _ S1.out (by omega) hn).mono ?_
  rintro e w2 ⟨go, k, co, L, rfl, hk, hG, _, hS, hW⟩
  have HG := Lib.hid hG
  have B2 := Lib.hid (below_of_grown B1.out hW hge)
  have hs2 := hW.size
  have hbs := B1.out.size
  have hcap := (Rd.of_own hG.own).cap
  have hmax := (Rd.of_own hG.own).max
  have hgo := own_block hG.own go rfl
  have HS3 := Lib.hid (hS.alloc (.cells #[] 2))
  have HW3 := Lib.hid (grown_alloc (World.grownBy.refl w2 (some g)) (.cells #[] 2))
  have HO3 := Lib.hid (own_e w2 w2 (Nat.le_refl _))
  have hgl2 : g < w2.heap.size := hS.lt
  have HR3 := Lib.hid ((HG.out.keep HW3.out hgl).read)
  have hok := l13Ok_any _ _ _ _ _ HR3.out
  have HOK := Lib.hid hok
  clear hG hS hW B1 S1 hok
  go_upto_if 19 with (go_at_call 31; refine (HOK.out).mono ?_; rintro e w3 ⟨rfl, hb3⟩)
  have HS4 := Lib.hid (HS3.out.below hb3)
  have HW4 := Lib.hid (grown_bel HW3.out hb3)
  have HO4 := Lib.hid (own_below HO3.out hb3)
  clear hb3 HS3 HW3 HO3 HR3 HOK
  go_cut [6, 7, 8, 9, 10, 11] from 13 (fun v6 _ _ _ _ _ wx => ∃ (m g6 c6 : Nat) (ds : List Int), v6 = .slice (some ⟨g6, 0, none⟩) m c6 ∧ m ≤ 15 ∧ Hid (wx.ownsRow w2.heap.size 2 1 (.slice (some ⟨g6, 0, none⟩) m c6) m (ints ds)) ∧ Hid (Src wx g A n c (0 + 124 + 30)) ∧ Hid (w2.grownBy wx (some g)))
  case first =>
    cases hq : okO (L.map Prod.fst) with
    | false =>
      go_wp2
      go_meet
      exact ⟨0, _, 0, [], rfl, by omega, HO4, Lib.hid (HS4.out.more (by omega)), HW4⟩
    | true =>
      have HK := Lib.hid (okO_true hq)
      clear hq
      have hs4 := HW4.out.size
      have hg4 := HS4.out.lt
      have hmk := mkb k (by omega) w3
      have hb3 : Below w3.heap.size w3 (w3.alloc (.cells (bn k) 4)) := (Below.refl _ _).alloc (Nat.le_refl _) _
      have HD5 := Lib.hid (ownb k (by omega) w3 w2.heap.size hs4)
      have HS5 := Lib.hid (HS4.out.below hb3)
      have HW5 := Lib.hid (grown_bel HW4.out hb3)
      have HO5 := Lib.hid (own_below HO4.out hb3)
      have hne5 : w2.heap.size ≠ w3.heap.size := by have := (own_block HO4.out w2.heap.size rfl).2; omega
      clear hb3 HS4 HW4 HO4
      go_wp2
      go_loopg [6, 8, 9, 10, 11] k (fun gg v6 v8 _ _ _ wr => ∃ (i m g6 c6 : Nat) (ds : List Int) (d : List Bool), i ≤ k ∧ k - i ≤ gg ∧ m ≤ i ∧ v8 = .int .i64 i ∧ v6 = .slice (some ⟨g6, 0, none⟩) m c6 ∧ g6 ≠ w3.heap.size ∧ Hid (wr.ownsRow w2.heap.size 2 1 (.slice (some ⟨g6, 0, none⟩) m c6) m (ints ds)) ∧ Hid (wr.ownsRow w2.heap.size 4 1 (.slice (some ⟨w3.heap.size, 0, none⟩) k k) k (bs d)) ∧ Hid (d.length = k) ∧ Hid (Src wr g A n c (0 + 124 + 2 * i)) ∧ Hid (w2.grownBy wr (some g)))
      case atStart => exact ⟨0, 0, _, 0, [], _, Nat.zero_le _, by omega, Nat.le_refl _, rfl, rfl, hne5, HO5, HD5, Lib.hid (by simp), HS5, HW5⟩
      case round =>
        clear HO5 HD5 HS5 HW5 hmk
        obtain ⟨i, m, g6, c6, ds, d, hik, hgg, hmi, rfl, rfl, hne6, HO, HD, HDL, HS, HW⟩ := hrel
        obtain ⟨w6, rfl⟩ : ∃ w', w' = wr := ⟨_, rfl⟩
        have hws := HW.out.size
        have hcap2 := (Rd.of_own HO.out).cap
        have hmax2 := (Rd.of_own HO.out).max
        have hgs := HS.out.lt
        by_cases hlt : i < k
        · have hi0 : (0 : Int) ≤ (i : Int) := by omega
          have hi1 : (i : Int) < (k : Int) := by omega
          have HGR := Lib.hid (HG.out.keep HW.out hgl).read
          have HO6 := Lib.hid (own_e w6 w6 (Nat.le_refl _))
          have HB6 := Lib.hid (show Below w6.heap.size w6 (w6.alloc (.cells #[] 2)) from (Below.refl _ _).alloc (Nat.le_refl _) _)
          go_wp2
          go_loopg [9, 10] k (fun gg v9 v10 w7 => ∃ (j q g9 c9 : Nat) (cs : List Int), j ≤ k ∧ k - j ≤ gg ∧ q ≤ j ∧ v10 = .int .i64 j ∧ v9 = .slice (some ⟨g9, 0, none⟩) q c9 ∧ Hid (w7.ownsRow w6.heap.size 2 1 (.slice (some ⟨g9, 0, none⟩) q c9) q (ints cs)) ∧ Hid (∀ x ∈ cs, 0 ≤ x ∧ x < k) ∧ Hid (Below w6.heap.size w6 w7))
          case atStart => exact ⟨0, 0, _, 0, [], Nat.zero_le _, by omega, Nat.le_refl _, rfl, rfl, HO6, Lib.hid (by simp), HB6⟩
          case round =>
            clear HO6 HB6
            obtain ⟨j, q, g9, c9, cs, hjk, hgg2, hqj, rfl, rfl, HC, HCI, HB⟩ := hrel
            have hb7 := HB.out.size
            have hcap3 := (Rd.of_own HC.out).cap
            have hmax3 := (Rd.of_own HC.out).max
            have hg9 := own_block HC.out g9 rfl
            by_cases hltj : j < k
            · have hj0 : (0 : Int) ≤ (j : Int) := by omega
              have hj1 : (j : Int) < (k : Int) := by omega
              have hcan := l13Can_any (some ⟨go, 0, none⟩) k co (L.map Prod.fst) w2.heap.size w3.heap.size k j d wr (HGR.out.below HB.out) HK.out hltj HDL.out (own_below HD.out HB.out)
              generalize canB (bfsO (L.map Prod.fst)) d j = r at *
              have HCN := Lib.hid hcan
              clear hcan
              cases r with
              | false =>
                go_wp2_with (go_at_call 44; refine (HCN.out).mono ?_; rintro e w' ⟨rfl, rfl⟩)
                go_roundg (k - (j + 1))
                case measure => omega
                case rel => exact ⟨j + 1, q, g9, c9, cs, by omega, by omega, by omega, by go_num, rfl, HC, HCI, HB⟩
              | true =>
                have HAL : Hid (Below wr.heap.size wr (wr.alloc (.cells #[.int .i64 j] 2))) := Lib.hid ((Below.refl _ _).alloc (Nat.le_refl _) _)
                go_wp2_with (first
                  | (go_at_call 44; refine (HCN.out).mono ?_; rintro e w' ⟨rfl, rfl⟩)
                  | (at_builtin; refine wpList_append_own_at _ rfl (.tmp 40) (.tmp 42) 32 rfl w6.heap.size 2 i6 (.int .i64 0) 1 8 Tryd.underlying32 gi gz0 gz1 gz2 rfl (by decide) (Value.slice (some ⟨g9, 0, none⟩) q c9) _ _ rfl (own_below HC.out HAL.out) ⟨_, 0, none⟩ 1 1 [.int .i64 j] rfl rfl (cell_one_new _ _ _) (by intro u hu; simp at hu; subst hu; rfl) (by unfold maxLen; omega) (by omega) (by simp; omega) ?_; intro v' wa hown' hga hdel hblk; clear hdel hblk))
                obtain ⟨g4, d4, hv, hg4, _⟩ := own_form hown' (by omega)
                subst hv
                have hins : ints cs ++ [.int .i64 j] = ints (cs ++ [(j : Int)]) := by simp [ints]
                rw [hins] at hown'
                have HC9 := Lib.hid hown'
                have HCI9 : Hid (∀ x ∈ cs ++ [(j : Int)], 0 ≤ x ∧ x < k) := Lib.hid (fun x hx => by
                  rcases List.mem_append.1 hx with hx | hx
                  · exact HCI.out x hx
                  · simp at hx; subst hx; omega)
                have HB9 := Lib.hid ((HB.out.trans (HAL.out.mono hb7)).grown hga (by simp; omega) (fun y hy => by simp [Value.ownBlock] at hy; omega))
                clear hown' hga hins HC HB HAL
                go_wp2
                go_roundg (k - (j + 1))
                case measure => omega
                case rel => exact ⟨j + 1, q + 1, g4, d4, _, by omega, by omega, by omega, by go_num, rfl, HC9, HCI9, HB9⟩
            · have hjk2 : j = k := by omega
              clear hjk2
              by_cases hq0 : q = 0
              · subst hq0
                have HW7 := Lib.hid (grown_bel HW.out HB.out)
                have HS7 := Lib.hid ((HS.out.below HB.out).more (show 0 + 124 + 2 * i ≤ 0 + 124 + 30 by omega))
                have HO7 := Lib.hid (own_below HO.out HB.out)
                go_wp2
                go_meet
                exact ⟨m, g6, c6, ds, rfl, by omega, HO7, HS7, HW7⟩
              · have hq1 : ((q : Int) == 0) = false := by simp; omega
                have hO8 := own_below HO.out HB.out
                have hD8 := own_below HD.out HB.out
                have HW7 := Lib.hid (grown_bel HW.out HB.out)
                have HS7 := Lib.hid (HS.out.below HB.out)
                go_wp2_with fail
                refine (among_any g A n c (0 + 124 + 2 * i) g9 0 q c9 cs _ HS7.out (by omega) hn (Rd.of_own HC.out) (by omega) (by omega)).mono ?_
                rintro e w8 ⟨x, hx, rfl, hs8, hg8⟩
                have hxr := HCI.out x hx
                obtain ⟨x, rfl⟩ := Int.eq_ofNat_of_zero_le hxr.1
                have hxk : x < k := by omega
                have hx0 : (0 : Int) ≤ (x : Int) := by omega
                have hx1 : (x : Int) < (k : Int) := by omega
                have hg6b := (own_block hO8 g6 rfl)
                have hgdb := (own_block hD8 w3.heap.size rfl)
                have hzw := hg8.size
                have hO9 := own_other (g' := g) hO8 hg8 (by omega)
                have hD9 := own_other (g' := g) hD8 hg8 (by omega)
                have HS8 := Lib.hid (hs8.set (L := w3.heap.size) (i := x) (by omega) (.bool true))
                have HW8 := Lib.hid (grown_new (grown_low hg8 HW7.out) (grown_setO w8 w3.heap.size x (.bool true)) (fun y hy => by injection hy with hy; omega))
                have cD := own_bool hD9 hxk HDL.out
                have fD := hD9.frozenAt
                have S := own_bset hD9 x true
                have HD10 := Lib.hid S.1
                have HO10 := Lib.hid (own_setO (b := w3.heap.size) (j := x) (v := .bool true) hO9 hne6)
                have hz8 := HW8.out.size
                have HDL10 : Hid ((d.set x true).length = k) := Lib.hid (by rw [List.length_set]; exact HDL.out)
                clear hO8 hD8 hO9 hD9 S hs8 hg8 hx HC HCI HB HS7 HW7 HO HD HDL HS HW
                obtain ⟨w9, hw9⟩ : ∃ w9, w8.setCell ⟨w3.heap.size, x, none⟩ (.bool true) = w9 := ⟨_, rfl⟩
                have HAL : Hid (Below (w8.setCell ⟨w3.heap.size, x, none⟩ (.bool true)).heap.size (w8.setCell ⟨w3.heap.size, x, none⟩ (.bool true)) ((w8.setCell ⟨w3.heap.size, x, none⟩ (.bool true)).alloc (.cells #[.int .i64 x] 2))) := Lib.hid ((Below.refl _ _).alloc (Nat.le_refl _) _)
                have hzz : (w8.setCell ⟨w3.heap.size, x, none⟩ (.bool true)).heap.size = w8.heap.size := by simp
                rw [hzz] at hz8
                have hnews : ∀ j u, [Value.int .i64 x][j]? = some u → ((w8.setCell ⟨w3.heap.size, x, none⟩ (.bool true)).alloc (.cells #[.int .i64 x] 2)).cell? ((⟨w8.heap.size, 0, none⟩ : Addr).add j) = some u := by
                  have := cell_one_new (w8.setCell ⟨w3.heap.size, x, none⟩ (.bool true)) (.int .i64 x) 2
                  rw [hzz] at this
                  exact this
                have HNEW := Lib.hid hnews
                clear hw9 hzz hnews
                go_wp2_with (at_builtin; refine wpList_append_own_at _ rfl (.tmp 53) (.tmp 55) 32 rfl w2.heap.size 2 i6 (.int .i64 0) 1 8 Tryd.underlying32 gi gz0 gz1 gz2 rfl (by decide) (Value.slice (some ⟨g6, 0, none⟩) m c6) _ _ rfl (own_below HO10.out HAL.out) ⟨_, 0, none⟩ 1 1 [.int .i64 x] rfl rfl HNEW.out (by intro u hu; simp at hu; subst hu; rfl) (by unfold maxLen; omega) (by omega) (by simp; omega) ?_; intro v' wa hown' hga hdel hblk; clear hdel)
                obtain ⟨g4, d4, hv, hg4, _⟩ := own_form hown' (by omega)
                subst hv
                have hg4n : g4 ≠ w3.heap.size := by
                  rcases hblk with e | e
                  · simp [Value.ownBlock] at e; omega
                  · simp [Value.ownBlock] at e; omega
                have hins : ints ds ++ [.int .i64 x] = ints (ds ++ [(x : Int)]) := by simp [ints]
                rw [hins] at hown'
                have HO11 := Lib.hid hown'
                have HD11 := Lib.hid (own_other (g := w3.heap.size) (g' := g6) (own_below HD10.out HAL.out) hga (by omega))
                have HS11 : Hid (Src wa g A n c (0 + 124 + 2 * (i + 1))) := Lib.hid (((HS8.out.more (show 0 + 124 + 2 * i + 2 ≤ 0 + 124 + 2 * (i + 1) by omega)).below HAL.out).keep ((Below.refl _ _).grown hga (by simp; omega) (fun y hy => by simp [Value.ownBlock] at hy; omega)))
                have HW11 := Lib.hid (grown_new (grown_bel HW8.out HAL.out) hga (fun y hy => by simp [Value.ownBlock] at hy; omega))
                clear hown' hga hins hblk HO10 HD10 HS8 HW8 HAL HNEW cD fD
                go_wp2
                go_roundg (k - (i + 1))
                case measure => omega
                case rel => exact ⟨i + 1, m + 1, g4, d4, _, _, by omega, by omega, by omega, by go_num, rfl, hg4n, HO11, HD11, HDL10, HS11, HW11⟩
        · go_wp2
          go_meet
          exact ⟨m, g6, c6, ds, rfl, by omega, HO, Lib.hid (HS.out.more (by omega)), HW⟩
  case rest =>
  clear HS4 HW4 HO4
  obtain ⟨m, g6, c6, ds, rfl, hm15, HO, HS, HW⟩ := hcut
  obtain ⟨w4, rfl⟩ : ∃ w', w' = wc := ⟨_, rfl⟩
  have hws := HW.out.size
  have hg6 := own_block HO.out g6 rfl
  have hcap2 := (Rd.of_own HO.out).cap
  have hmax2 := (Rd.of_own HO.out).max
  have HGF := Lib.hid (fun (W : World) (h : w2.grownBy W (some g)) => (HG.out.keep h hgl).read)
  have HBF := Lib.hid (fun (W : World) (h : w2.grownBy W (some g)) => below_of_grown B2.out h hge)
  clear HG B2
  by_cases hm1 : 1 < m
  · have hm1' : (1 : Int) < (m : Int) := by omega
    go_wp2_with fail
    refine (pick_any g A n c (0 + 124 + 30) 6 _ HS.out (by omega) hn).mono ?_
    rintro e w5 ⟨r, _, rfl, hs5, hg5⟩
    have HO5 := Lib.hid (own_other (g' := g) HO.out hg5 (by omega))
    have HS5 := Lib.hid hs5
    have HW5 := Lib.hid (grown_low hg5 HW.out)
    have hws5 := HW5.out.size
    have hg65 := own_block HO5.out g6 rfl
    have hgs5 := hs5.lt
    clear hs5 hg5 HO HS HW hg6 hws
    have hdl : ds.length = m := (Rd.of_own HO5.out).ilen
    have HDL := Lib.hid hdl
    by_cases h0 : r = 0
    · subst h0
      have c0 := own_int HO5.out (i := 0) (by omega) hdl
      have c1 := own_int HO5.out (i := 1) (by omega) hdl
      have cf := HO5.out.frozenAt
      generalize ds.getD 0 0 = x0 at *
      generalize ds.getD 1 0 = x1 at *
      have S1 := own_iset HO5.out 0 x1
      have S2 := own_iset S1.1 1 x0
      have HO6 := Lib.hid S2.1
      have HW6 := Lib.hid (grown_new (grown_new HW5.out S1.2 (fun y hy => by injection hy with hy; omega)) S2.2 (fun y hy => by injection hy with hy; omega))
      clear S1 S2 hdl
      go_wp2
      go_ret2
      exact ⟨go, k, co, _, _, _, _, _, rfl, HGF.out _ HW6.out, Rd.of_own HO6.out, HBF.out _ HW6.out⟩
    have hd0 : (r == 0) = false := by simpa using h0
    by_cases h1 : r = 1
    · subst h1
      obtain ⟨b2, o2, hsl, hrd⟩ := slice_tail (Rd.of_own HO5.out) (j := 1) 1 rfl (by omega)
      have HRD := Lib.hid hrd
      clear hrd hdl
      go_wp2
      go_ret2
      exact ⟨go, k, co, _, _, _, _, _, rfl, HGF.out _ HW5.out, HRD.out, HBF.out _ HW5.out⟩
    have hd1 : (r == 1) = false := by simpa using h1
    by_cases h2 : r = 2
    · subst h2
      have HAL : Hid (Below w5.heap.size w5 (w5.alloc (.cells (ints [-1, 0, (k : Int)]).toArray 2))) := Lib.hid ((Below.refl _ _).alloc (Nat.le_refl _) _)
      have HR := Lib.hid (lit_rd w5 [-1, 0, (k : Int)] (by show 3 ≤ 1000; omega))
      go_wp2_with fail
      refine (among_any g A n c (0 + 124 + 30 + 2) w5.heap.size 0 3 3 [-1, 0, (k : Int)] _ (HS5.out.below HAL.out) (by omega) hn HR.out (by omega) (by omega)).mono ?_
      rintro e w6 ⟨z, _, rfl, hs6, hg6⟩
      have HO6 := Lib.hid (own_other (g' := g) (own_below HO5.out HAL.out) hg6 (by omega))
      have HW6 := Lib.hid (grown_low hg6 (grown_bel HW5.out HAL.out))
      have c0 := own_int HO6.out (i := 0) (by omega) hdl
      have cf := HO6.out.frozenAt
      have S1 := own_iset HO6.out 0 z
      have HO7 := Lib.hid S1.1
      have HW7 := Lib.hid (grown_new HW6.out S1.2 (fun y hy => by injection hy with hy; omega))
      clear S1 hs6 hg6 HR HAL HO5 HS5 HW5 hdl HO6 HW6
      go_wp2
      go_ret2
      exact ⟨go, k, co, _, _, _, _, _, rfl, HGF.out _ HW7.out, Rd.of_own HO7.out, HBF.out _ HW7.out⟩
    · have hd2 : (r == 2) = false := by simpa using h2
      clear hdl
      go_wp2
      go_ret2
      exact ⟨go, k, co, _, _, _, _, _, rfl, HGF.out _ HW5.out, Rd.of_own HO5.out, HBF.out _ HW5.out⟩
  · have hm1' : ¬ (1 : Int) < (m : Int) := by omega
    go_wp2
    go_ret2
    exact ⟨go, k, co, _, _, _, _, _, rfl, HGF.out _ HW.out, Rd.of_own HO.out, HBF.out _ HW.out⟩
end Go.Proofs.YtgghjieeckkpbaaDoor
