/- Drawn blocks, the width of a roll, and rows: l11Both, DrawPlacesOnRoll. -/
import Derived.Test.YthdbaflihgkomaaDoorDs
import Derived.Test.YthdbaflihgkomaaDoorMd
namespace Go.Proofs.YthdbaflihgkomaaDoor
open Go.RowKit Go.Shelf

theorem tallZ_code (ps : List (Int × Int)) (roll : Int) : (tallZ ps roll).2 = 0 ∨ ((tallZ ps roll).2 != 0) = true := by
  unfold tallZ
  split
  · exact .inl rfl
  · exact .inr rfl
def BothPost (w : World) (e : Ending) (w' : World) : Prop :=
  ∃ g n c ps roll B m d rs, e = .returned (.tuple #[.slice (some ⟨g, 0, none⟩) n c, .int .i64 roll, .slice B m d]) ∧ Rd w' 2 (some ⟨g, 0, none⟩) n c (pr ps) ∧ Rd w' 1 B m d (ints rs) ∧ Below w.heap.size w w'

set_option maxRecDepth 100000 in
set_option maxHeartbeats 8000000 in
theorem l11Both_any (A : Option Addr) (n c : Nat) (w : World) (h : Bytes w A n c) :
    Calls Tryd.prog 34 #[.slice A n c] w (BothPost w) := by
  obtain ⟨i6, gi, gz0, gz1, gz2⟩ := info_parts info_i64r
  have hn := Nat.le_trans h.1 h.2.1
  have H := Lib.hid h
  clear h
  go_enter Tryd.func34, Tryd.ntmps34
  go_wp2_with fail
  refine (l00From_any A n c _ H.out).mono ?_
  rintro e w1 ⟨g, rfl, hs, hge, hb1⟩
  have S1 := Lib.hid hs
  have B1 := Lib.hid hb1
  have hgl := hs.lt
  clear hs hb1
  go_wp2_with fail
  refine (l11Draw_any g A n c 0 _ S1.out (by omega) hn).mono ?_
  rintro e w2 ⟨go, k, co, ps, roll, rfl, hk, hO, hD, hS, hW⟩
  have HO := Lib.hid hO
  have S2 := Lib.hid hS
  have B2 := Lib.hid (below_of_grown B1.out hW hge)
  have hs2 := hW.size
  have hgo := own_block hO go rfl
  have hcap := (Rd.of_own hO).cap
  have hmax := (Rd.of_own hO).max
  have hgl2 := hS.lt
  clear hO hS hW B1 S1 hD
  go_wp2_with fail
  refine (specTallRows_any go 0 k co ps roll _ (Rd.of_own HO.out)).mono ?_
  have hTl := tall_len ps roll
  have hTz := tallZ_code ps roll
  have hpl : ps.length = k := (Rd.of_own HO.out).plen
  generalize tallZ ps roll = TZ at *
  obtain ⟨T, z⟩ := TZ
  simp only at hTl hTz
  rintro e w3 ⟨A3, n3, c3, rfl, ho3, hb3⟩
  have hn3 : T.length = n3 := (Rd.of_own ho3).ilen
  have O3 := Lib.hid ho3
  have S3 := Lib.hid (S2.out.below hb3)
  have W3 := Lib.hid (grown_bel (World.grownBy.refl w2 (some g)) hb3)
  have hs3 := hb3.size
  clear ho3 hb3 S2
  go_upto_region 4 with fail
  go_cut [29] from 24 to 29 (fun v wx => ∃ b : Bool, v = .bool b ∧ Hid (wx.ownsRow w2.heap.size 2 1 (.slice A3 n3 c3) n3 (ints T)) ∧ Hid (Src wx g A n c 102) ∧ Hid (w2.grownBy wx (some g)))
  case first =>
    rcases hTz with hz | hz
    · subst hz
      go_wp2_with fail
      refine (one_any g A n c (0 + 100) 4 _ S3.out (by omega) hn).mono ?_
      rintro e w4 ⟨b, rfl, hs4, hg4⟩
      go_wp2
      go_meet
      have hne : ∀ y, (Value.slice A3 n3 c3).ownBlock = some y → y ≠ g := fun y hy => by have := own_block O3.out y hy; omega
      exact ⟨b, rfl, Lib.hid (O3.out.kept hg4 (by
        cases hob : (Value.slice A3 n3 c3).ownBlock with
        | none => exact .inl rfl
        | some y => exact .inr (by simpa using hne y hob))), Lib.hid (hs4.more (by omega)), Lib.hid (World.grownBy.trans W3.out hg4)⟩
    · go_wp2
      go_meet
      exact ⟨true, rfl, O3, Lib.hid (S3.out.more (by omega)), W3⟩
  case rest =>
  clear O3 S3 W3 hTz
  obtain ⟨b, rfl, O3, S3, W3⟩ := hcut
  obtain ⟨w4, rfl⟩ : ∃ w', w' = wc := ⟨_, rfl⟩
  go_upto_if 29 with fail
  go_cut [8, 10] from 30 to 41 (fun v _ wx => ∃ Ar nr cr rs, v = .slice Ar nr cr ∧ nr ≤ 11 ∧ Hid (wx.ownsRow w2.heap.size 2 1 (.slice Ar nr cr) nr (ints rs)) ∧ Hid (Src wx g A n c 130) ∧ Hid (w2.grownBy wx (some g)))
  case first =>
    cases b with
    | false =>
      go_wp2
      go_meet
      exact ⟨A3, n3, c3, T, rfl, by omega, O3, Lib.hid (S3.out.more (by omega)), W3⟩
    | true =>
      have hz4 := W3.out.size
      have O4 := Lib.hid (show (w4.alloc (.cells #[] 2)).ownsRow w2.heap.size 2 1 (.slice (some ⟨w4.heap.size, 0, none⟩) 0 0) 0 (ints []) from World.ownsRow_made w4 #[] 0 hz4 (by unfold maxLen; omega) rfl)
      have S4 := Lib.hid (S3.out.alloc (.cells #[] 2))
      have W4 := Lib.hid (grown_alloc W3.out (.cells #[] 2))
      clear O3 S3 W3
      go_wp2_with fail
      go_loopw [8, 10] (fun vr vi wr => ∃ (i gr cr : Nat) (rs : List Int), i ≤ k ∧ vi = .int .i64 i ∧ vr = .slice (some ⟨gr, 0, none⟩) i cr ∧ Hid (wr.ownsRow w2.heap.size 2 1 (.slice (some ⟨gr, 0, none⟩) i cr) i (ints rs)) ∧ Hid (Src wr g A n c (102 + 2 * i)) ∧ Hid (w2.grownBy wr (some g))) (fun _ vi _ => k - (intOf vi).toNat)
      case atStart => exact ⟨0, _, _, [], Nat.zero_le _, rfl, rfl, O4, S4, W4⟩
      case round =>
        clear O4 S4 W4
        obtain ⟨i, gr, cr, rs, hik, rfl, rfl, O, S, W⟩ := hrel
        obtain ⟨w5, rfl⟩ : ∃ w', w' = wr := ⟨_, rfl⟩
        have hgr := own_block O.out gr rfl
        have hrc := (Rd.of_own O.out).cap
        have hrm := (Rd.of_own O.out).max
        by_cases hlt : i < k
        · have hi1 : (i : Int) < (k : Int) := by omega
          go_wp2_with fail
          refine (pick_any g A n c (102 + 2 * i) 4 _ S.out (by omega) hn).mono ?_
          rintro e w6 ⟨r, _, rfl, hs, hg⟩
          have O6 := Lib.hid (own_other (g' := g) O.out hg (by omega))
          have W6 := Lib.hid (World.grownBy.trans W.out hg)
          have S6 := Lib.hid hs
          have hz6 := hg.size
          have hgl6 := hs.lt
          clear hs hg O S W
          go_wp2_with (at_builtin; refine wpList_append_own_at _ rfl (.tmp 37) (.tmp 40) 31 rfl w2.heap.size 2 i6 (.int .i64 0) 1 8 Tryd.underlying31 gi gz0 gz1 gz2 rfl (by decide) (Value.slice (some ⟨gr, 0, none⟩) i cr) _ _ rfl (O6.out.alloc _) ⟨_, 0, none⟩ 1 1 [.int .i64 r] rfl rfl (cell_one_new _ _ _) (by intro u hu; simp at hu; subst hu; rfl) (by unfold maxLen; omega) (by omega) (by simp; omega) ?_; intro v' wa hown' hga hdel hblk; clear hdel hblk)
          have hal : Below w6.heap.size w6 (w6.alloc (.cells #[.int .i64 r] 2)) := (Below.refl _ _).alloc (Nat.le_refl _) _
          obtain ⟨g7, d7, hv, hg7, _⟩ := own_form hown' (by omega)
          have hsn : ints rs ++ [.int .i64 r] = ints (rs ++ [r]) := by simp [ints]
          rw [hsn] at hown'
          have W7 : w2.grownBy wa (some g) := grown_own (b := gr) (grown_bel W6.out hal) hga (by omega)
          have S7 : Src wa g A n c (102 + 2 * (i + 1)) := ((S6.out.below hal).keep ((Below.refl _ _).grown hga (by simp; omega) (fun y hy => by simp [Value.ownBlock] at hy; omega))).more (by omega)
          subst hv
          have HO7 := Lib.hid hown'
          have HS7 := Lib.hid S7
          have HW7 := Lib.hid W7
          clear hown' hga hal hsn W7 S7
          go_wp2
          go_roundw
          case rel => exact ⟨i + 1, g7, d7, _, by omega, by go_num, rfl, HO7, HS7, HW7⟩
          case measure => simp [intOf]; omega
        · have hik2 : i = k := by omega
          subst hik2
          go_wp2
          go_meet
          exact ⟨_, _, _, rs, rfl, by omega, O, Lib.hid (S.out.more (by omega)), W⟩
  case rest =>
  clear O3 S3 W3
  obtain ⟨Ar, nr, cr, rs, rfl, hnr, O5, S5, W5⟩ := hcut
  obtain ⟨w5, rfl⟩ : ∃ w', w' = wc := ⟨_, rfl⟩
  have hrl : rs.length = nr := (Rd.of_own O5.out).ilen
  have hrc := (Rd.of_own O5.out).cap
  have hrm := (Rd.of_own O5.out).max
  have HL5 := Lib.hid (own_other (g' := g) HO.out W5.out (by omega))
  have hz5 := W5.out.size
  clear HO
  by_cases h0 : nr = 0
  · subst h0
    go_wp2
    go_ret3
    exact ⟨go, k, co, ps, roll, Ar, 0, cr, rs, rfl, Rd.of_own HL5.out, Rd.of_own O5.out, below_of_grown B2.out W5.out hge⟩
  · obtain ⟨gr, cr', hv, hgr1, hgr2⟩ := own_form O5.out (by omega)
    injection hv with hv1 _ hv2
    subst hv1
    subst hv2
    have hnp : (0 : Int) < (nr : Int) := by omega
    go_wp2_with fail
    refine (pick_any g A n c 130 10 _ S5.out (by omega) hn).mono ?_
    rintro e w6 ⟨r, ⟨pr0, pr1, _⟩, rfl, hs, hg⟩
    have O6 := Lib.hid (own_other (g' := g) O5.out hg (by omega))
    have HL6 := Lib.hid (own_other (g' := g) HL5.out hg (by omega))
    have W6 := Lib.hid (World.grownBy.trans W5.out hg)
    have S6 := Lib.hid hs
    have hz6 := hg.size
    have hgl6 := hs.lt
    clear hs hg O5 HL5 W5 S5 pr1
    by_cases e0 : r = 0
    · subst e0
      have HR := Lib.hid (lit_rd w6 [-1, 0, 8, 9, 9223372036854775807] (by decide))
      have S7 := Lib.hid (S6.out.alloc (.cells (ints [-1, 0, 8, 9, 9223372036854775807]).toArray 2))
      have W7 := Lib.hid (grown_alloc W6.out (.cells (ints [-1, 0, 8, 9, 9223372036854775807]).toArray 2))
      have O7 := Lib.hid (O6.out.alloc (.cells (ints [-1, 0, 8, 9, 9223372036854775807]).toArray 2))
      have HL7 := Lib.hid (HL6.out.alloc (.cells (ints [-1, 0, 8, 9, 9223372036854775807]).toArray 2))
      clear S6 W6 O6 HL6
      go_wp2_with fail
      refine (among_any g A n c (130 + 2) w6.heap.size 0 5 5 [-1, 0, 8, 9, 9223372036854775807] _ S7.out (by omega) hn HR.out (by omega) (by omega)).mono ?_
      rintro e w8 ⟨x, hx, rfl, hs, hg⟩
      have O8 := own_other (g' := g) O7.out hg (by omega)
      have HL8 := own_other (g' := g) HL7.out hg (by omega)
      have W8 := World.grownBy.trans W7.out hg
      have f8 : w8.frozen? ⟨gr, 0, none⟩ = false := O8.frozenAt 0
      have c8 := own_int O8 (i := 0) (by omega) hrl
      have O9 := own_iset O8 0 x
      have HL9 := own_other (g' := gr) HL8 O9.2 (by omega)
      have W9 := grown_own W8 O9.2 (by omega)
      have HO9 := Lib.hid O9.1
      have HHL9 := Lib.hid HL9
      have HW9 := Lib.hid W9
      clear hs hg O8 HL8 W8 O9 HL9 W9 S7 W7 O7 HL7 HR hx
      go_wp2
      go_ret3
      exact ⟨go, k, co, ps, roll, _, _, _, _, rfl, Rd.of_own HHL9.out, Rd.of_own HO9.out, below_of_grown B2.out HW9.out hge⟩
    · by_cases e1 : r = 1
      · subst e1
        obtain ⟨b2, o2, hsl, hrd⟩ := slice_tail (Rd.of_own O6.out) (j := 1) 1 (by simp) (by omega)
        have HRD := Lib.hid hrd
        clear hrd O6
        go_wp2
        go_ret3
        exact ⟨go, k, co, ps, roll, _, _, _, _, rfl, Rd.of_own HL6.out, HRD.out, below_of_grown B2.out W6.out hge⟩
      · have g0 : (r == 0) = false := by simpa using e0
        have g1 : (r == 1) = false := by simpa using e1
        clear e0 e1
        go_wp2
        go_ret3
        exact ⟨go, k, co, ps, roll, _, _, _, rs, rfl, Rd.of_own HL6.out, Rd.of_own O6.out, below_of_grown B2.out W6.out hge⟩

set_option maxHeartbeats 1000000 in
theorem drawPlaces_any (A : Option Addr) (n c : Nat) (w : World) (h : Bytes w A n c) :
    Calls Tryd.prog 11 #[.slice A n c] w (BothPost w) := by
  have H := Lib.hid h
  clear h
  go_enter Tryd.func11, Tryd.ntmps11
  go_wp2_with fail
  refine (l11Both_any A n c _ H.out).mono ?_
  rintro e w1 ⟨g, k, co, ps, roll, B, m, d, rs, rfl, h1, h2, hb⟩
  have H1 := Lib.hid h1
  have H2 := Lib.hid h2
  have HB := Lib.hid hb
  clear h1 h2 hb
  go_wp2
  go_ret3
  exact ⟨g, k, co, ps, roll, B, m, d, rs, rfl, H1.out, H2.out, HB.out⟩
end Go.Proofs.YthdbaflihgkomaaDoor
