/- Two draws of blocks: DrawSameBlocks. -/
import Derived.Test.YthdbaflihgkomaaDoorDs
import Derived.Deep.RegionHeld3
namespace Go.Proofs.YthdbaflihgkomaaDoor
open Go.RowKit Go.Shelf

def TwoPost (w : World) (e : Ending) (w' : World) : Prop :=
  ∃ A n c ps B m d qs, e = .returned (.tuple #[.slice A n c, .slice B m d]) ∧ Rd w' 2 A n c (pr ps) ∧ Rd w' 2 B m d (pr qs) ∧ Below w.heap.size w w'
theorem pr_set1 (x y z : Int) (qs : List (Int × Int)) : (pr ((x, y) :: qs)).set 1 (.int .i64 z) = pr ((x, z) :: qs) := rfl

set_option maxRecDepth 100000 in
set_option maxHeartbeats 8000000 in
theorem drawSame_any (A : Option Addr) (n c : Nat) (w : World) (h : Bytes w A n c) :
    Calls Tryd.prog 22 #[.slice A n c] w (TwoPost w) := by
  obtain ⟨i0, hi, hz0, hz1, hz2⟩ := info_parts info_pr
  have hn := Nat.le_trans h.1 h.2.1
  have H := Lib.hid h
  clear h
  go_enter Tryd.func22, Tryd.ntmps22
  go_wp2_with fail
  refine (l00From_any A n c _ H.out).mono ?_
  rintro e w1 ⟨g, rfl, hs, hge, hb1⟩
  have S1 := Lib.hid hs
  have B1 := Lib.hid hb1
  have hgl := hs.lt
  clear hs hb1
  go_wp2_with fail
  refine (l11Draw_any g A n c 0 _ S1.out (by omega) hn).mono ?_
  rintro e w2 ⟨go, k, co, ps, roll, rfl, hk, hO, hD, hS, hW⟩
  have B2 := Lib.hid (below_of_grown B1.out hW hge)
  have hs2 := hW.size
  have hgo := own_block hO go rfl
  have hcap := (Rd.of_own hO).cap
  have hmax := (Rd.of_own hO).max
  have hpl : ps.length = k := (Rd.of_own hO).plen
  have hgl2 := hS.lt
  have hal : Below w2.heap.size w2 (w2.alloc (.cells #[] 49)) := (Below.refl _ _).alloc (Nat.le_refl _) _
  have HO0 := Lib.hid (show (w2.alloc (.cells #[] 49)).ownsRow w2.heap.size 49 2 (.slice (some ⟨w2.heap.size, 0, none⟩) 0 0) 0 [] from World.ownsRow_made w2 #[] 0 (Nat.le_refl _) (by unfold maxLen; omega) rfl)
  have HN := Lib.hid ((Rd.of_own hO).below hal).news
  have HO := Lib.hid (own_below hO hal)
  have HS := Lib.hid (hS.below hal)
  have HW := Lib.hid (grown_bel (World.grownBy.refl w2 (some g)) hal)
  have HD := Lib.hid hD
  have HO2 := Lib.hid hO
  have HPL := Lib.hid hpl
  clear hO hS hW hal hD hpl B1 S1
  go_upto_region 4 with (at_builtin; refine wpList_append_own _ rfl (.tmp 15) (.tmp 16) 25 rfl w2.heap.size 49 i0 (.agg #[.int .i64 0, .int .i64 0]) 2 16 Tryd.underlying25 hi hz0 hz1 hz2 rfl (by decide) (Value.slice (some ⟨w2.heap.size, 0, none⟩) 0 0) 0 [] rfl HO0.out ⟨go, 0, none⟩ k co (pr ps) rfl (by rw [pr_len, HPL.out]) HN.out (pr_one ps) (by unfold maxLen; omega) (by omega) (by simp) ?_; intro v' wa hown' hga hdel; clear hdel; rw [List.nil_append, Nat.zero_add] at hown'; obtain ⟨O, oc, hv⟩ := own_shape hown'; subst hv)
  have hoc := (Rd.of_own hown').cap
  have hom := (Rd.of_own hown').max
  have HA3 := Lib.hid hown'
  have HO3 := Lib.hid (own_other (g' := w2.heap.size) HO.out hga (by omega))
  have HS3 := Lib.hid (HS.out.keep ((Below.refl _ _).grown hga (by simp; omega) (fun y hy => by simp [Value.ownBlock] at hy; omega)))
  have HW3 := Lib.hid (grown_own HW.out hga (Nat.le_refl _))
  clear hown' hga HO0 HN HO HS HW
  go_cut [24] from 18 to 24 (fun v wx => ∃ b : Bool, v = .bool b ∧ (b = true → 0 < k) ∧ Hid (wx.ownsRow w2.heap.size 49 2 (.slice O k oc) k (pr ps)) ∧ Hid (Src wx g A n c 102) ∧ Hid (w2.grownBy wx (some g)))
  case first =>
    by_cases hk0 : k = 0
    · subst hk0
      go_wp2
      go_meet
      exact ⟨false, rfl, (fun h => by cases h), HA3, Lib.hid (HS3.out.more (by omega)), HW3⟩
    · have hk1 : (0 : Int) < (k : Int) := by omega
      go_wp2_with fail
      refine (one_any g A n c (0 + 100) 2 _ HS3.out (by omega) hn).mono ?_
      rintro e w4 ⟨b, rfl, hs4, hg4⟩
      go_wp2
      go_meet
      have hne : ∀ y, (Value.slice O k oc).ownBlock = some y → y ≠ g := fun y hy => by have := own_block HA3.out y hy; omega
      exact ⟨b, rfl, (fun _ => by omega), Lib.hid (HA3.out.kept hg4 (by
        cases hob : (Value.slice O k oc).ownBlock with
        | none => exact .inl rfl
        | some y => exact .inr (by simpa using hne y hob))), Lib.hid (hs4.more (by omega)), Lib.hid (World.grownBy.trans HW3.out hg4)⟩
  case rest =>
  clear HA3 HS3 HW3
  obtain ⟨b, rfl, hb0, HA, HS, HW⟩ := hcut
  obtain ⟨w4, rfl⟩ : ∃ w', w' = wc := ⟨_, rfl⟩
  go_upto_if 24 with fail
  go_cut [7] from 25 to 33 (fun v wx => ∃ qs, v = .slice O k oc ∧ Hid (wx.ownsRow w2.heap.size 49 2 (.slice O k oc) k (pr qs)) ∧ Hid (Src wx g A n c 104) ∧ Hid (w2.grownBy wx (some g)))
  case first =>
    cases b with
    | false =>
      go_wp2
      go_meet
      exact ⟨ps, rfl, HA, Lib.hid (HS.out.more (by omega)), HW⟩
    | true =>
      have hk0 := hb0 rfl
      have hk1 : (0 : Int) < (k : Int) := by omega
      obtain ⟨gb, cb, hv, hgb1, hgb2⟩ := own_form HA.out hk0
      injection hv with hv1 _ hv2
      subst hv1
      subst hv2
      obtain ⟨⟨x, y⟩, qs, hps⟩ : ∃ p qs, ps = p :: qs := by
        cases ps with
        | nil => exfalso; have := HPL.out; simp at this; omega
        | cons p qs => exact ⟨p, qs, rfl⟩
      subst hps
      have hby := (HD.out (x, y) (by simp)).b
      simp only at hby
      have c1 : w4.cell? ⟨gb, 1, none⟩ = some (.int .i64 y) := by rw [HA.out.cellAt 1 (by omega)]; rfl
      have f1 : w4.frozen? ⟨gb, 1, none⟩ = false := HA.out.frozenAt 1
      have hgs := HS.out.lt
      have hgw := HW.out.size
      clear hb0
      go_wp2
      go_region_with (go_at_call 51; refine (pick_any g A n c 102 2 _ (by first | exact HS.out | exact HS.out.below (Below.refl _ _).drew) (by omega) hn).mono ?_; rintro e w5 ⟨r, ⟨q0, q1, _⟩, rfl, hs5, hg5⟩; have q1 := q1 (by omega); have hg5 : w4.grownBy w5 (some g) := (by first | exact hg5 | exact ⟨hg5.os, hg5.tape, hg5.output, hg5.size, hg5.block⟩); have c5 : w5.cell? ⟨gb, 1, none⟩ = some (.int .i64 y) := cell_other c1 hg5 (by omega); have f5 : w5.frozen? ⟨gb, 1, none⟩ = false := (own_other (g' := g) HA.out hg5 (by omega)).frozenAt 1)
      all_goals
        have O5 := own_other (g' := g) HA.out hg5 (by omega)
        have S9 := O5.stored 1 (.int .i64 (IntKind.i64.wrap (y + r)))
        rw [pr_set1] at S9
        have hsr := hs5.set (L := gb) (i := 1) (by omega) (.int .i64 (IntKind.i64.wrap (y + r)))
        have hgr := grown_own (World.grownBy.trans HW.out hg5) S9.2 hgb1
        have H9 := Lib.hid S9.1
        have H10 := Lib.hid (hsr.more (show 102 + 2 ≤ 104 by omega))
        have H11 := Lib.hid hgr
        clear O5 S9 hsr hgr
        go_wp2
        go_meet
        exact ⟨_, rfl, H9, H10, H11⟩
  case rest =>
  clear HA HS HW hb0 HD HPL
  obtain ⟨qs, rfl, HA, HS, HW⟩ := hcut
  obtain ⟨w5, rfl⟩ : ∃ w', w' = wc := ⟨_, rfl⟩
  have hql : qs.length = k := (Rd.of_own HA.out).plen
  go_wp2_with fail
  refine (one_any g A n c 104 5 _ HS.out (by omega) hn).mono ?_
  rintro e w6 ⟨b, rfl, hs6, hg6⟩
  have hne : ∀ y, (Value.slice O k oc).ownBlock = some y → y ≠ g := fun y hy => by have := own_block HA.out y hy; omega
  have HA6 := Lib.hid (HA.out.kept hg6 (by
    cases hob : (Value.slice O k oc).ownBlock with
    | none => exact .inl rfl
    | some y => exact .inr (by simpa using hne y hob)))
  have HW6 := Lib.hid (World.grownBy.trans HW.out hg6)
  have hz6 := HW6.out.size
  clear hs6 hg6 HA HS HW hne
  cases b with
  | false =>
    go_wp2
    go_ret2
    exact ⟨_, _, _, _, _, _, _, _, rfl, (Rd.of_own HO2.out).other HW6.out (fun _ => by omega), Rd.of_own HA6.out, below_of_grown B2.out HW6.out hge⟩
  | true =>
    have hrow : ∀ y, (Value.slice O k oc).ownBlock = some y → w2.heap.size ≤ y := fun y hy => (own_block HA6.out y hy).1
    go_wp2_with (at_builtin; refine wpList_append_own_at _ rfl (.tmp 36) (.tmp 38) 25 rfl w2.heap.size 49 i0 (.agg #[.int .i64 0, .int .i64 0]) 2 16 Tryd.underlying25 hi hz0 hz1 hz2 rfl (by decide) (Value.slice O k oc) _ _ rfl (HA6.out.alloc _) ⟨_, 0, none⟩ 1 1 [.int .i64 0, .int .i64 0] rfl rfl (cells_two_new _ _ _ _) (by intro u hu; simp at hu; rcases hu with rfl | rfl <;> rfl) (by unfold maxLen; omega) (by omega) (by simp; omega) ?_; intro v' wa hown' hga hdel hblk; clear hdel hblk; obtain ⟨g7, d7, hv, hg7, _⟩ := own_form hown' (by omega); subst hv)
    have hal : Below w6.heap.size w6 (w6.alloc (.cells #[.int .i64 0, .int .i64 0] 49)) := (Below.refl _ _).alloc (Nat.le_refl _) _
    have HW7 := Lib.hid (grown_new (grown_bel HW6.out hal) hga hrow)
    rw [pr_snoc] at hown'
    have HA7 := Lib.hid hown'
    clear hown' hga hal HA6 HW6 hrow
    go_wp2
    go_ret2
    exact ⟨_, _, _, _, _, _, _, _, rfl, (Rd.of_own HO2.out).other HW7.out (fun _ => by omega), Rd.of_own HA7.out, below_of_grown B2.out HW7.out hge⟩
end Go.Proofs.YthdbaflihgkomaaDoor
