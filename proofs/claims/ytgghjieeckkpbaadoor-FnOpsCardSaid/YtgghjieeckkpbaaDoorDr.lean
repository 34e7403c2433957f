/- Drawn operations: DrawOrderOfOps, DrawAllBefore, DrawOpText, DrawSameOps. -/
import Derived.Test.YtgghjieeckkpbaaDoorDp
import Derived.Test.YtgghjieeckkpbaaDoorIns
import Derived.Deep.RegionHeld3
import Derived.Deep.AppendLies
namespace Go.Proofs.YtgghjieeckkpbaaDoor
open Go.RowKit Go.Shelf

/-- Drawn operations, read. -/
def OpsPost (w : World) (e : Ending) (w' : World) : Prop := ∃ go k co ops, e = .returned (.slice (some ⟨go, 0, none⟩) k co) ∧ k ≤ 15 ∧ RdO w' (some ⟨go, 0, none⟩) k co ops ∧ Below w.heap.size w w'
theorem below_of_grown {w w1 w2 : World} {g : Nat} (hb : Below w.heap.size w w1) (hg : w1.grownBy w2 (some g)) (hge : w.heap.size ≤ g) : Below w.heap.size w w2 := hb.grown hg hb.size (fun y hy => by injection hy with hy; omega)

set_option maxRecDepth 100000 in
set_option maxHeartbeats 1000000 in
theorem drawOrder_any (A : Option Addr) (n c : Nat) (w : World) (h : Bytes w A n c) :
    Calls Tryd.prog 11 #[.slice A n c] w (OpsPost w) := by
  have hn := Nat.le_trans h.1 h.2.1
  have H := Lib.hid h
  clear h
  go_enter Tryd.func11, Tryd.ntmps11
  go_wp2_with fail
  refine (l00From_any A n c _ H.out).mono ?_
  rintro e w1 ⟨g, rfl, hs, hge, hb1⟩
  have S1 := Lib.hid hs
  have B1 := Lib.hid hb1
  clear hs hb1
  go_wp2_with fail
  refine (l13Bent_any g A n c 0 _ S1.out (by omega) hn).mono ?_
  rintro e w2 ⟨go, k, co, L, rfl, hk, hG, _, _, hW⟩
  have HG := Lib.hid hG
  have HB := Lib.hid (below_of_grown B1.out hW hge)
  clear hG hW
  go_wp2
  go_ret
  exact ⟨go, k, co, _, rfl, hk, HG.out.read, HB.out⟩

/-- Drawn operations and a number. -/
def NumPost (w : World) (e : Ending) (w' : World) : Prop := ∃ go k co ops z, e = .returned (.tuple #[.slice (some ⟨go, 0, none⟩) k co, .int .i64 z]) ∧ k ≤ 15 ∧ RdO w' (some ⟨go, 0, none⟩) k co ops ∧ Below w.heap.size w w'
set_option maxRecDepth 100000 in
set_option maxHeartbeats 1000000 in
theorem drawAll_any (A : Option Addr) (n c : Nat) (w : World) (h : Bytes w A n c) :
    Calls Tryd.prog 19 #[.slice A n c] w (NumPost w) := by
  have hn := Nat.le_trans h.1 h.2.1
  have H := Lib.hid h
  clear h
  go_enter Tryd.func19, Tryd.ntmps19
  go_wp2_with fail
  refine (l00From_any A n c _ H.out).mono ?_
  rintro e w1 ⟨g, rfl, hs, hge, hb1⟩
  have S1 := Lib.hid hs
  have B1 := Lib.hid hb1
  have hgl := hs.lt
  clear hs hb1
  go_wp2_with fail
  refine (l13Bent_any g A n c 0 _ S1.out (by omega) hn).mono ?_
  rintro e w2 ⟨go, k, co, L, rfl, hk, hG, _, hS, hW⟩
  have HG := Lib.hid hG
  have S2 := Lib.hid hS
  have HB := Lib.hid (below_of_grown B1.out hW hge)
  clear hG hW hS B1 S1
  go_wp2_with fail
  refine (pick_any g A n c (0 + 124) _ _ S2.out (by omega) hn).mono ?_
  rintro e w3 ⟨r1, ⟨hr1, hr2, _⟩, rfl, hs, hg⟩
  have HG3 := Lib.hid (HG.out.keep hg hgl)
  have S3 := Lib.hid hs
  have HB3 := Lib.hid (below_of_grown HB.out (World.grownBy.trans ⟨hg.os, hg.tape, hg.output, hg.size, hg.block⟩ (World.grownBy.refl _ _)) hge)
  have hr3 := hr2 (by omega)
  clear hs hg HG S2 HB hr2
  go_wp2_with fail
  refine (pick_any g A n c (0 + 124 + 2) 16 _ S3.out (by omega) hn).mono ?_
  rintro e w4 ⟨r4, ⟨hr4, hr5, _⟩, rfl, hs, hg⟩
  have HG4 := Lib.hid (HG3.out.keep hg hgl)
  have hr6 := hr5 (by omega)
  have HB4 := Lib.hid (below_of_grown HB3.out hg hge)
  clear hs hg HG3 S3 HB3 hr5
  have hq : 0 ≤ r4 / 15 ∧ r4 / 15 ≤ 1 := by omega
  go_wp2
  go_ret2
  exact ⟨go, k, co, _, _, rfl, hk, HG4.out.read, HB4.out⟩
set_option maxHeartbeats 1000000 in
theorem drawText_any (A : Option Addr) (n c : Nat) (w : World) (h : Bytes w A n c) :
    Calls Tryd.prog 23 #[.slice A n c] w (NumPost w) := by
  have H := Lib.hid h
  clear h
  go_enter Tryd.func23, Tryd.ntmps23
  go_wp2_with fail
  refine (drawAll_any A n c _ H.out).mono ?_
  rintro e w1 ⟨go, k, co, ops, z, rfl, hk, hr, hb⟩
  have HR := Lib.hid hr
  have HB := Lib.hid hb
  clear hr hb
  go_wp2
  go_ret2
  exact ⟨go, k, co, ops, z, rfl, hk, HR.out, HB.out⟩
/-- Two draws of operations. -/
def TwoPost (w : World) (e : Ending) (w' : World) : Prop := ∃ go k co ops gb m cb opb, e = .returned (.tuple #[.slice (some ⟨go, 0, none⟩) k co, .slice (some ⟨gb, 0, none⟩) m cb]) ∧ RdO w' (some ⟨go, 0, none⟩) k co ops ∧ RdO w' (some ⟨gb, 0, none⟩) m cb opb ∧ Below w.heap.size w w'

set_option maxRecDepth 100000 in
set_option maxHeartbeats 6000000 in
theorem drawSame_any (A : Option Addr) (n c : Nat) (w : World) (h : Bytes w A n c) :
    Calls Tryd.prog 22 #[.slice A n c] w (TwoPost w) := by
  obtain ⟨i6, gi, gz0, gz1, gz2⟩ := info_parts info_i64r
  obtain ⟨i0, hi, hz0, hz1, hz2⟩ := info_parts info_op
  have hn := Nat.le_trans h.1 h.2.1
  have H := Lib.hid h
  clear h
  go_enter Tryd.func22, Tryd.ntmps22
  go_wp2_with fail
  refine (l00From_any A n c _ H.out).mono ?_
  rintro e w1 ⟨g, rfl, hs, hge, hb1⟩
  have S1 := Lib.hid hs
  have B1 := Lib.hid hb1
  have hgl := hs.lt
  clear hs hb1
  go_wp2_with fail
  refine (l13Draw_any g A n c 0 _ S1.out (by omega) hn).mono ?_
  rintro e w2 ⟨go, k, co, L, rfl, hk, hG, hF, hS, hW⟩
  have HG := Lib.hid hG
  have HF := Lib.hid hF
  have HS2 := Lib.hid hS
  have B2 := Lib.hid (below_of_grown B1.out hW hge)
  have hs2 := hW.size
  have hbs := B1.out.size
  have hcap := (Rd.of_own hG.own).cap
  have hmax := (Rd.of_own hG.own).max
  clear hG hS hW hF B1 S1
  have hO0 := GO.nil w2 w2.heap.size (Nat.le_refl _)
  have HO0 := Lib.hid hO0
  have HS3 := Lib.hid (HS2.out.alloc (.cells #[] 53))
  have HW3 := Lib.hid (grown_alloc (World.grownBy.refl w2 (some g)) (.cells #[] 53))
  clear HS2 hO0
  go_wp2
  go_loopg [6, 7] k (fun gg v6 v7 wr => ∃ (i gb cb : Nat) (M : List (OpV × Value)), i ≤ k ∧ k - i ≤ gg ∧ v7 = .int .i64 i ∧ v6 = .slice (some ⟨gb, 0, none⟩) i cb ∧ Hid (GO wr w2.heap.size gb i cb M) ∧ Hid (∀ q ∈ M, q.1.bf.length ≤ 7) ∧ Hid (Src wr g A n c (0 + 114)) ∧ Hid (w2.grownBy wr (some g)))
  case atStart => exact ⟨0, _, _, [], Nat.zero_le _, by omega, rfl, rfl, HO0, Lib.hid (by simp), HS3, HW3⟩
  case round =>
    clear HO0 HS3 HW3
    obtain ⟨i, gb, cb, M, hik, hgg, rfl, rfl, HM, HFM, HS, HW⟩ := hrel
    have hcap2 := (Rd.of_own HM.out.own).cap
    have hmax2 := (Rd.of_own HM.out.own).max
    have hws := HW.out.size
    have hgb := own_block HM.out.own gb rfl
    by_cases hlt : i < k
    · have hi0' : (0 : Int) ≤ (i : Int) := by omega
      have hi1' : (i : Int) < (k : Int) := by omega
      have HGr := Lib.hid (HG.out.keep HW.out hgl)
      obtain ⟨p, V, hL⟩ : ∃ p V, L[i]? = some (p, V) := ⟨_, _, List.getElem?_eq_getElem (by have := HG.out.len; omega)⟩
      have hmem := List.mem_of_getElem? hL
      have hn7 := HF.out.1 _ hmem
      have hnn := HF.out.2 _ hmem
      have hsz := HG.out.sz _ hmem
      simp only at hn7 hnn hsz
      have hgo := own_block HG.out.own go rfl
      obtain ⟨e0, e1, e2⟩ := opc_at hL
      have c0 : wr.cell? ⟨go, i * 3, none⟩ = some (.string p.nm) := by rw [HGr.out.own.cellAt (i * 3) (by omega)]; exact e0
      have c1 : wr.cell? ⟨go, i * 3 + 1, none⟩ = some (.int .i64 p.mn) := by rw [HGr.out.own.cellAt (i * 3 + 1) (by omega)]; exact e1
      have c2 : wr.cell? ⟨go, i * 3 + 2, none⟩ = some V := by rw [HGr.out.own.cellAt (i * 3 + 2) (by omega)]; exact e2
      have hnest := (HGr.out.nest i p V hL).1
      obtain ⟨bV, cV, hVe, _, _⟩ : ∃ b c, V = .slice (some ⟨b, 0, none⟩) p.bf.length c ∧ w2.heap.size ≤ w2.heap.size ∧ True := by
        rcases hnest.2 with ⟨h', h0⟩ | ⟨b, cap, cur, h', _⟩
        · rw [h'] at hnn; exact absurd rfl hnn
        · exact ⟨b, cap, h', Nat.le_refl _, trivial⟩
      subst hVe
      have hRV := Rd.of_own hnest
      have HRV := Lib.hid hRV
      have hv1 := hRV.cap
      have hv2 := hRV.max
      have HTOP := Lib.hid HM.out.top
      generalize hbf : p.bf = bf at *
      generalize hnm : p.nm = nm at *
      generalize hmn : p.mn = mn at *
      obtain ⟨m, hm⟩ : ∃ m, bf.length = m := ⟨_, rfl⟩
      rw [hm] at c2 hn7 hv1
      have HRV2 : Hid (Rd wr 1 (some ⟨bV, 0, none⟩) m cV (ints bf)) := Lib.hid (by rw [← hm]; exact HRV.out)
      have HMM := Lib.hid hm
      clear hL hmem e0 e1 e2 hnest hRV HRV hbf hnm hmn hm hnn HGr
      have hgx : go ≠ gb := by omega
      go_wp2
      go_region_held3 (fun w' => w'.cell? ⟨go, i * 3, none⟩ = some (.string nm) ∧ w'.cell? ⟨go, i * 3 + 1, none⟩ = some (.int .i64 mn) ∧ w'.cell? ⟨go, i * 3 + 2, none⟩ = some (.slice (some ⟨bV, 0, none⟩) m cV))
        (first
          | exact ⟨c0, c1, c2⟩
          | exact ⟨cell_bel c0 hb5, cell_bel c1 hb5, cell_bel c2 hb5⟩
          | exact ⟨cell_alc (cell_bel c0 hb5), cell_alc (cell_bel c1 hb5), cell_alc (cell_bel c2 hb5)⟩
          | exact ⟨hgrow.cell (cell_alc (cell_bel c0 hb5)) (by simp [Value.ownBlock]; omega), hgrow.cell (cell_alc (cell_bel c1 hb5)) (by simp [Value.ownBlock]; omega), hgrow.cell (cell_alc (cell_bel c2 hb5)) (by simp [Value.ownBlock]; omega)⟩
          | go_keep)
        (first
          | (go_at_call 56; refine (l00Own_any bV 0 m cV bf _ (HRV2.out.below (Below.refl _ _).drew) (by omega)).mono ?_; rintro e w5 ⟨g5, d5, rfl, ho5, hb5'⟩; have hb5 : Below wr.heap.size wr w5 := (Below.refl _ _).drew.trans hb5'; have hz5 := hb5.size)
          | (refine step_append_lies _ (by rfl) _ _ _ (by rfl) w2.heap.size 53 i0 _ 3 48 Tryd.underlying25 hi hz0 hz1 hz2 rfl (by omega) (Value.slice (some ⟨gb, 0, none⟩) i cb) i (opc M) (by rfl) (own_below (own_below HM.out.own hb5) ((Below.refl _ _).alloc (Nat.le_refl _) _)) ⟨w5.heap.size, 0, none⟩ 1 1 [.string nm, .int .i64 mn, .slice (some ⟨g5, 0, none⟩) m d5] (by rfl) (by rfl) (World.news_of_block (heap_alloc_new w5 (.cells #[.string nm, .int .i64 mn, .slice (some ⟨g5, 0, none⟩) m d5] 53))) (by simp [Value.oneCell']) (by omega) (by unfold maxLen; omega) (by omega) (by simp; omega) (w5.heap.size + 1) (by simp) ?_; intro g7 d7 wa hown' hgrow hat hlt'))
      have hg71 : g7 = gb ∨ (w5.alloc (.cells #[.string nm, .int .i64 mn, .slice (some ⟨g5, 0, none⟩) m d5] 53)).heap.size ≤ g7 := by
        rcases hat with e | e
        · simp [Value.ownBlock] at e
          exact .inl e.symm
        · exact .inr (by simp; omega)
      have hal5 : Below w5.heap.size w5 (w5.alloc (.cells #[.string nm, .int .i64 mn, .slice (some ⟨g5, 0, none⟩) m d5] 53)) := (Below.refl _ _).alloc (Nat.le_refl _) _
      have hb6 := hb5.trans (hal5.mono hz5)
      have ho6 := own_below ho5 hal5
      have ho6' : (w5.alloc (.cells #[.string nm, .int .i64 mn, .slice (some ⟨g5, 0, none⟩) m d5] 53)).ownsRow wr.heap.size 2 1 (.slice (some ⟨g5, 0, none⟩) m d5) bf.length (ints bf) := by rw [HMM.out]; exact ho6
      have hG9 := (HM.out.below hb6).snoc (p := ⟨nm, mn, bf⟩) (V := .slice (some ⟨g5, 0, none⟩) m d5) (b1 := wr.heap.size) ho6' hws (fun k q U hk b hb => HTOP.out k q U hk b hb) (by omega) hown' hgrow hg71 hsz
      have HG9 := Lib.hid hG9
      have HF9 : Hid (∀ q ∈ M ++ [((⟨nm, mn, bf⟩ : OpV), Value.slice (some ⟨g5, 0, none⟩) m d5)], q.1.bf.length ≤ 7) := Lib.hid (fun q hq => by
        rcases List.mem_append.1 hq with hq | hq
        · exact HFM.out q hq
        · simp at hq
          subst hq
          show bf.length ≤ 7
          rw [HMM.out]
          exact hn7)
      have hgs := HS.out.lt
      have HS9 : Hid (Src wa g A n c (0 + 114)) := Lib.hid ((HS.out.below hb6).keep ((Below.refl _ _).grown hgrow (by simp; omega) (fun y hy => by simp [Value.ownBlock] at hy; omega)))
      have HW9 := Lib.hid (grown_new (grown_bel HW.out hb6) hgrow (fun y hy => by simp [Value.ownBlock] at hy; omega))
      clear hown' hgrow hat hg71 hal5 hb6 ho6 ho6' hG9 HM HS HW hb5 hb5' ho5 c0 c1 c2
      clear ‹_ ∧ _ ∧ _›
      go_wp2
      go_roundg (k - (i + 1))
      case measure => omega
      case rel => exact ⟨i + 1, g7, d7, _, by omega, by omega, by go_num, rfl, HG9, HF9, HS9, HW9⟩
    · obtain rfl : i = k := by omega
      clear HF
      go_upto_region 8 with fail
      go_cut [45] from 39 (fun v wx => ∃ b : Bool, v = .bool b ∧ (b = true → 0 < i) ∧ Hid (GO wx w2.heap.size gb i cb M) ∧ Hid (Src wx g A n c (0 + 114 + 2)) ∧ Hid (w2.grownBy wx (some g)))
      case first =>
        by_cases hi0 : i = 0
        · subst hi0
          go_wp2
          go_meet
          exact ⟨false, rfl, (fun h => by cases h), HM, Lib.hid (HS.out.more (by omega)), HW⟩
        · have hi1 : (0 : Int) < (i : Int) := by omega
          go_wp2_with fail
          refine (one_any g A n c (0 + 114) 2 _ HS.out (by omega) hn).mono ?_
          rintro e w3 ⟨b, rfl, hs3, hg3⟩
          go_wp2
          go_meet
          exact ⟨b, rfl, (fun _ => by omega), Lib.hid (HM.out.keep hg3 (by omega)), Lib.hid hs3, Lib.hid (grown_low hg3 HW.out)⟩
      case rest =>
      clear HM HS HW
      obtain ⟨b, rfl, hb0, HM, HS, HW⟩ := hcut
      obtain ⟨w3, rfl⟩ : ∃ w', w' = wc := ⟨_, rfl⟩
      clear hws hgb
      go_upto_if 45 with fail
      go_cut [6] from 39 (fun v wx => ∃ M', v = .slice (some ⟨gb, 0, none⟩) i cb ∧ Hid (GO wx w2.heap.size gb i cb M') ∧ Hid (Src wx g A n c (0 + 114 + 2)) ∧ Hid (w2.grownBy wx (some g)))
      case first =>
        cases b with
        | false =>
          go_wp2
          go_meet
          exact ⟨M, rfl, HM, HS, HW⟩
        | true =>
          have hi0 := hb0 rfl
          have hi1 : (0 : Int) < (i : Int) := by omega
          obtain ⟨p, V, hL⟩ : ∃ p V, M[0]? = some (p, V) := ⟨_, _, List.getElem?_eq_getElem (by have := HM.out.len; omega)⟩
          have hn7 := HFM.out _ (List.mem_of_getElem? hL)
          simp only at hn7
          obtain ⟨e0, e1, e2⟩ := opc_at hL
          have c2 : w3.cell? ⟨gb, 2, none⟩ = some V := by rw [HM.out.own.cellAt 2 (by omega)]; exact e2
          have hnest := HM.out.nest 0 p V hL
          obtain ⟨AV, cV, hVe⟩ := own_shape hnest.1
          subst hVe
          have hv1 := (Rd.of_own hnest.1).cap
          have hv2 := (Rd.of_own hnest.1).max
          have HNO := Lib.hid hnest.1
          have HNB := Lib.hid hnest.2
          have HLL := Lib.hid hL
          have hgb := own_block HM.out.own gb rfl
          have hws := HW.out.size
          have hgs := HS.out.lt
          clear e0 e1 e2 hnest hL
          have HAL : Hid (Below w3.heap.size w3 (w3.alloc (.cells #[.int .i64 1] 2))) := Lib.hid ((Below.refl _ _).alloc (Nat.le_refl _) _)
          go_wp2_with (at_builtin; refine wpList_append_own_at _ rfl (.tmp 50) (.tmp 51) 32 rfl w2.heap.size 2 i6 (.int .i64 0) 1 8 Tryd.underlying32 gi gz0 gz1 gz2 rfl (by decide) (Value.slice AV p.bf.length cV) _ _ rfl (own_belowV HNO.out HAL.out) ⟨_, 0, none⟩ 1 1 [.int .i64 1] rfl rfl (cell_one_new _ _ _) (by intro u hu; simp at hu; subst hu; rfl) (by unfold maxLen; omega) (by omega) (by simp; omega) ?_; intro v' wa hown' hga hdel hblk; clear hdel; obtain ⟨g3, d3, hv, hg3, hg3l⟩ := own_form hown' (by omega); subst hv; have hbk := hga.block gb (by simp; omega) (fun e => HNB.out e.symm); have kx2 : wa.cell? ⟨gb, 2, none⟩ = some (Value.slice AV p.bf.length cV) := (World.cell?_of_block hbk).trans (cell_alc c2); have kxf : ∀ i, wa.frozen? ⟨gb, i, none⟩ = false := fun i => (World.frozen?_of_block hbk).trans ((own_below HM.out.own HAL.out).frozenAt i))
          have hgw : w3.grownBy wa (Value.slice AV p.bf.length cV).ownBlock := World.grownBy.trans (grown_alc w3 (.cells #[.int .i64 1] 2) _) hga
          have hrow : ∀ y, (Value.slice AV p.bf.length cV).ownBlock = some y → w2.heap.size ≤ y := fun y hy => (HNO.out.lt y hy).1
          have hins : ints p.bf ++ [.int .i64 1] = ints (p.bf ++ [(1 : Int)]) := by simp [ints]
          have hlen : (p.bf ++ [(1 : Int)]).length = p.bf.length + 1 := by simp
          rw [hins] at hown'
          rw [← hlen] at hown'
          have hG9 := HM.out.grow (V1 := .slice (some ⟨g3, 0, none⟩) (p.bf ++ [(1 : Int)]).length d3) HLL.out hown' hgw (by
            rcases hblk with e | e
            · exact .inl e
            · exact .inr ⟨_, e, by simp⟩)
          rw [hlen] at hG9
          have HG9 := Lib.hid hG9
          have HW9 := Lib.hid (grown_new (grown_new HW.out hgw hrow) (grown_setO wa gb 2 (.slice (some ⟨g3, 0, none⟩) (p.bf.length + 1) d3)) (fun y hy => by injection hy with hy; omega))
          have HS9 : Hid (Src (wa.setCell ⟨gb, 2, none⟩ (.slice (some ⟨g3, 0, none⟩) (p.bf.length + 1) d3)) g A n c (0 + 114 + 2)) := Lib.hid ((HS.out.keep ((Below.refl _ _).grown hgw (by omega) (fun y hy => by have := hrow y hy; omega))).set (by omega) _)
          clear hown' hga hblk hgw hrow hG9 hbk HM HS HW c2 HAL
          go_wp2
          go_meet
          exact ⟨_, rfl, HG9, HS9, HW9⟩
      case rest =>
      clear HM HS HW hb0
      obtain ⟨M', rfl, HM, HS, HW⟩ := hcut
      obtain ⟨w4, rfl⟩ : ∃ w', w' = wc := ⟨_, rfl⟩
      go_wp2_with fail
      refine (one_any g A n c (0 + 114 + 2) 5 _ HS.out (by omega) hn).mono ?_
      rintro e w6 ⟨b6, rfl, hs6, hg6⟩
      have HM6 := Lib.hid (HM.out.keep hg6 (by omega))
      have HW6 := Lib.hid (grown_low hg6 HW.out)
      clear hs6 hg6 HM HS HW
      cases b6 with
      | false =>
        go_wp2
        go_ret2
        exact ⟨go, i, co, _, gb, i, cb, _, rfl, (HG.out.keep HW6.out hgl).read, HM6.out.read, below_of_grown B2.out HW6.out hge⟩
      | true =>
        have hgb := own_block HM6.out.own gb rfl
        have hws := HW6.out.size
        have hil : i ≤ 7 := hk
        have HTOP := Lib.hid HM6.out.top
        have HAL : Hid (Below w6.heap.size w6 (w6.alloc (.cells #[.string ⟨#[]⟩, .int .i64 0, .slice none 0 0] 53))) := Lib.hid ((Below.refl _ _).alloc (Nat.le_refl _) _)
        have HNEW := Lib.hid (World.news_of_block (heap_alloc_new w6 (.cells #[.string ⟨#[]⟩, .int .i64 0, .slice none 0 0] 53)))
        go_wp2_with (at_builtin; refine wpList_append_own_at _ rfl (.tmp 57) (.tmp 59) 25 rfl w2.heap.size 53 i0 (.agg #[.string ByteArray.empty, .int .i64 0, .slice none 0 0]) 3 48 Tryd.underlying25 hi hz0 hz1 hz2 rfl (by decide) (Value.slice (some ⟨gb, 0, none⟩) i cb) _ _ rfl (own_below HM6.out.own HAL.out) ⟨_, 0, none⟩ 1 1 [.string ⟨#[]⟩, .int .i64 0, .slice none 0 0] rfl rfl HNEW.out (by intro u hu; simp at hu; rcases hu with rfl | rfl | rfl <;> rfl) (by unfold maxLen; omega) (by omega) (by simp; omega) ?_; intro v' wa hown' hga hdel hblk; clear hdel)
        obtain ⟨g7, d7, hv, hg7, _⟩ := own_form hown' (by omega)
        subst hv
        have hg71 : g7 = gb ∨ (w6.alloc (.cells #[.string ⟨#[]⟩, .int .i64 0, .slice none 0 0] 53)).heap.size ≤ g7 := by
          rcases hblk with e | e
          · simp [Value.ownBlock] at e
            exact .inl e
          · simp [Value.ownBlock] at e
            exact .inr (by simp; omega)
        have hG9 := (HM6.out.below HAL.out).snoc (p := ⟨⟨#[]⟩, 0, []⟩) (V := .slice none 0 0) (b1 := w6.heap.size) (World.ownsRow_nil _ _ _ _) hws (fun k q U hk b hb => HTOP.out k q U hk b hb) (by omega) hown' hga hg71 (by decide)
        have HG9 := Lib.hid hG9
        have HW9 := Lib.hid (grown_new (grown_bel HW6.out HAL.out) hga (fun y hy => by simp [Value.ownBlock] at hy; omega))
        clear hown' hga hblk hg71 hG9 HAL HNEW HM6 HW6
        go_wp2
        go_ret2
        exact ⟨go, i, co, _, g7, i + 1, d7, _, rfl, (HG.out.keep HW9.out hgl).read, HG9.out.read, below_of_grown B2.out HW9.out hge⟩
end Go.Proofs.YtgghjieeckkpbaaDoor
