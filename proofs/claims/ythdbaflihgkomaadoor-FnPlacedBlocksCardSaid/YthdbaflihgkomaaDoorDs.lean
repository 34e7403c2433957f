/- Drawn blocks and the width of a roll: l11Draw. Printed by mkds.py. -/
import Derived.Test.YthdbaflihgkomaaDoorDv
import Derived.Test.YthdbaflihgkomaaDoorTb
import Derived.Deep.CutRange
namespace Go.Proofs.YthdbaflihgkomaaDoor
open Go.RowKit Go.Shelf

theorem lit_rd (W : World) (xs : List Int) (hx : xs.length ≤ 1000) : Rd (W.alloc (.cells (ints xs).toArray 2)) 1 (some ⟨W.heap.size, 0, none⟩) xs.length xs.length (ints xs) :=
  Rd.of_own (World.ownsRow_lit (base := 0) (e := 2) (size := 1) W (ints xs).toArray xs.length (Nat.zero_le _) (by unfold maxLen; omega) (by simp [ints]))
/-- A drawn block. -/
structure BlkD (p : Int × Int) : Prop where
  a : -1 ≤ p.1 ∧ p.1 ≤ 100
  b : -1 ≤ p.2 ∧ p.2 ≤ 5001
theorem blk_snoc {ps : List (Int × Int)} {x y : Int} (h : ∀ p ∈ ps, BlkD p) (hx : -1 ≤ x ∧ x ≤ 100) (hy : -1 ≤ y ∧ y ≤ 5001) : ∀ p ∈ ps ++ [(x, y)], BlkD p := fun p hp => by
  rcases List.mem_append.1 hp with hp | hp
  · exact h p hp
  · simp at hp; subst hp; exact ⟨hx, hy⟩
def Draw11 (w : World) (g : Nat) (A : Option Addr) (n c N : Nat) (e : Ending) (w' : World) : Prop :=
  ∃ go k co ps roll, e = .returned (.tuple #[.slice (some ⟨go, 0, none⟩) k co, .int .i64 roll]) ∧ k ≤ 11 ∧ w'.ownsRow w.heap.size 49 2 (.slice (some ⟨go, 0, none⟩) k co) k (pr ps) ∧ (∀ p ∈ ps, BlkD p) ∧ Src w' g A n c N ∧ w.grownBy w' (some g)
/-- A blocks' slice that the drawing owns, and the source beside it. -/
structure DrS (w : World) (w1z : Nat) (wx : World) (g : Nat) (A : Option Addr) (n c N go k co : Nat) (ps : List (Int × Int)) : Prop where
  own : wx.ownsRow w1z 49 2 (.slice (some ⟨go, 0, none⟩) k co) k (pr ps)
  all : ∀ p ∈ ps, BlkD p
  src : Src wx g A n c N
  grown : w.grownBy wx (some g)
theorem DrS.lt {w wx : World} {z g n c N go k co : Nat} {A : Option Addr} {ps : List (Int × Int)} (h : DrS w z wx g A n c N go k co ps) : z ≤ go ∧ go < wx.heap.size := own_block h.own go rfl
theorem DrS.step {w wx wy : World} {z g n c N M go k co : Nat} {A : Option Addr} {ps : List (Int × Int)} (h : DrS w z wx g A n c N go k co ps) (hs : Src wy g A n c M) (hg : wx.grownBy wy (some g)) (hz : g < z) : DrS w z wy g A n c M go k co ps :=
  ⟨own_other h.own hg (by have := h.lt; omega), h.all, hs, World.grownBy.trans h.grown hg⟩
theorem DrS.more {w wx : World} {z g n c N M go k co : Nat} {A : Option Addr} {ps : List (Int × Int)} (h : DrS w z wx g A n c N go k co ps) (hM : N ≤ M) : DrS w z wx g A n c M go k co ps := ⟨h.own, h.all, h.src.more hM, h.grown⟩
theorem DrS.alloc {w wx : World} {z g n c N go k co : Nat} {A : Option Addr} {ps : List (Int × Int)} (h : DrS w z wx g A n c N go k co ps) (o : Obj) : DrS w z (wx.alloc o) g A n c N go k co ps :=
  ⟨h.own.alloc _, h.all, h.src.alloc o, grown_alloc h.grown o⟩
/-- A cell of a block of its own is set. -/
theorem DrS.set {w wx : World} {z g n c N go k co b i : Nat} {A : Option Addr} {ps : List (Int × Int)} (h : DrS w z wx g A n c N go k co ps) (hb : w.heap.size ≤ b) (hgb : g < b) (hne : go ≠ b) (u : Value) : DrS w z (wx.setCell ⟨b, i, none⟩ u) g A n c N go k co ps :=
  ⟨own_other h.own (grown_set (World.grownBy.refl wx (some b)) u) hne, h.all, h.src.set hgb u, grown_own h.grown (grown_set (World.grownBy.refl wx (some b)) u) hb⟩
theorem DrS.push {w wx wa : World} {z g n c N go k co : Nat} {A : Option Addr} {ps : List (Int × Int)} {x y : Int} {v : Value} (h : DrS w z wx g A n c N go k co ps) (hg : (wx.alloc (.cells #[.int .i64 x, .int .i64 y] 49)).grownBy wa (some go)) (hz : g < z) (hw : w.heap.size ≤ z)
    (ho : wa.ownsRow z 49 2 v (k + 1) (pr ps ++ [.int .i64 x, .int .i64 y])) (hx : -1 ≤ x ∧ x ≤ 100) (hy : -1 ≤ y ∧ y ≤ 5001) :
    ∃ g' c', v = .slice (some ⟨g', 0, none⟩) (k + 1) c' ∧ DrS w z wa g A n c N g' (k + 1) c' (ps ++ [(x, y)]) := by
  have hlt := h.lt
  obtain ⟨g', c', hv, _, _⟩ := own_form ho (by omega)
  subst hv
  rw [pr_snoc] at ho
  have ha := h.alloc (.cells #[.int .i64 x, .int .i64 y] 49)
  exact ⟨g', c', rfl, ho, blk_snoc h.all hx hy, ha.src.keep ((Below.refl _ _).grown hg (by have := ha.src.lt; omega) (fun y hy => by injection hy with hy; omega)), grown_own ha.grown hg (by omega)⟩

set_option maxRecDepth 100000 in
set_option maxHeartbeats 8000000 in
theorem l11Draw_any (g : Nat) (A : Option Addr) (n c N : Nat) (w : World) (h : Src w g A n c N) (hN : N ≤ 700000000) (hn : n ≤ 9223372036854775807) :
    Calls Tryd.prog 49 #[.pointer (some ⟨g, 0, none⟩)] w (Draw11 w g A n c (N + 100)) := by
  obtain ⟨i0, hi, hz0, hz1, hz2⟩ := info_parts info_pr
  have H := Lib.hid h
  have hgw := h.lt
  clear h
  go_enter Tryd.func49, Tryd.ntmps49
  go_wp2_with fail
  refine (pick_any g A n c N 40 _ H.out (by omega) hn).mono ?_
  rintro e w1 ⟨r0, ⟨p00, p01, _⟩, rfl, hs, hg⟩
  have p01 := p01 (by omega)
  have hz1' := hg.size
  have hgb := hs.lt
  have D1 : Hid (DrS w w1.heap.size (w1.alloc (.cells #[] 49)) g A n c (N + 2) w1.heap.size 0 0 []) := Lib.hid ⟨World.ownsRow_made w1 #[] 0 (Nat.le_refl _) (by unfold maxLen; omega) rfl, by simp, hs.alloc _, grown_alloc hg _⟩
  clear hs hg H
  go_wp2_with fail
  refine (pick_any g A n c (N + 2) 7 _ D1.out.src (by omega) hn).mono ?_
  rintro e w2 ⟨q0, ⟨q00, q01, _⟩, rfl, hs2, hg2⟩
  have q01 := q01 (by omega)
  have D2 := Lib.hid (D1.out.step hs2 hg2 hgb)
  obtain ⟨q, rfl⟩ := Int.eq_ofNat_of_zero_le q00
  have q7 : q ≤ 6 := by omega
  clear hs2 hg2 D1 q01 q00
  go_upto_if 16 with (go_at_call 50; refine (one_any g A n c (N + 4) 24 _ D2.out.src (by omega) hn).mono ?_; rintro e w3 ⟨b, rfl, hs3, hg3⟩)
  have D3 := Lib.hid (D2.out.step hs3 hg3 hgb)
  clear hs3 hg3 D2
  go_cut [6] from 9 to 19 (fun v wx => ∃ Q : Nat, v = .int .i64 Q ∧ Q ≤ 10 ∧ Hid (DrS w w1.heap.size wx g A n c (N + 8) w1.heap.size 0 0 []))
  case first =>
    cases b with
    | false =>
      go_wp2
      go_meet
      exact ⟨q, rfl, by omega, Lib.hid (D3.out.more (by omega))⟩
    | true =>
      go_wp2_with fail
      refine (pick_any g A n c (N + 6) 2 _ D3.out.src (by omega) hn).mono ?_
      rintro e w4 ⟨q1, ⟨q10, q11, _⟩, rfl, hs4, hg4⟩
      have q11 := q11 (by omega)
      have D4 := Lib.hid (D3.out.step hs4 hg4 hgb)
      obtain ⟨q1, rfl⟩ := Int.eq_ofNat_of_zero_le q10
      clear hs4 hg4 D3
      go_wp2
      go_meet
      exact ⟨9 + q1, by go_num, by omega, D4⟩
  case rest =>
  clear D3 q7
  obtain ⟨Q, rfl, hQ, D⟩ := hcut
  obtain ⟨w4, rfl⟩ : ∃ w', w' = wc := ⟨_, rfl⟩
  go_wp2_with fail
  go_loopw [5, 7] (fun vo vk wr => ∃ (j go oc : Nat) (ps : List (Int × Int)), j ≤ Q ∧ vk = .int .i64 ((Q : Int) - (j : Int)) ∧ vo = .slice (some ⟨go, 0, none⟩) j oc ∧ Hid (DrS w w1.heap.size wr g A n c (N + 8 + 8 * j) go j oc ps)) (fun _ vk _ => (intOf vk).toNat)
  case atStart => exact ⟨0, _, _, [], Nat.zero_le _, by simp, rfl, D⟩
  case round =>
    clear D
    obtain ⟨j, go, oc, ps, hjQ, rfl, rfl, D⟩ := hrel
    obtain ⟨w5, rfl⟩ : ∃ w', w' = wr := ⟨_, rfl⟩
    have hgl := D.out.src.lt
    have hgo := D.out.lt
    have hcap := (Rd.of_own D.out.own).cap
    have hmax := (Rd.of_own D.out.own).max
    by_cases hlt : j < Q
    · have hk1 : (0 : Int) < (Q : Int) - (j : Int) := by omega
      have hk3 : (j : Int) < (Q : Int) := by omega
      go_wp2_with fail
      refine (pick_any g A n c (N + 8 + 8 * j) (40 + r0) _ D.out.src (by omega) hn).mono ?_
      rintro e w6 ⟨r1, ⟨p10, p11, _⟩, rfl, hs, hg⟩
      have p11 := p11 (by omega)
      have hz6 := hg.size
      have hgb6 := hs.lt
      have X6 := Lib.hid (Box.new w6 #[.int .i64 (1 + r1), .int .i64 0] 49)
      have D6 := Lib.hid ((D.out.step hs hg hgb).alloc (.cells #[.int .i64 (1 + r1), .int .i64 0] 49))
      clear hs hg D
      go_wp2_with fail
      refine (pick_any g A n c (N + 8 + 8 * j + 2) 50 _ D6.out.src (by omega) hn).mono ?_
      rintro e w7 ⟨r2, ⟨p20, p21, _⟩, rfl, hs, hg⟩
      have p21 := p21 (by omega)
      have hz7 := hg.size
      rw [World.size_alloc] at hz7
      have X7 := X6.out.only hg (by omega)
      have c7 := X7.cell 1
      simp at c7
      have f7 := X7.froz
      have Y7 := X7.set 1 (.int .i64 (1 + r2)) (by simp)
      simp at Y7
      have D7 := Lib.hid ((D6.out.step hs hg hgb).set (b := w6.heap.size) (i := 1) (by omega) hgb6 (by omega) (.int .i64 (1 + r2)))
      have HY7 := Lib.hid Y7
      clear hs hg D6 X6 X7 Y7
      go_wp2_with fail
      refine (one_any g A n c (N + 8 + 8 * j + 2 + 2) 2 _ D7.out.src (by omega) hn).mono ?_
      rintro e w8 ⟨b, rfl, hs, hg⟩
      have hz8 := hg.size
      rw [World.size_setCell] at hz8
      have X8 := Lib.hid (HY7.out.only hg (by omega))
      have D8 := Lib.hid (D7.out.step hs hg hgb)
      clear hs hg D7 HY7 c7 f7
      cases b with
      | false =>
        have d0 := X8.out.cell 0
        have d1 := X8.out.cell 1
        simp at d0 d1
        go_wp2_with (at_builtin; refine wpList_append_own_at _ rfl (.tmp 40) (.tmp 42) 25 rfl w1.heap.size 49 i0 (.agg #[.int .i64 0, .int .i64 0]) 2 16 Tryd.underlying25 hi hz0 hz1 hz2 rfl (by decide) (Value.slice (some ⟨go, 0, none⟩) j oc) _ _ rfl (D8.out.own.alloc _) ⟨_, 0, none⟩ 1 1 [.int .i64 (1 + r1), .int .i64 (1 + r2)] rfl rfl (cells_two_new _ _ _ _) (by intro u hu; simp at hu; rcases hu with rfl | rfl <;> rfl) (by unfold maxLen; omega) (by omega) (by simp; omega) ?_; intro v' wa hown' hga hdel hblk; clear hdel hblk)
        obtain ⟨g7, d7, hv, DA⟩ := D8.out.push hga hgb hz1' hown' (by omega) (by omega)
        subst hv
        have HDA := Lib.hid DA
        clear hown' hga DA D8
        go_wp2
        go_roundw
        case rel => exact ⟨j + 1, g7, d7, _, by omega, by go_num, rfl, Lib.hid (HDA.out.more (by omega))⟩
        case measure => simp [intOf]; omega
      | true =>
        go_wp2_with fail
        refine (pick_any g A n c (N + 8 + 8 * j + 2 + 2 + 2) 25 _ D8.out.src (by omega) hn).mono ?_
        rintro e w9 ⟨r3, ⟨p30, p31, _⟩, rfl, hs, hg⟩
        have p31 := p31 (by omega)
        have hz9 := hg.size
        have X9 := X8.out.only hg (by omega)
        have d0 := X9.cell 0
        have d1 := X9.cell 1
        simp at d0 d1
        have f9 := X9.froz
        have D9 := Lib.hid ((D8.out.step hs hg hgb).set (b := w6.heap.size) (i := 0) (by omega) hgb6 (by omega) (.int .i64 (1 + r3)))
        have hzs : (w9.setCell ⟨w6.heap.size, 0, none⟩ (.int .i64 (1 + r3))).heap.size = w9.heap.size := World.size_setCell _ _ _
        have HZS := Lib.hid hzs
        clear hs hg D8 X8 X9 hzs
        go_wp2_with (at_builtin; refine wpList_append_own_at _ rfl (.tmp 40) (.tmp 42) 25 rfl w1.heap.size 49 i0 (.agg #[.int .i64 0, .int .i64 0]) 2 16 Tryd.underlying25 hi hz0 hz1 hz2 rfl (by decide) (Value.slice (some ⟨go, 0, none⟩) j oc) _ _ rfl (D9.out.own.alloc _) ⟨_, 0, none⟩ 1 1 [.int .i64 (1 + r3), .int .i64 (1 + r2)] rfl rfl (by have := cells_two_new (w9.setCell ⟨w6.heap.size, 0, none⟩ (.int .i64 (1 + r3))) (.int .i64 (1 + r3)) (.int .i64 (1 + r2)) 49; rw [HZS.out] at this; exact this) (by intro u hu; simp at hu; rcases hu with rfl | rfl <;> rfl) (by unfold maxLen; omega) (by omega) (by simp; omega) ?_; intro v' wa hown' hga hdel hblk; clear hdel hblk)
        obtain ⟨g7, d7, hv, DA⟩ := D9.out.push hga hgb hz1' hown' (by omega) (by omega)
        subst hv
        have HDA := Lib.hid DA
        clear hown' hga DA D9
        go_wp2
        go_roundw
        case rel => exact ⟨j + 1, g7, d7, _, by omega, by go_num, rfl, Lib.hid (HDA.out.more (by omega))⟩
        case measure => simp [intOf]; omega
    · have hjt : j = Q := by omega
      subst hjt
      have hk1 : ¬ (0 : Int) < (j : Int) - (j : Int) := by omega
      clear hlt hjQ
      go_wp2_with fail
      refine (pick_any g A n c (N + 8 + 8 * j) 24 _ D.out.src (by omega) hn).mono ?_
      rintro e w6 ⟨r, ⟨pr0, pr1, _⟩, rfl, hs, hg⟩
      have pr1 := pr1 (by omega)
      have D6 := Lib.hid (D.out.step hs hg hgb)
      have hgo6 := D6.out.lt
      have hgl6 := hs.lt
      clear hs hg D
      by_cases h0 : r = 0
      · subst h0
        have HR := Lib.hid (lit_rd w6 [-1, 0, 1, 5000, 5001] (by decide))
        have D7 := Lib.hid (D6.out.alloc (.cells (ints [-1, 0, 1, 5000, 5001]).toArray 2))
        clear D6
        go_wp2_with fail
        refine (among_any g A n c (N + 8 + 8 * j + 2) w6.heap.size 0 5 5 [-1, 0, 1, 5000, 5001] _ D7.out.src (by omega) hn HR.out (by omega) (by omega)).mono ?_
        rintro e w8 ⟨x, hx, rfl, hs, hg⟩
        have D8 := Lib.hid (D7.out.step hs hg hgb)
        clear hs hg D7 HR
        go_wp2
        go_ret2
        exact ⟨go, j, oc, ps, x, rfl, by omega, own_base D8.out.own hz1', D8.out.all, D8.out.src.more (by omega), D8.out.grown⟩
      · by_cases h1 : r = 1
        · subst h1
          have HR := Lib.hid (lit_rd w6 [-1, 0, 40 + r0, 40 + r0 + 1] (by simp))
          have D7 := Lib.hid (D6.out.alloc (.cells (ints [-1, 0, 40 + r0, 40 + r0 + 1]).toArray 2))
          clear D6
          go_wp2_with fail
          refine (among_any g A n c (N + 8 + 8 * j + 2) w6.heap.size 0 4 4 [-1, 0, 40 + r0, 40 + r0 + 1] _ D7.out.src (by omega) hn HR.out (by omega) (by omega)).mono ?_
          rintro e w8 ⟨x, hx, rfl, hs, hg⟩
          have D8 := Lib.hid (D7.out.step hs hg hgb)
          have hz8 := hg.size
          rw [World.size_alloc] at hz8
          have hxb : -1 ≤ x ∧ x ≤ 100 := by simp at hx; omega
          clear hs hg D7 HR hx
          go_wp2_with (at_builtin; refine wpList_append_own_at _ rfl (.tmp 53) (.tmp 61) 25 rfl w1.heap.size 49 i0 (.agg #[.int .i64 0, .int .i64 0]) 2 16 Tryd.underlying25 hi hz0 hz1 hz2 rfl (by decide) (Value.slice (some ⟨go, 0, none⟩) j oc) _ _ rfl (D8.out.own.alloc _) ⟨_, 0, none⟩ 1 1 [.int .i64 x, .int .i64 5] rfl rfl (cells_two_new _ _ _ _) (by intro u hu; simp at hu; rcases hu with rfl | rfl <;> rfl) (by unfold maxLen; omega) (by omega) (by simp; omega) ?_; intro v' wa hown' hga hdel hblk; clear hdel hblk)
          obtain ⟨g7, d7, hv, DA⟩ := D8.out.push hga hgb hz1' hown' (by omega) (by omega)
          subst hv
          have HDA := Lib.hid DA
          clear hown' hga DA D8
          go_wp2
          go_ret2
          exact ⟨g7, j + 1, d7, _, 40 + r0, rfl, by omega, own_base HDA.out.own hz1', HDA.out.all, HDA.out.src.more (by omega), HDA.out.grown⟩
        · by_cases h2 : r = 2
          · subst h2
            have HR := Lib.hid (lit_rd w6 [-1, 0, 5000, 5001] (by simp))
            have D7 := Lib.hid (D6.out.alloc (.cells (ints [-1, 0, 5000, 5001]).toArray 2))
            clear D6
            go_wp2_with fail
            refine (among_any g A n c (N + 8 + 8 * j + 2) w6.heap.size 0 4 4 [-1, 0, 5000, 5001] _ D7.out.src (by omega) hn HR.out (by omega) (by omega)).mono ?_
            rintro e w8 ⟨x, hx, rfl, hs, hg⟩
            have D8 := Lib.hid (D7.out.step hs hg hgb)
            have hz8 := hg.size
            rw [World.size_alloc] at hz8
            have hxb : -1 ≤ x ∧ x ≤ 5001 := by simp at hx; omega
            clear hs hg D7 HR hx
            go_wp2_with (at_builtin; refine wpList_append_own_at _ rfl (.tmp 65) (.tmp 70) 25 rfl w1.heap.size 49 i0 (.agg #[.int .i64 0, .int .i64 0]) 2 16 Tryd.underlying25 hi hz0 hz1 hz2 rfl (by decide) (Value.slice (some ⟨go, 0, none⟩) j oc) _ _ rfl (D8.out.own.alloc _) ⟨_, 0, none⟩ 1 1 [.int .i64 5, .int .i64 x] rfl rfl (cells_two_new _ _ _ _) (by intro u hu; simp at hu; rcases hu with rfl | rfl <;> rfl) (by unfold maxLen; omega) (by omega) (by simp; omega) ?_; intro v' wa hown' hga hdel hblk; clear hdel hblk)
            obtain ⟨g7, d7, hv, DA⟩ := D8.out.push hga hgb hz1' hown' (by omega) (by omega)
            subst hv
            have HDA := Lib.hid DA
            clear hown' hga DA D8
            go_wp2
            go_ret2
            exact ⟨g7, j + 1, d7, _, 40 + r0, rfl, by omega, own_base HDA.out.own hz1', HDA.out.all, HDA.out.src.more (by omega), HDA.out.grown⟩
          · have g0 : (r == 0) = false := by simpa using h0
            have g1 : (r == 1) = false := by simpa using h1
            have g2 : (r == 2) = false := by simpa using h2
            clear h0 h1 h2
            go_wp2
            go_ret2
            exact ⟨go, j, oc, ps, 40 + r0, rfl, by omega, own_base D6.out.own hz1', D6.out.all, D6.out.src.more (by omega), D6.out.grown⟩
end Go.Proofs.YthdbaflihgkomaaDoor
