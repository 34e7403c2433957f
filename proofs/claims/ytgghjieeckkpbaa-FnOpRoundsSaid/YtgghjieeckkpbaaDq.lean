/- Drawn operations: DrawCountOpOrders, DrawReadyOps. -/
import Derived.Test.YtgghjieeckkpbaaDp
namespace Go.Proofs.Ytgghjieeckkpbaa
open Go.RowKit Go.Shelf

/-- Drawn operations, read. -/
def OpsPost (w : World) (e : Ending) (w' : World) : Prop := ∃ go k co ops, e = .returned (.slice (some ⟨go, 0, none⟩) k co) ∧ k ≤ 15 ∧ RdO w' (some ⟨go, 0, none⟩) k co ops ∧ Below w.heap.size w w'
theorem below_of_grown {w w1 w2 : World} {g : Nat} (hb : Below w.heap.size w w1) (hg : w1.grownBy w2 (some g)) (hge : w.heap.size ≤ g) : Below w.heap.size w w2 := hb.grown hg hb.size (fun y hy => by injection hy with hy; omega)

set_option maxRecDepth 100000 in
set_option maxHeartbeats 1000000 in
theorem drawCount_any (A : Option Addr) (n c : Nat) (w : World) (h : Bytes w A n c) :
    Calls Try.prog 16 #[.slice A n c] w (OpsPost w) := by
  have hn := Nat.le_trans h.1 h.2.1
  have H := Lib.hid h
  clear h
  go_enter Try.func16, Try.ntmps16
  go_wp2_with fail
  refine (l00From_any A n c _ H.out).mono ?_
  rintro e w1 ⟨g, rfl, hs, hge, hb1⟩
  have S1 := Lib.hid hs
  have B1 := Lib.hid hb1
  clear hs hb1
  go_wp2_with fail
  refine (l13Bent_any g A n c 0 _ S1.out (by omega) hn).mono ?_
  rintro e w2 ⟨go, k, co, L, rfl, hk, hG, _, _, hW⟩
  have HG := Lib.hid hG
  have HB := Lib.hid (below_of_grown B1.out hW hge)
  clear hG hW
  go_wp2
  go_ret
  exact ⟨go, k, co, _, rfl, hk, HG.out.read, HB.out⟩

/-- Drawn operations, and which are done. -/
def ReadyPost (w : World) (e : Ending) (w' : World) : Prop :=
  ∃ go k co ops gd m cd ds, e = .returned (.tuple #[.slice (some ⟨go, 0, none⟩) k co, .slice (some ⟨gd, 0, none⟩) m cd]) ∧ k ≤ 15 ∧ m ≤ 16 ∧ RdO w' (some ⟨go, 0, none⟩) k co ops ∧ Rd w' 1 (some ⟨gd, 0, none⟩) m cd (ints ds) ∧ Below w.heap.size w w'

set_option maxRecDepth 100000 in
set_option maxHeartbeats 4000000 in
theorem drawReady_any (A : Option Addr) (n c : Nat) (w : World) (h : Bytes w A n c) :
    Calls Try.prog 25 #[.slice A n c] w (ReadyPost w) := by
  obtain ⟨i6, gi, gz0, gz1, gz2⟩ := info_parts info_i64r
  have hn := Nat.le_trans h.1 h.2.1
  have H := Lib.hid h
  clear h
  go_enter Try.func25, Try.ntmps25
  go_wp2_with fail
  refine (l00From_any A n c _ H.out).mono ?_
  rintro e w1 ⟨g, rfl, hs, hge, hb1⟩
  have S1 := Lib.hid hs
  have B1 := Lib.hid hb1
  have hgl := hs.lt
  clear hs hb1
  go_wp2_with fail
  refine (l13Bent_any g A n c 0 _ S1.out (by omega) hn).mono ?_
  rintro e w2 ⟨go, k, co, L, rfl, hk, hG, _, hS, hW⟩
  have HG := Lib.hid hG
  have HS2 := Lib.hid hS
  have B2 := Lib.hid (below_of_grown B1.out hW hge)
  have hs2 := hW.size
  have hbs := B1.out.size
  have hcap := (Rd.of_own hG.own).cap
  have hmax := (Rd.of_own hG.own).max
  clear hG hS hW B1 S1
  have HO0 := Lib.hid (show (w2.alloc (.cells #[] 2)).ownsRow w2.heap.size 2 1 (.slice (some ⟨w2.heap.size, 0, none⟩) 0 0) 0 (ints []) from own_e w2 w2 (Nat.le_refl _))
  have HS3 := Lib.hid (HS2.out.alloc (.cells #[] 2))
  have HW3 := Lib.hid (grown_alloc (World.grownBy.refl w2 (some g)) (.cells #[] 2))
  clear HS2
  go_wp2
  go_loopg [6, 7] k (fun gg v6 v7 wr => ∃ (i m gd cd : Nat) (ds : List Int), i ≤ k ∧ k - i ≤ gg ∧ m ≤ i ∧ v7 = .int .i64 i ∧ v6 = .slice (some ⟨gd, 0, none⟩) m cd ∧ Hid (wr.ownsRow w2.heap.size 2 1 (.slice (some ⟨gd, 0, none⟩) m cd) m (ints ds)) ∧ Hid (Src wr g A n c (0 + 124 + 2 * i)) ∧ Hid (w2.grownBy wr (some g)))
  case atStart => exact ⟨0, 0, _, 0, [], Nat.zero_le _, by omega, Nat.le_refl _, rfl, rfl, HO0, HS3, HW3⟩
  case round =>
    clear HO0 HS3 HW3
    obtain ⟨i, m, gd, cd, ds, hik, hgg, hmi, rfl, rfl, HO, HS, HW⟩ := hrel
    have hcap2 := (Rd.of_own HO.out).cap
    have hmax2 := (Rd.of_own HO.out).max
    have hws := HW.out.size
    have hgo := own_block HO.out gd rfl
    by_cases hlt : i < k
    · go_wp2_with fail
      refine (one_any g A n c (0 + 124 + 2 * i) 2 _ HS.out (by omega) hn).mono ?_
      rintro e w3 ⟨b, rfl, hs3, hg3⟩
      have HO3 := Lib.hid (own_other (g' := g) HO.out hg3 (by omega))
      have HS4 := Lib.hid (hs3.more (show 0 + 124 + 2 * i + 2 ≤ 0 + 124 + 2 * (i + 1) by omega))
      have HW4 := Lib.hid (grown_low hg3 HW.out)
      have hz3 := hg3.size
      clear hs3 hg3 HO HS HW
      cases b with
      | false =>
        go_wp2
        go_roundg (k - (i + 1))
        case measure => omega
        case rel => exact ⟨i + 1, m, gd, cd, ds, by omega, by omega, by omega, by go_num, rfl, HO3, HS4, HW4⟩
      | true =>
        have HAL : Hid (Below w3.heap.size w3 (w3.alloc (.cells #[.int .i64 i] 2))) := Lib.hid ((Below.refl _ _).alloc (Nat.le_refl _) _)
        go_wp2_with (at_builtin; refine wpList_append_own_at _ rfl (.tmp 21) (.tmp 23) 28 rfl w2.heap.size 2 i6 (.int .i64 0) 1 8 Try.underlying28 gi gz0 gz1 gz2 rfl (by decide) (Value.slice (some ⟨gd, 0, none⟩) m cd) _ _ rfl (own_below HO3.out HAL.out) ⟨_, 0, none⟩ 1 1 [.int .i64 i] rfl rfl (cell_one_new _ _ _) (by intro u hu; simp at hu; subst hu; rfl) (by unfold maxLen; omega) (by omega) (by simp; omega) ?_; intro v' wa hown' hga hdel hblk; clear hdel hblk)
        obtain ⟨g4, d4, hv, hg4, _⟩ := own_form hown' (by omega)
        subst hv
        have hins : ints ds ++ [.int .i64 i] = ints (ds ++ [(i : Int)]) := by simp [ints]
        rw [hins] at hown'
        have HO5 := Lib.hid hown'
        have HS5 : Hid (Src wa g A n c (0 + 124 + 2 * (i + 1))) := Lib.hid ((HS4.out.below HAL.out).keep ((Below.refl _ _).grown hga (by simp; omega) (fun y hy => by simp [Value.ownBlock] at hy; omega)))
        have HW5 := Lib.hid (grown_new (grown_bel HW4.out HAL.out) hga (fun y hy => by simp [Value.ownBlock] at hy; omega))
        clear hown' hga hins HO3 HS4 HW4 HAL
        go_wp2
        go_roundg (k - (i + 1))
        case measure => omega
        case rel => exact ⟨i + 1, m + 1, g4, d4, _, by omega, by omega, by omega, by go_num, rfl, HO5, HS5, HW5⟩
    · obtain rfl : i = k := by omega
      go_wp2_with fail
      refine (one_any g A n c (0 + 124 + 2 * i) 16 _ HS.out (by omega) hn).mono ?_
      rintro e w3 ⟨b, rfl, hs3, hg3⟩
      have HO3 := Lib.hid (own_other (g' := g) HO.out hg3 (by omega))
      have HS4 := Lib.hid hs3
      have HW4 := Lib.hid (grown_low hg3 HW.out)
      have hz3 := hg3.size
      have hgl3 := hs3.lt
      clear hs3 hg3 HO HS HW
      cases b with
      | false =>
        go_wp2
        go_ret2
        exact ⟨go, i, co, _, gd, m, cd, ds, rfl, hk, by omega, (HG.out.keep HW4.out hgl).read, Rd.of_own HO3.out, below_of_grown B2.out HW4.out hge⟩
      | true =>
        have HAL : Hid (Below w3.heap.size w3 (w3.alloc (.cells (ints [-1, 0, (i : Int)]).toArray 2))) := Lib.hid ((Below.refl _ _).alloc (Nat.le_refl _) _)
        have HR := Lib.hid (lit_rd w3 [-1, 0, (i : Int)] (by show 3 ≤ 1000; omega))
        go_wp2_with fail
        refine (among_any g A n c (0 + 124 + 2 * i + 2) w3.heap.size 0 3 3 [-1, 0, (i : Int)] _ (HS4.out.below HAL.out) (by omega) hn HR.out (by omega) (by omega)).mono ?_
        rintro e w6 ⟨z, _, rfl, hs6, hg6⟩
        have HO6 := Lib.hid (own_other (g' := g) (own_below HO3.out HAL.out) hg6 (by omega))
        have HW6 := Lib.hid (grown_low hg6 (grown_bel HW4.out HAL.out))
        have hz6 := HW6.out.size
        clear hs6 hg6 HR HAL HO3 HS4 HW4
        have HAL : Hid (Below w6.heap.size w6 (w6.alloc (.cells #[.int .i64 z] 2))) := Lib.hid ((Below.refl _ _).alloc (Nat.le_refl _) _)
        go_wp2_with (at_builtin; refine wpList_append_own_at _ rfl (.tmp 27) (.tmp 33) 28 rfl w2.heap.size 2 i6 (.int .i64 0) 1 8 Try.underlying28 gi gz0 gz1 gz2 rfl (by decide) (Value.slice (some ⟨gd, 0, none⟩) m cd) _ _ rfl (own_below HO6.out HAL.out) ⟨_, 0, none⟩ 1 1 [.int .i64 z] rfl rfl (cell_one_new _ _ _) (by intro u hu; simp at hu; subst hu; rfl) (by unfold maxLen; omega) (by omega) (by simp; omega) ?_; intro v' wa hown' hga hdel hblk; clear hdel hblk)
        obtain ⟨g4, d4, hv, hg4, _⟩ := own_form hown' (by omega)
        subst hv
        have hins : ints ds ++ [.int .i64 z] = ints (ds ++ [z]) := by simp [ints]
        rw [hins] at hown'
        have HO5 := Lib.hid hown'
        have HW5 := Lib.hid (grown_new (grown_bel HW6.out HAL.out) hga (fun y hy => by simp [Value.ownBlock] at hy; omega))
        clear hown' hga hins HO6 HW6 HAL
        go_wp2
        go_ret2
        exact ⟨go, i, co, _, g4, m + 1, d4, _, rfl, hk, by omega, (HG.out.keep HW5.out hgl).read, Rd.of_own HO5.out, below_of_grown B2.out HW5.out hge⟩
end Go.Proofs.Ytgghjieeckkpbaa
