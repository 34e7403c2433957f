/- Drawn pieces and a drawn hide: l10New, A2Cuts, l10Draw, A2Hide. Printed by mkdh.py. -/
import Derived.Test.YtiibhejjeijdaaaDoorDv
import Derived.Test.YtiibhejjeijdaaaDoorHf
import Derived.Test.YtiibhejjeijdaaaDoorPc
namespace Go.Proofs.YtiibhejjeijdaaaDoor
open Go.RowKit

/-- A drawn piece. -/
structure CutD (x : CutV) : Prop where
  wd : 1 ≤ x.wd ∧ x.wd ≤ 3
  ht : 1 ≤ x.ht ∧ x.ht ≤ 3
  ql : 1 ≤ x.ql ∧ x.ql ≤ 3
  wo : 0 ≤ x.wo ∧ x.wo ≤ 19
def NewPost (w : World) (g : Nat) (A : Option Addr) (n c N : Nat) (e : Ending) (w' : World) : Prop := ∃ x : CutV, CutD x ∧ e = .returned (.agg #[.int .i64 x.wd, .int .i64 x.ht, .int .i64 x.ql, .int .i64 x.wo]) ∧ Src w' g A n c N ∧ w.grownBy w' (some g)
set_option maxRecDepth 100000 in
set_option maxHeartbeats 2000000 in
theorem l10New_any (g : Nat) (A : Option Addr) (n c N : Nat) (w : World) (h : Src w g A n c N) (hN : N ≤ 800000000) (hn : n ≤ 9223372036854775807) :
    Calls Tryd.prog 53 #[.pointer (some ⟨g, 0, none⟩)] w (NewPost w g A n c (N + 8)) := by
  have H := Lib.hid h
  have hgw := h.lt
  clear h
  go_enter Tryd.func53, Tryd.ntmps53
  have H0 := Lib.hid (H.out.alloc (.cells #[.int .i64 0, .int .i64 0, .int .i64 0, .int .i64 0] 35))
  have Y0 := Lib.hid (Box.new w #[.int .i64 0, .int .i64 0, .int .i64 0, .int .i64 0] 35)
  have G0 := Lib.hid (grown_alloc (World.grownBy.refl w (some g)) (.cells #[.int .i64 0, .int .i64 0, .int .i64 0, .int .i64 0] 35))
  go_wp2_with fail
  refine (pick_any g A n c N 3 _ H0.out (by omega) hn).mono ?_
  rintro e w1 ⟨r1, ⟨p10, p11, _⟩, rfl, hs, hg⟩
  have p11 := p11 (by omega)
  have hz0 := hg.size
  rw [World.size_alloc] at hz0
  have hz1 : w.heap.size ≤ w1.heap.size := by omega
  have Y1 := Lib.hid ((Y0.out.only hg (by omega)).alloc (.cells #[.int .i64 (1 + r1), .int .i64 0, .int .i64 0, .int .i64 0] 35))
  have hg := World.grownBy.trans G0.out hg
  have HX := Lib.hid (Box.new w1 #[.int .i64 (1 + r1), .int .i64 0, .int .i64 0, .int .i64 0] 35)
  have HS := Lib.hid (hs.alloc (.cells #[.int .i64 (1 + r1), .int .i64 0, .int .i64 0, .int .i64 0] 35))
  have HG := Lib.hid (grown_alloc hg (.cells #[.int .i64 (1 + r1), .int .i64 0, .int .i64 0, .int .i64 0] 35))
  have hgb : g < w1.heap.size := hs.lt
  have hne : w.heap.size ≠ w1.heap.size := by omega
  have hne2 : w.heap.size ≠ g := by omega
  clear hs hg H H0 Y0 G0
  go_wp2_with fail
  refine (pick_any g A n c (N + 2) 3 _ HS.out (by omega) hn).mono ?_
  rintro e w2 ⟨r2, ⟨p20, p21, _⟩, rfl, hs, hg⟩
  have p21 := p21 (by omega)
  have X2 := HX.out.only hg (by omega)
  have G2 := World.grownBy.trans HG.out hg
  have c2 := X2.cell 1
  simp at c2
  have f2 := X2.froz
  have X3 := X2.set 1 (.int .i64 (1 + r2)) (by simp)
  simp at X3
  have S3 := hs.set (L := w1.heap.size) (i := 1) hgb (.int .i64 (1 + r2))
  have G3 : w.grownBy (w2.setCell ⟨w1.heap.size, 1, none⟩ (.int .i64 (1 + r2))) (some g) := grown_own G2 (grown_set (World.grownBy.refl _ _) _) hz1
  have HX2 := Lib.hid X3
  have HS2 := Lib.hid S3
  have HG2 := Lib.hid G3
  have Y2 := Lib.hid ((Y1.out.only hg hne2).far hne (i := 1) (.int .i64 (1 + r2)))
  have HZ2 := Lib.hid X2
  have YZ2 := Lib.hid (Y1.out.only hg hne2)
  clear Y1
  clear hs hg X2 G2 X3 S3 G3 HX HS HG
  have HX := HX2
  have HS := HS2
  have HG := HG2
  clear HX2 HS2 HG2
  go_wp2_with fail
  refine (pick_any g A n c (N + 4) 3 _ HS.out (by omega) hn).mono ?_
  rintro e w3 ⟨r3, ⟨p30, p31, _⟩, rfl, hs, hg⟩
  have p31 := p31 (by omega)
  have X2 := HX.out.only hg (by omega)
  have G2 := World.grownBy.trans HG.out hg
  have c3 := X2.cell 2
  simp at c3
  have f3 := X2.froz
  have X3 := X2.set 2 (.int .i64 (1 + r3)) (by simp)
  simp at X3
  have S3 := hs.set (L := w1.heap.size) (i := 2) hgb (.int .i64 (1 + r3))
  have G3 : w.grownBy (w3.setCell ⟨w1.heap.size, 2, none⟩ (.int .i64 (1 + r3))) (some g) := grown_own G2 (grown_set (World.grownBy.refl _ _) _) hz1
  have HX3 := Lib.hid X3
  have HS3 := Lib.hid S3
  have HG3 := Lib.hid G3
  have Y3 := Lib.hid ((Y2.out.only hg hne2).far hne (i := 2) (.int .i64 (1 + r3)))
  have HZ3 := Lib.hid X2
  have YZ3 := Lib.hid (Y2.out.only hg hne2)
  clear Y2
  clear hs hg X2 G2 X3 S3 G3 HX HS HG
  have HX := HX3
  have HS := HS3
  have HG := HG3
  clear HX3 HS3 HG3
  go_wp2_with fail
  refine (pick_any g A n c (N + 6) 20 _ HS.out (by omega) hn).mono ?_
  rintro e w4 ⟨r4, ⟨p40, p41, _⟩, rfl, hs, hg⟩
  have p41 := p41 (by omega)
  have X2 := HX.out.only hg (by omega)
  have G2 := World.grownBy.trans HG.out hg
  have c4 := X2.cell 3
  simp at c4
  have f4 := X2.froz
  have X3 := X2.set 3 (.int .i64 (r4)) (by simp)
  simp at X3
  have S3 := hs.set (L := w1.heap.size) (i := 3) hgb (.int .i64 (r4))
  have G3 : w.grownBy (w4.setCell ⟨w1.heap.size, 3, none⟩ (.int .i64 (r4))) (some g) := grown_own G2 (grown_set (World.grownBy.refl _ _) _) hz1
  have HX4 := Lib.hid X3
  have HS4 := Lib.hid S3
  have HG4 := Lib.hid G3
  have Y4 := Lib.hid ((Y3.out.only hg hne2).far hne (i := 3) (.int .i64 (r4)))
  have HZ4 := Lib.hid X2
  have YZ4 := Lib.hid (Y3.out.only hg hne2)
  clear Y3
  clear hs hg X2 G2 X3 S3 G3 HX HS HG
  have HX := HX4
  have HS := HS4
  have HG := HG4
  clear HX4 HS4 HG4
  have d0 := HZ4.out.cell 0
  have d1 := HZ4.out.cell 1
  have d2 := HZ4.out.cell 2
  simp at d0 d1 d2
  have e0 := YZ4.out.cell 0
  have e1 := YZ4.out.cell 1
  have e2 := YZ4.out.cell 2
  have e3 := YZ4.out.cell 3
  simp at e0 e1 e2 e3
  have ef := YZ4.out.froz
  obtain ⟨w5, hw5⟩ : ∃ w5, w5 = w4.setCell ⟨w1.heap.size, 3, none⟩ (.int .i64 r4) := ⟨_, rfl⟩
  rw [← hw5] at HS HG
  have hgb2 : g < w.heap.size := hgw
  have S6 := ((((HS.out.set (L := w.heap.size) (i := 0) hgb2 (.int .i64 (1 + r1))).set (L := w.heap.size) (i := 1) hgb2 (.int .i64 (1 + r2))).set (L := w.heap.size) (i := 2) hgb2 (.int .i64 (1 + r3))).set (L := w.heap.size) (i := 3) hgb2 (.int .i64 r4))
  have G6 := grown_own HG.out (grown_set (i := 3) (grown_set (i := 2) (grown_set (i := 1) (grown_set (i := 0) (World.grownBy.refl w5 (some w.heap.size)) (.int .i64 (1 + r1))) (.int .i64 (1 + r2))) (.int .i64 (1 + r3))) (.int .i64 r4)) (Nat.le_refl _)
  rw [hw5] at S6 G6
  have HS6 := Lib.hid S6
  have HG6 := Lib.hid G6
  clear S6 G6 HS HG HX Y4 hw5 HZ2 HZ3 HZ4 YZ2 YZ3 YZ4
  go_wp2
  refine bodyPost_ret (v := .agg #[.int .i64 (1 + r1), .int .i64 (1 + r2), .int .i64 (1 + r3), .int .i64 r4]) (by simp [results, Tryd.results53, go_sem, e0, e1, e2, e3]) rfl ?_
  exact ⟨⟨1 + r1, 1 + r2, 1 + r3, r4⟩, ⟨by simp only; omega, by simp only; omega, by simp only; omega, by simp only; omega⟩, rfl, HS6.out, HG6.out⟩

theorem qd_snoc (cs : List CutV) (x : CutV) : qd cs ++ [.int .i64 x.wd, .int .i64 x.ht, .int .i64 x.ql, .int .i64 x.wo] = qd (cs ++ [x]) := by
  unfold qd
  rw [List.flatMap_append]
  rfl
theorem cells_four_new (w : World) (a b c d : Value) (t : TypeId) : ∀ (j : Nat) (u : Value), ([a, b, c, d] : List Value)[j]? = some u → (w.alloc (.cells #[a, b, c, d] t)).cell? ((⟨w.heap.size, 0, none⟩ : Addr).add j) = some u := by
  intro j u hu
  have hx := (Box.new w #[a, b, c, d] t).cell j
  rw [Go.WideShapes.add_plain, Nat.zero_add, hx]
  simpa using hu
def CutsPost (w : World) (e : Ending) (w' : World) : Prop :=
  ∃ g n c cs, e = .returned (.slice (some ⟨g, 0, none⟩) n c) ∧ w'.ownsRow w.heap.size 35 4 (.slice (some ⟨g, 0, none⟩) n c) n (qd cs) ∧ (∀ x ∈ cs, CutD x) ∧ 1 ≤ n ∧ n ≤ 4 ∧ Below w.heap.size w w'

set_option maxRecDepth 100000 in
set_option maxHeartbeats 8000000 in
theorem a2Cuts_any (A : Option Addr) (n c : Nat) (w : World) (h : Bytes w A n c) :
    Calls Tryd.prog 20 #[.slice A n c] w (CutsPost w) := by
  obtain ⟨i0, hi, hz0, hz1, hz2⟩ := info_parts info_cut
  have hn := Nat.le_trans h.1 h.2.1
  have H := Lib.hid h
  clear h
  go_enter Tryd.func20, Tryd.ntmps20
  go_wp2_with fail
  refine (l00From_any A n c _ H.out).mono ?_
  rintro e w1 ⟨g, rfl, hs, hge, hb1⟩
  have hgl := hs.lt
  have S1 := Lib.hid (hs.alloc (.cells #[] 35))
  have ho0 : (w1.alloc (.cells #[] 35)).ownsRow w1.heap.size 35 4 (.slice (some ⟨w1.heap.size, 0, none⟩) 0 0) 0 (qd []) := World.ownsRow_made w1 #[] 0 (Nat.le_refl _) (by unfold maxLen; omega) rfl
  have hs1 := hb1.size
  have B1 := Lib.hid (hb1.alloc hs1 (.cells #[] 35))
  have O1 := Lib.hid ho0
  have hsz : (w1.alloc (.cells #[] 35)).heap.size = w1.heap.size + 1 := by simp
  have HSZ := Lib.hid hsz
  clear hs hb1 ho0 hsz
  go_wp2_with fail
  refine (pick_any g A n c 0 4 _ S1.out (by omega) hn).mono ?_
  rintro e w2 ⟨r0, ⟨p00, p01, _⟩, rfl, hs2, hg2⟩
  have p01 := p01 (by omega)
  have S2 := Lib.hid hs2
  have O2 := Lib.hid (own_other (g' := g) O1.out hg2 (by omega))
  have B2 := Lib.hid (B1.out.grown hg2 B1.out.size (fun k hk => by injection hk with hk; omega))
  have hs2 := hg2.size
  rw [HSZ.out] at hs2
  obtain ⟨T, hT⟩ := Int.eq_ofNat_of_zero_le (show 0 ≤ 1 + r0 by omega)
  have HT := Lib.hid hT
  have hT1 : 1 ≤ T ∧ T ≤ 4 := by omega
  clear hs2 hg2 hT S1 O1 B1 HSZ
  go_wp2_with fail
  go_loopw [4, 5] (fun vo vk wr => ∃ (j go oc : Nat) (cs : List CutV), j ≤ T ∧ vk = .int .i64 (1 + r0 - (j : Int)) ∧ vo = .slice (some ⟨go, 0, none⟩) j oc ∧ w1.heap.size ≤ go ∧ Hid (∀ x ∈ cs, CutD x) ∧ wr.ownsRow w1.heap.size 35 4 (.slice (some ⟨go, 0, none⟩) j oc) j (qd cs) ∧ Src wr g A n c (2 + 8 * j) ∧ Below w.heap.size w wr) (fun _ vk _ => (intOf vk).toNat)
  case atStart => exact ⟨0, _, _, [], Nat.zero_le _, by simp, rfl, Nat.le_refl _, Lib.hid (by simp), O2.out, S2.out, B2.out⟩
  case round =>
    obtain ⟨j, go, oc, cs, hjT, rfl, rfl, hgo, HD, hown, hsrc, hb⟩ := hrel
    have hTI := HT.out
    by_cases hlt : j < T
    · have hk0 : decide ((0 : Int) < 1 + r0 - (j : Int)) = true := decide_eq_true (by omega)
      have hk1 : (0 : Int) < 1 + r0 - (j : Int) := by omega
      have S := Lib.hid hsrc
      have O := Lib.hid hown
      have B := Lib.hid hb
      have hgl3 := hsrc.lt
      clear hown hsrc hb hTI
      go_wp2_with fail
      refine (l10New_any g A n c (2 + 8 * j) _ S.out (by omega) hn).mono ?_
      rintro e w3 ⟨x, hx, rfl, hs3, hg3⟩
      have O3 := Lib.hid (own_other (g' := g) O.out hg3 (by omega))
      have B3 := Lib.hid (B.out.grown hg3 B.out.size (fun k hk => by injection hk with hk; omega))
      have HS3 := Lib.hid hs3
      have hgo3 := own_block O3.out go rfl
      have hs3' := B3.out.size
      have hgl4 := hs3.lt
      have HD7 : Hid (∀ y ∈ cs ++ [x], CutD y) := Lib.hid (fun y hy => by
        rcases List.mem_append.1 hy with hy | hy
        · exact HD.out y hy
        · simp at hy; subst hy; exact hx)
      obtain ⟨x0, x1, x2, x3⟩ := x
      clear hs3 hg3 S O B hx
      simp only at *
      go_wp2_with (at_builtin; refine wpList_append_own_at _ rfl (.tmp 16) (.tmp 19) 32 rfl w1.heap.size 35 i0 (.agg #[.int .i64 0, .int .i64 0, .int .i64 0, .int .i64 0]) 4 32 Tryd.underlying32 hi hz0 hz1 hz2 rfl (by decide) (Value.slice (some ⟨go, 0, none⟩) j oc) _ _ rfl (O3.out.alloc _) ⟨_, 0, none⟩ 1 1 [.int .i64 x0, .int .i64 x1, .int .i64 x2, .int .i64 x3] rfl rfl (cells_four_new _ _ _ _ _ _) (by intro u hu; simp at hu; rcases hu with rfl | rfl | rfl | rfl <;> rfl) (by unfold maxLen; omega) (by omega) (by simp; omega) ?_; intro v' wa hown' hga hdel hblk; clear hdel hblk)
      have hal : Below w3.heap.size w3 (w3.alloc (.cells #[.int .i64 x0, .int .i64 x1, .int .i64 x2, .int .i64 x3] 35)) := (Below.refl _ _).alloc (Nat.le_refl _) _
      obtain ⟨g7, d7, hv, _, _⟩ := own_form hown' (by omega)
      have hg7 : w1.heap.size ≤ g7 := by rw [hv] at hown'; exact (own_block hown' g7 rfl).1
      have B7 : Below w.heap.size w wa := (B3.out.trans (hal.mono hs3')).grown hga (by simp; omega) (fun y hy => by simp [Value.ownBlock] at hy; omega)
      have S7 : Src wa g A n c (2 + 8 * j + 8) := by
        refine (HS3.out.below hal).keep ?_
        exact (Below.refl _ _).grown hga (by simp; omega) (fun y hy => by simp [Value.ownBlock] at hy; omega)
      have hq := qd_snoc cs ⟨x0, x1, x2, x3⟩
      simp only at hq
      rw [hq] at hown'
      have S8 := S7.more (show 2 + 8 * j + 8 ≤ 2 + 8 * (j + 1) by omega)
      subst hv
      clear hga hal S7 hq
      go_wp2
      go_roundw
      case rel => exact ⟨j + 1, g7, d7, _, by omega, by go_num, rfl, hg7, HD7, hown', S8, B7⟩
      case measure => simp [intOf]; omega
    · have hjt : j = T := by omega
      have hk0 : decide ((0 : Int) < 1 + r0 - (j : Int)) = false := decide_eq_false (by omega)
      have hk1 : ¬ (0 : Int) < 1 + r0 - (j : Int) := by omega
      have O := Lib.hid (own_base hown hs1)
      have hj1 : 1 ≤ j ∧ j ≤ 4 := by omega
      clear hown hsrc hTI hjt
      go_wp2
      go_ret
      exact ⟨_, _, _, _, rfl, O.out, HD.out, hj1.1, hj1.2, hb⟩

theorem strOf_chr {L : List Int} (hb : ∀ x ∈ L, 0 ≤ x ∧ x ≤ 255) {t : Nat} (ht : t < L.length) : chr (strOfNums L) t = L.getD t 0 := by
  have hs : t < (strOfNums L).size := by rw [strOfNums_size]; exact ht
  have hx := hb (L[t]'ht) (List.getElem_mem ht)
  have e : (strOfNums L)[t]'hs = UInt8.ofNat (L[t]'ht).toNat := by
    show (strOfNums L).data[t]'_ = _
    simp [strOfNums]
  rw [← chr_at hs, e, UInt8.toNat_ofNat']
  simp [List.getD, ht]
  omega
/-- The letters of a field. -/
def Let4 (x : Int) : Prop := x = 97 ∨ x = 98 ∨ x = 99 ∨ x = 120
theorem let_bd {x : Int} (h : Let4 x) : 0 ≤ x ∧ x ≤ 255 := by unfold Let4 at h; omega
theorem let_q {x : Int} (h : Let4 x) : 0 ≤ qS x := by rcases h with rfl | rfl | rfl | rfl <;> decide
/-- A drawn row. -/
structure RowD (m : Nat) (r : ByteArray) : Prop where
  sz : r.size = m
  q : ∀ j, j < r.size → 0 ≤ qS (chr r j)
theorem row_of {m : Nat} {L : List Int} (hl : L.length = m) (h : ∀ x ∈ L, Let4 x) : RowD m (strOfNums L) :=
  ⟨by rw [strOfNums_size, hl], fun j hj => by
    rw [strOfNums_size] at hj
    rw [strOf_chr (fun x hx => let_bd (h x hx)) hj]
    refine let_q (h _ ?_)
    simp [List.getD, hj]⟩
theorem hide_of {m : Nat} {rs : List ByteArray} (hn : 1 ≤ rs.length ∧ rs.length ≤ 6) (hm : 1 ≤ m ∧ m ≤ 6) (h : ∀ r ∈ rs, RowD m r) : HOk rs ∧ colN rs = m := by
  have h0 : (rs.getD 0 ByteArray.empty).size = m := by
    obtain ⟨r, hr⟩ : ∃ r, rs[0]? = some r := ⟨_, List.getElem?_eq_getElem (by omega)⟩
    have := (h r (List.mem_of_getElem? hr)).sz
    simp [List.getD, hr, this]
  refine ⟨⟨hn, fun r hr => ?_⟩, h0⟩
  rw [h0]
  have hd := h r hr
  exact ⟨by rw [hd.sz]; exact hm, hd.sz, hd.q⟩
def HidePost (w : World) (e : Ending) (w' : World) : Prop :=
  ∃ g n c m rs, e = .returned (.slice (some ⟨g, 0, none⟩) n c) ∧ w'.ownsRow w.heap.size 9 1 (.slice (some ⟨g, 0, none⟩) n c) n (txs rs) ∧ (∀ r ∈ rs, RowD m r) ∧ 1 ≤ n ∧ n ≤ 5 ∧ 1 ≤ m ∧ m ≤ 5 ∧ Below w.heap.size w w'
def abc7 : ByteArray := ⟨#[97, 97, 97, 98, 98, 99, 120]⟩
theorem abc_all : ∀ k, (h : k < 7) → ((abc7[k]'h).toNat : Int) = 97 ∨ ((abc7[k]'h).toNat : Int) = 98 ∨ ((abc7[k]'h).toNat : Int) = 99 ∨ ((abc7[k]'h).toNat : Int) = 120 := by decide
theorem abc_at {k : Nat} (h : k < 7) : Let4 ((abc7[k]'h).toNat : Int) := abc_all k h

def DrawPost (w : World) (g : Nat) (e : Ending) (w' : World) : Prop :=
  ∃ go k co m rs, e = .returned (.slice (some ⟨go, 0, none⟩) k co) ∧ w'.ownsRow w.heap.size 9 1 (.slice (some ⟨go, 0, none⟩) k co) k (txs rs) ∧ (∀ r ∈ rs, RowD m r) ∧ 1 ≤ k ∧ k ≤ 5 ∧ 1 ≤ m ∧ m ≤ 5 ∧ w.grownBy w' (some g)
set_option maxRecDepth 100000 in
set_option maxHeartbeats 8000000 in
theorem l10Draw_any (g : Nat) (A : Option Addr) (n c N : Nat) (w : World) (h : Src w g A n c N) (hN : N ≤ 800000000) (hn : n ≤ 9223372036854775807) :
    Calls Tryd.prog 50 #[.pointer (some ⟨g, 0, none⟩)] w (DrawPost w g) := by
  obtain ⟨i0, hi, hz0, hz1, hz2⟩ := info_parts info_str
  obtain ⟨i8, gi, gz0, gz1, gz2⟩ := info_parts info_u8
  have H := Lib.hid h
  have hgw := h.lt
  clear h
  go_enter Tryd.func50, Tryd.ntmps50
  go_wp2_with fail
  refine (pick_any g A n c N 5 _ H.out (by omega) hn).mono ?_
  rintro e w1 ⟨r0, ⟨p00, p01, _⟩, rfl, hs, hg⟩
  have p01 := p01 (by omega)
  obtain ⟨M, hM⟩ := Int.eq_ofNat_of_zero_le (show 0 ≤ 1 + r0 by omega)
  have hM1 : 1 ≤ M ∧ M ≤ 5 := by omega
  have hz1' := hg.size
  have hgb := hs.lt
  have S1 := Lib.hid (hs.alloc (.cells #[] 9))
  have G1 := Lib.hid (grown_alloc hg (.cells #[] 9))
  have O1 := Lib.hid (show (w1.alloc (.cells #[] 9)).ownsRow w1.heap.size 9 1 (.slice (some ⟨w1.heap.size, 0, none⟩) 0 0) 0 (txs []) from World.ownsRow_made w1 #[] 0 (Nat.le_refl _) (by unfold maxLen; omega) rfl)
  have hsz : (w1.alloc (.cells #[] 9)).heap.size = w1.heap.size + 1 := by simp
  have HSZ := Lib.hid hsz
  have HM := Lib.hid hM
  clear hs hg H hsz hM
  go_wp2_with fail
  refine (pick_any g A n c (N + 2) 5 _ S1.out (by omega) hn).mono ?_
  rintro e w2 ⟨r1, ⟨p10, p11, _⟩, rfl, hs2, hg2⟩
  have p11 := p11 (by omega)
  have S2 := Lib.hid hs2
  have O2 := Lib.hid (own_other (g' := g) O1.out hg2 (by omega))
  have G2 := Lib.hid (World.grownBy.trans G1.out hg2)
  obtain ⟨T, hT⟩ := Int.eq_ofNat_of_zero_le (show 0 ≤ 1 + r1 by omega)
  have hT1 : 1 ≤ T ∧ T ≤ 5 := by omega
  have HT := Lib.hid hT
  clear hs2 hg2 hT S1 O1 G1 HSZ
  go_wp2_with fail
  go_loopw [4, 5] (fun vo vk wr => ∃ (j go oc : Nat) (rs : List ByteArray), j ≤ T ∧ vk = .int .i64 (1 + r1 - (j : Int)) ∧ vo = .slice (some ⟨go, 0, none⟩) j oc ∧ w1.heap.size ≤ go ∧ Hid (∀ r ∈ rs, RowD M r) ∧ Hid (wr.ownsRow w1.heap.size 9 1 (.slice (some ⟨go, 0, none⟩) j oc) j (txs rs)) ∧ Hid (Src wr g A n c (N + 4 + 10 * j)) ∧ Hid (w.grownBy wr (some g))) (fun _ vk _ => (intOf vk).toNat)
  case atStart => exact ⟨0, _, _, [], Nat.zero_le _, by simp, rfl, Nat.le_refl _, Lib.hid (by simp), O2, S2, G2⟩
  case round =>
    clear O2 S2 G2
    obtain ⟨j, go, oc, rs, hjT, rfl, rfl, hgo, HD, O, S, G⟩ := hrel
    obtain ⟨w3, rfl⟩ : ∃ w', w' = wr := ⟨_, rfl⟩
    have hTI := HT.out
    have hgl3 := S.out.lt
    have hcap := (Rd.of_own O.out).cap
    have hmax := (Rd.of_own O.out).max
    have hgo3 := own_block O.out go rfl
    by_cases hlt : j < T
    · have hk0 : decide ((0 : Int) < 1 + r1 - (j : Int)) = true := decide_eq_true (by omega)
      have hk1 : (0 : Int) < 1 + r1 - (j : Int) := by omega
      have S3 := Lib.hid (S.out.alloc (.cells #[] 5))
      have G3 := Lib.hid (grown_alloc (World.grownBy.refl w3 (some g)) (.cells #[] 5))
      have O3 := Lib.hid (show (w3.alloc (.cells #[] 5)).ownsRow w3.heap.size 5 1 (.slice (some ⟨w3.heap.size, 0, none⟩) 0 0) 0 (bys []) from World.ownsRow_made w3 #[] 0 (Nat.le_refl _) (by unfold maxLen; omega) rfl)
      clear hTI
      go_wp2_with fail
      rw [show decide ((j : Int) < 1 + r1) = true from decide_eq_true (by omega)]
      go_loopw [6, 7] (fun vl vx wz => ∃ (x gl cl : Nat) (L : List Int), x ≤ M ∧ vx = .int .i64 x ∧ vl = .slice (some ⟨gl, 0, none⟩) x cl ∧ Hid (∀ z ∈ L, Let4 z) ∧ Hid (wz.ownsRow w3.heap.size 5 1 (.slice (some ⟨gl, 0, none⟩) x cl) x (bys L)) ∧ Hid (Src wz g A n c (N + 4 + 10 * j + 2 * x)) ∧ Hid (w3.grownBy wz (some g))) (fun _ vx _ => M - (intOf vx).toNat)
      case atStart => exact ⟨0, _, _, [], Nat.zero_le _, rfl, rfl, Lib.hid (by simp), O3, S3, G3⟩
      case round =>
        clear O3 S3 G3
        obtain ⟨x, gl, cl, L, hx, rfl, rfl, HL, OL, SL, GL⟩ := hrel
        obtain ⟨w4, rfl⟩ : ∃ w', w' = wr := ⟨_, rfl⟩
        have hgl := own_block OL.out gl rfl
        have hcl := (Rd.of_own OL.out).cap
        have hml := (Rd.of_own OL.out).max
        have hsl := GL.out.size
        have hMI := HM.out
        have hlen : L.length = x := by have := OL.out.1; simpa [bys] using this
        by_cases hxm : x < M
        · have hx1 : (x : Int) < 1 + r0 := by omega
          clear hMI
          go_wp2_with fail
          refine (pick_any g A n c (N + 4 + 10 * j + 2 * x) 7 _ SL.out (by omega) hn).mono ?_
          rintro e w5 ⟨r, ⟨q0, q1, _⟩, rfl, hs5, hg5⟩
          have q1 := q1 (by omega)
          obtain ⟨q, rfl⟩ := Int.eq_ofNat_of_zero_le q0
          have q7 : q < 7 := by omega
          have OL5 := Lib.hid (own_other (g' := g) OL.out hg5 (by omega))
          have G5 := Lib.hid (World.grownBy.trans GL.out hg5)
          have S5 := Lib.hid hs5
          have hs5z := hg5.size
          have hgl5 := hs5.lt
          have hlet := abc_at q7
          have hq := bys_snoc L ((abc7[q]'q7).toNat : Int)
          have HLET := Lib.hid hlet
          have HQ := Lib.hid hq
          have qI : (q : Int) < 7 := by omega
          clear hs5 hg5 OL GL SL hlet hq q1
          go_wp2_with (at_builtin; refine wpList_append_own_at _ rfl (.tmp 25) (.tmp 29) 29 rfl w3.heap.size 5 i8 (.int .u8 0) 1 1 Tryd.underlying29 gi gz0 gz1 gz2 rfl (by decide) (Value.slice (some ⟨gl, 0, none⟩) x cl) _ _ rfl (OL5.out.alloc _) ⟨_, 0, none⟩ 1 1 [.int .u8 ((abc7[q]'q7).toNat : Int)] rfl rfl (cell_one_new _ _ _) (by intro u hu; simp at hu; subst hu; rfl) (by unfold maxLen; omega) (by omega) (by simp; omega) ?_; intro v' wa hown' hga hdel hblk; clear hdel hblk)
          have hal : Below w5.heap.size w5 (w5.alloc (.cells #[.int .u8 ((abc7[q]'q7).toNat : Int)] 5)) := (Below.refl _ _).alloc (Nat.le_refl _) _
          obtain ⟨g6, d6, hv, hg6, _⟩ := own_form hown' (by omega)
          rw [HQ.out] at hown'
          have G6 : w3.grownBy wa (some g) := grown_own (b := gl) (grown_bel G5.out hal) hga (by omega)
          have S6 : Src wa g A n c (N + 4 + 10 * j + 2 * (x + 1)) := ((S5.out.below hal).keep ((Below.refl _ _).grown hga (by simp; omega) (fun y hy => by simp [Value.ownBlock] at hy; omega))).more (by omega)
          have HL6 : Hid (∀ z ∈ L ++ [((abc7[q]'q7).toNat : Int)], Let4 z) := Lib.hid (fun z hz => by
            rcases List.mem_append.1 hz with hz | hz
            · exact HL.out z hz
            · simp at hz; subst hz; exact HLET.out)
          subst hv
          have HO6 := Lib.hid hown'
          have HG6 := Lib.hid G6
          have HS6 := Lib.hid S6
          clear hown' hga hal G6 S6 HQ HLET
          go_wp2
          go_roundw
          case rel => exact ⟨x + 1, g6, d6, _, by omega, by go_num, rfl, HL6, HO6, HS6, HG6⟩
          case measure => simp [intOf]; omega
        · have hxe : x = M := by omega
          subst hxe
          have hx1 : ¬ (x : Int) < 1 + r0 := by omega
          have hx2 : decide ((x : Int) < 1 + r0) = false := decide_eq_false hx1
          have hRD := row_of hlen HL.out
          have hcv := run_convert_bytes_arg (P := Tryd.prog) w4 29 5 Tryd.underlying29 Tryd.underlying5 gl 0 x cl L hlen (own_bys OL.out) 9 Tryd.underlying9
          have O4 := Lib.hid (own_other (g' := g) O.out GL.out (by omega))
          have G4 := Lib.hid (World.grownBy.trans G.out GL.out)
          have hgs4 := SL.out.lt
          have hzz := G4.out.size
          have hnx := txs_snoc rs (strOfNums L)
          have HNX := Lib.hid hnx
          have HD4 : Hid (∀ r ∈ rs ++ [strOfNums L], RowD x r) := Lib.hid (fun r hr => by
            rcases List.mem_append.1 hr with hr | hr
            · exact HD.out r hr
            · simp at hr; subst hr; exact hRD)
          have hgo4 := own_block O4.out go rfl
          generalize strOfNums L = r2 at *
          clear hMI hRD OL hnx hlen
          go_wp2_with (at_builtin; refine wpList_append_own_at _ rfl (.tmp 31) (.tmp 34) 22 rfl w1.heap.size 9 i0 (.string ByteArray.empty) 1 16 Tryd.underlying22 hi hz0 hz1 hz2 rfl (by decide) (Value.slice (some ⟨go, 0, none⟩) j oc) _ _ rfl (O4.out.alloc _) ⟨_, 0, none⟩ 1 1 [.string r2] rfl rfl (cell_one_new _ _ _) (by intro u hu; simp at hu; subst hu; rfl) (by unfold maxLen; omega) (by omega) (by simp; omega) ?_; intro v' wa hown' hga hdel hblk; clear hdel hblk)
          have hal : Below w4.heap.size w4 (w4.alloc (.cells #[.string r2] 9)) := (Below.refl _ _).alloc (Nat.le_refl _) _
          obtain ⟨g6, d6, hv, hg6, _⟩ := own_form hown' (by omega)
          rw [HNX.out] at hown'
          have G6 : w.grownBy wa (some g) := grown_own (b := go) (grown_bel G4.out hal) hga (by omega)
          have S6 : Src wa g A n c (N + 4 + 10 * (j + 1)) := ((SL.out.below hal).keep ((Below.refl _ _).grown hga (by simp; omega) (fun y hy => by simp [Value.ownBlock] at hy; omega))).more (by omega)
          subst hv
          have HO6 := Lib.hid hown'
          have HG6 := Lib.hid G6
          have HS6 := Lib.hid S6
          clear hown' hga hal G6 S6 HNX
          go_wp2
          go_roundw
          case rel => exact ⟨j + 1, g6, d6, _, by omega, by go_num, rfl, hg6, HD4, HO6, HS6, HG6⟩
          case measure => simp [intOf]; omega
    · have hjt : j = T := by omega
      have hk0 : decide ((0 : Int) < 1 + r1 - (j : Int)) = false := decide_eq_false (by omega)
      have hk1 : ¬ (0 : Int) < 1 + r1 - (j : Int) := by omega
      have hk3 : ¬ (j : Int) < 1 + r1 := by omega
      have hj1 : 1 ≤ j ∧ j ≤ 5 := by omega
      clear hTI hjt
      go_wp2
      go_ret
      exact ⟨_, _, _, _, _, rfl, own_base O.out hz1', HD.out, hj1.1, hj1.2, hM1.1, hM1.2, G.out⟩

set_option maxRecDepth 100000 in
set_option maxHeartbeats 1000000 in
theorem a2Hide_any (A : Option Addr) (n c : Nat) (w : World) (h : Bytes w A n c) :
    Calls Tryd.prog 19 #[.slice A n c] w (HidePost w) := by
  have hn := Nat.le_trans h.1 h.2.1
  have H := Lib.hid h
  clear h
  go_enter Tryd.func19, Tryd.ntmps19
  go_wp2_with fail
  refine (l00From_any A n c _ H.out).mono ?_
  rintro e w1 ⟨g, rfl, hs, hge, hb1⟩
  have S1 := Lib.hid hs
  have B1 := Lib.hid hb1
  clear hs hb1
  go_wp2_with fail
  refine (l10Draw_any g A n c 0 _ S1.out (by omega) hn).mono ?_
  rintro e w2 ⟨go, k, co, m, rs, rfl, ho, hD, hk1, hk5, hm1, hm5, hg⟩
  have O2 := Lib.hid (own_base ho B1.out.size)
  have B2 := Lib.hid (below_of_grown B1.out hg hge)
  clear ho hg
  go_wp2
  go_ret
  exact ⟨go, k, co, m, rs, rfl, O2.out, hD, hk1, hk5, hm1, hm5, B2.out⟩
end Go.Proofs.YtiibhejjeijdaaaDoor
