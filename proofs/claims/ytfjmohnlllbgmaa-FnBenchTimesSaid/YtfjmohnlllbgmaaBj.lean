/- Drawn jobs and a drawn order: A2Jobs, A2Order. Printed by mkbj.py. -/
import Derived.Test.YtfjmohnlllbgmaaLg
import Derived.Test.YtfjmohnlllbgmaaVj
import Derived.Test.YtfjmohnlllbgmaaPr2
namespace Go.Proofs.Ytfjmohnlllbgmaa
open Go.RowKit Go.Shelf

theorem pr_snoc (ps : List (Int × Int)) (x y : Int) : pr ps ++ [.int .i64 x, .int .i64 y] = pr (ps ++ [(x, y)]) := by rw [pr_append]; rfl
/-- Drawn jobs are valid. -/
structure DrawnJ (ps : List (Int × Int)) : Prop where
  job : ∀ p ∈ ps, (1 ≤ p.1 ∧ p.1 ≤ 12) ∧ (1 ≤ p.2 ∧ p.2 ≤ 12)
theorem DrawnJ.jobs {ps : List (Int × Int)} (h : DrawnJ ps) (hl : ps.length ≤ 7) : jobsB ps = true := by
  rw [jobs_ok (fun j p _ hp => by
    have := h.job p (List.mem_of_getElem? hp)
    unfold jobB
    rw [inB_mk (by omega) (by omega), inB_mk (by omega) (by omega)]
    rfl)]
  simpa using hl
def JobsPost (w : World) (e : Ending) (w' : World) : Prop :=
  ∃ g n c ps, e = .returned (.slice (some ⟨g, 0, none⟩) n c) ∧ w'.ownsRow w.heap.size 46 2 (.slice (some ⟨g, 0, none⟩) n c) n (pr ps) ∧ DrawnJ ps ∧ 1 ≤ n ∧ n ≤ 6 ∧ Below w.heap.size w w'

set_option maxRecDepth 100000 in
set_option maxHeartbeats 8000000 in
theorem a2Jobs_any (A : Option Addr) (n c : Nat) (w : World) (h : Bytes w A n c) :
    Calls Try.prog 24 #[.slice A n c] w (JobsPost w) := by
  obtain ⟨i0, hi, hz0, hz1, hz2⟩ := info_parts info_pr
  have hn := Nat.le_trans h.1 h.2.1
  have H := Lib.hid h
  clear h
  go_enter Try.func24, Try.ntmps24
  go_wp2_with fail
  refine (l00From_any A n c _ H.out).mono ?_
  rintro e w1 ⟨g, rfl, hs, hge, hb1⟩
  have hgl := hs.lt
  have S1 := Lib.hid (hs.alloc (.cells #[] 46))
  have ho0 : (w1.alloc (.cells #[] 46)).ownsRow w1.heap.size 46 2 (.slice (some ⟨w1.heap.size, 0, none⟩) 0 0) 0 (pr []) := World.ownsRow_made w1 #[] 0 (Nat.le_refl _) (by unfold maxLen; omega) rfl
  have hs1 := hb1.size
  have B1 := Lib.hid (hb1.alloc hs1 (.cells #[] 46))
  have O1 := Lib.hid ho0
  have hsz : (w1.alloc (.cells #[] 46)).heap.size = w1.heap.size + 1 := by simp
  have HSZ := Lib.hid hsz
  clear hs hb1 ho0 hsz
  go_wp2_with fail
  refine (pick_any g A n c 0 6 _ S1.out (by omega) hn).mono ?_
  rintro e w2 ⟨r0, ⟨p00, p01, _⟩, rfl, hs2, hg2⟩
  have p01 := p01 (by omega)
  have S2 := Lib.hid hs2
  have O2 := Lib.hid (own_other (g' := g) O1.out hg2 (by omega))
  have B2 := Lib.hid (B1.out.grown hg2 B1.out.size (fun k hk => by injection hk with hk; omega))
  have hs2 := hg2.size
  rw [HSZ.out] at hs2
  obtain ⟨T, hT⟩ := Int.eq_ofNat_of_zero_le (show 0 ≤ 1 + r0 by omega)
  have HT := Lib.hid hT
  have hT1 : 1 ≤ T ∧ T ≤ 6 := by omega
  clear hs2 hg2 hT S1 O1 B1 HSZ
  go_wp2_with fail
  go_loopw [4, 5] (fun vo vk wr => ∃ (j go oc : Nat) (ps : List (Int × Int)), j ≤ T ∧ vk = .int .i64 (1 + r0 - (j : Int)) ∧ vo = .slice (some ⟨go, 0, none⟩) j oc ∧ w1.heap.size ≤ go ∧ Hid (DrawnJ ps) ∧ wr.ownsRow w1.heap.size 46 2 (.slice (some ⟨go, 0, none⟩) j oc) j (pr ps) ∧ Src wr g A n c (2 + 4 * j) ∧ Below w.heap.size w wr) (fun _ vk _ => (intOf vk).toNat)
  case atStart => exact ⟨0, _, _, [], Nat.zero_le _, by simp, rfl, Nat.le_refl _, Lib.hid ⟨by simp⟩, O2.out, S2.out, B2.out⟩
  case round =>
    obtain ⟨j, go, oc, ps, hjT, rfl, rfl, hgo, HD, hown, hsrc, hb⟩ := hrel
    have hTI := HT.out
    by_cases hlt : j < T
    · have hk0 : decide ((0 : Int) < 1 + r0 - (j : Int)) = true := decide_eq_true (by omega)
      have hk1 : (0 : Int) < 1 + r0 - (j : Int) := by omega
      have S := Lib.hid hsrc
      have O := Lib.hid hown
      have B := Lib.hid hb
      have hgl3 := hsrc.lt
      clear hown hsrc hb hTI
      go_wp2_with fail
      refine (pick_any g A n c (2 + 4 * j) 12 _ S.out (by omega) hn).mono ?_
      rintro e w3 ⟨r1, ⟨p10, p11, _⟩, rfl, hs3, hg3⟩
      have p11 := p11 (by omega)
      have O3 := own_other (g' := g) O.out hg3 (by omega)
      have B3 := B.out.grown hg3 B.out.size (fun k hk => by injection hk with hk; omega)
      have ALC : Below w3.heap.size w3 (w3.alloc (.cells #[.int .i64 (1 + r1), .int .i64 0] 46)) := (by go_grown)
      have X3 := Box.new w3 #[.int .i64 (1 + r1), .int .i64 0] 46
      have S4 := Lib.hid (hs3.below ALC)
      have O4 := Lib.hid (own_below O3 ALC)
      have B4 := Lib.hid (B3.trans (ALC.mono B3.size))
      have hg3l := hs3.lt
      have hgo3 := (own_block O3 go rfl).2
      have hs3' := B3.size
      clear hs3 hg3 O3 B3 ALC S O B
      go_wp2_with fail
      refine (pick_any g A n c (2 + 4 * j + 2) 12 _ S4.out (by omega) hn).mono ?_
      rintro e w5 ⟨r2, ⟨p20, p21, _⟩, rfl, hs5, hg5⟩
      have p21 := p21 (by omega)
      have hs5z := hg5.size
      have hsz3 : (w3.alloc (.cells #[.int .i64 (1 + r1), .int .i64 0] 46)).heap.size = w3.heap.size + 1 := by simp
      rw [hsz3] at hs5z
      have X5 := X3.only hg5 (by omega)
      have O5 := own_other (g' := g) O4.out hg5 (by omega)
      have B5 := B4.out.grown hg5 B4.out.size (fun k hk => by injection hk with hk; omega)
      have c51 : w5.cell? ⟨w3.heap.size, 1, none⟩ = some (.int .i64 0) := X5.cell 1
      have f5 := X5.froz
      have X6 := X5.set 1 (.int .i64 (1 + r2)) (by simp)
      have S6 := hs5.set (L := w3.heap.size) (i := 1) hg3l (.int .i64 (1 + r2))
      have G6 := (World.grownBy.refl w5 (some w3.heap.size))
      have gs : w5.grownBy (w5.setCell ⟨w3.heap.size, 1, none⟩ (.int .i64 (1 + r2))) (some w3.heap.size) := grown_set (World.grownBy.refl _ _) _
      have O6 := own_other (g' := w3.heap.size) O5 gs (by omega)
      have B6 : Below w.heap.size w (w5.setCell ⟨w3.heap.size, 1, none⟩ (.int .i64 (1 + r2))) := B5.setCell (show w.heap.size ≤ w3.heap.size by omega) _
      have hz6 : (w5.setCell ⟨w3.heap.size, 1, none⟩ (.int .i64 (1 + r2))).heap.size = w5.heap.size := by simp
      have d0 : (w5.setCell ⟨w3.heap.size, 1, none⟩ (.int .i64 (1 + r2))).cell? ⟨w3.heap.size, 0, none⟩ = some (.int .i64 (1 + r1)) := X6.cell 0
      have d1 : (w5.setCell ⟨w3.heap.size, 1, none⟩ (.int .i64 (1 + r2))).cell? ⟨w3.heap.size, 1, none⟩ = some (.int .i64 (1 + r2)) := X6.cell 1
      have hb6 := B6.size
      rw [hz6] at hb6
      have HS6 := Lib.hid S6
      have HO6 := Lib.hid O6
      have HB6 := Lib.hid B6
      have HZ6 := Lib.hid hz6
      clear hs5 hg5 X5 O5 B5 X6 S6 G6 gs O6 B6 S4 O4 B4 X3 hz6 hsz3
      go_wp2_with (at_builtin; refine wpList_append_own_at _ rfl (.tmp 25) (.tmp 27) 25 rfl w1.heap.size 46 i0 (.agg #[.int .i64 0, .int .i64 0]) 2 16 Try.underlying25 hi hz0 hz1 hz2 rfl (by decide) (Value.slice (some ⟨go, 0, none⟩) j oc) _ _ rfl (HO6.out.alloc _) ⟨_, 0, none⟩ 1 1 [.int .i64 (1 + r1), .int .i64 (1 + r2)] rfl rfl (by have := cell_two_new (w5.setCell ⟨w3.heap.size, 1, none⟩ (.int .i64 (1 + r2))) (.int .i64 (1 + r1)) (.int .i64 (1 + r2)) 46; rw [HZ6.out] at this; exact this) (by intro u hu; simp at hu; rcases hu with rfl | rfl <;> rfl) (by unfold maxLen; omega) (by omega) (by simp; omega) ?_; intro v' wa hown' hga hdel hblk)
      obtain ⟨g7, d7, hv, _, _⟩ := own_form hown' (by omega)
      have hal : Below (w5.setCell ⟨w3.heap.size, 1, none⟩ (.int .i64 (1 + r2))).heap.size (w5.setCell ⟨w3.heap.size, 1, none⟩ (.int .i64 (1 + r2))) ((w5.setCell ⟨w3.heap.size, 1, none⟩ (.int .i64 (1 + r2))).alloc (.cells #[.int .i64 (1 + r1), .int .i64 (1 + r2)] 46)) := (Below.refl _ _).alloc (Nat.le_refl _) _
      have hg7 : w1.heap.size ≤ g7 := by rw [hv] at hown'; exact (own_block hown' g7 rfl).1
      have B7 : Below w.heap.size w wa := (HB6.out.trans (hal.mono HB6.out.size)).grown hga (by simp; omega) (fun y hy => by simp [Value.ownBlock] at hy; omega)
      have S7 : Src wa g A n c (2 + 4 * j + 2 + 2) := by
        refine (HS6.out.below hal).keep ?_
        exact (Below.refl _ _).grown hga (by simp; omega) (fun y hy => by simp [Value.ownBlock] at hy; omega)
      rw [pr_snoc] at hown'
      have HD7 : Hid (DrawnJ (ps ++ [(1 + r1, 1 + r2)])) := Lib.hid ⟨fun p hp => by
        rcases List.mem_append.1 hp with hp | hp
        · exact HD.out.job p hp
        · simp at hp; subst hp; simp only; omega⟩
      have S8 := S7.more (show 2 + 4 * j + 2 + 2 ≤ 2 + 4 * (j + 1) by omega)
      subst hv
      clear hga hdel hblk hal S7
      go_roundw
      case rel => exact ⟨j + 1, g7, d7, _, by omega, by go_num, rfl, hg7, HD7, hown', S8, B7⟩
      case measure => simp [intOf]; omega
    · have hjt : j = T := by omega
      have hk0 : decide ((0 : Int) < 1 + r0 - (j : Int)) = false := decide_eq_false (by omega)
      have hk1 : ¬ (0 : Int) < 1 + r0 - (j : Int) := by omega
      have O := Lib.hid (own_base hown hs1)
      have hj1 : 1 ≤ j ∧ j ≤ 6 := by omega
      clear hown hsrc hTI hjt
      go_wp2
      go_ret
      exact ⟨_, _, _, _, rfl, O.out, HD.out, hj1.1, hj1.2, hb⟩

def OrderPost (w : World) (n : Nat) (e : Ending) (w' : World) : Prop :=
  ∃ g c os, e = .returned (.slice (some ⟨g, 0, none⟩) n c) ∧ w'.ownsRow w.heap.size 2 1 (.slice (some ⟨g, 0, none⟩) n c) n (ints os) ∧ os.Perm (upto n) ∧ Below w.heap.size w w'
theorem perm_put {k j : Nat} {L : List Int} (h : L.Perm (upto k)) : (L.take j ++ [(k : Int)] ++ L.drop j).Perm (upto (k + 1)) := by
  have e : upto (k + 1) = upto k ++ [(k : Int)] := by simp [upto, List.range_succ]
  rw [e]
  have h1 : (L.take j ++ [(k : Int)] ++ L.drop j).Perm ([(k : Int)] ++ (L.take j ++ L.drop j)) := by
    rw [List.append_assoc]
    exact List.perm_append_comm_assoc _ _ _
  rw [List.take_append_drop] at h1
  exact h1.trans ((List.perm_append_comm).trans (h.append_right _))

set_option maxRecDepth 100000 in
set_option maxHeartbeats 8000000 in
theorem a2Order_any (A : Option Addr) (l c n : Nat) (w : World) (h : Bytes w A l c) (hn : n ≤ 7) :
    Calls Try.prog 25 #[.slice A l c, .int .i64 n] w (OrderPost w n) := by
  obtain ⟨i0, hi, hz0, hz1, hz2⟩ := info_parts info_i64r
  have hl := Nat.le_trans h.1 h.2.1
  have H := Lib.hid h
  clear h
  go_enter Try.func25, Try.ntmps25
  go_wp2_with fail
  refine (l00From_any A l c _ H.out).mono ?_
  rintro e w1 ⟨gs, rfl, hs, hge, hb1⟩
  have hgl := hs.lt
  have S1 := Lib.hid (hs.alloc (.cells #[] 2))
  have ho0 : (w1.alloc (.cells #[] 2)).ownsRow w1.heap.size 2 1 (.slice (some ⟨w1.heap.size, 0, none⟩) 0 0) 0 (ints []) := World.ownsRow_made w1 #[] 0 (Nat.le_refl _) (by unfold maxLen; omega) rfl
  have hs1 := hb1.size
  have B1 := Lib.hid (hb1.alloc hs1 (.cells #[] 2))
  have O1 := Lib.hid ho0
  clear hs hb1 ho0
  go_wp2_with fail
  go_loopw [6, 7] (fun vo vi wr => ∃ (k g oc : Nat) (L : List Int), k ≤ n ∧ vi = .int .i64 k ∧ vo = .slice (some ⟨g, 0, none⟩) k oc ∧ w1.heap.size ≤ g ∧ Hid (L.Perm (upto k)) ∧ wr.ownsRow w1.heap.size 2 1 (.slice (some ⟨g, 0, none⟩) k oc) k (ints L) ∧ Src wr gs A l c (2 * k) ∧ Below w.heap.size w wr) (fun _ vi _ => n - (intOf vi).toNat)
  case atStart => exact ⟨0, _, _, [], Nat.zero_le _, rfl, rfl, Nat.le_refl _, Lib.hid (by simp [upto]), O1.out, S1.out, B1.out⟩
  case round =>
    obtain ⟨k, g, oc, L, hk, rfl, rfl, hg1, HP, hown, hsrc, hb⟩ := hrel
    by_cases hlt : k < n
    · have hk0 : (0 : Int) ≤ (k : Int) := by omega
      have hk1 : (k : Int) < (n : Int) := by omega
      have hkd : decide ((k : Int) < (n : Int)) = true := decide_eq_true hk1
      have hLl : L.length = k := by rw [HP.out.length_eq, upto_len]
      have HLL := Lib.hid hLl
      have S := Lib.hid hsrc
      have O := Lib.hid hown
      have B := Lib.hid hb
      clear hown hsrc hb hLl
      go_wp2_with fail
      refine (pick_any gs A l c (2 * k) ((k : Int) + 1) _ S.out (by omega) hl).mono ?_
      rintro e w6 ⟨r, ⟨p0, p1, _⟩, rfl, hs6', hg6⟩
      have p1 := p1 (by omega)
      obtain ⟨j, rfl⟩ := Int.eq_ofNat_of_zero_le p0
      have hj : j ≤ k := by omega
      have O6 := Lib.hid (own_other (g' := gs) O.out hg6 (by omega))
      have B6 := B.out.grown hg6 B.out.size (fun y hy => by injection hy with hy; omega)
      have HB6 := Lib.hid B6
      have HS6 := Lib.hid hs6'
      have hgs6 := hs6'.lt
      clear hs6' hg6 B6 S O B
      have R1 := Rd.of_own O6.out
      have Rt := Lib.hid (R1.takeI (j := j) hj)
      obtain ⟨b2, o2, hsl, hrd⟩ := slice_tail R1 (j := j) (j : Int) (by omega) hj
      have hsh := slice_head g 0 k oc j (j : Int) (by omega) (Nat.le_trans hj R1.cap)
      have Rt2 := Lib.hid hrd
      have hj0' : (0 : Int) ≤ ((j : Nat) : Int) := by omega
      have hj1' : ((j : Nat) : Int) ≤ (k : Int) := by omega
      have hj2' : ((j : Nat) : Int) ≤ (oc : Int) := by have := R1.cap; omega
      have hs6 := HB6.out.size
      have hs6w : w1.heap.size ≤ w6.heap.size := by have := (own_block O6.out g rfl); omega
      clear hrd R1
      go_wp2_with fail
      refine (l00Own_any g 0 j oc (L.take j) _ Rt.out (by omega)).mono ?_
      rintro e w8 ⟨g8, d8, rfl, hown8, hb8⟩
      have HO8 := Lib.hid (own_base hown8 hs6w)
      have HOB8 := Lib.hid (own_block hown8)
      have HB8 := Lib.hid (HB6.out.trans (hb8.mono hs6))
      have HS8 := Lib.hid (HS6.out.below hb8)
      have hs8w : w1.heap.size ≤ w8.heap.size := by have := hb8.size; omega
      have Rt8 := Lib.hid (Rt2.out.below hb8)
      have HBO : Hid (0 < k - j → b2 < w6.heap.size) := Lib.hid (fun h0 => by
        obtain ⟨b', o', hA, hlt', _⟩ := Rt2.out.at0 (by rw [ints_len, List.length_drop, HLL.out]; exact h0)
        injection hA with hA
        injection hA with e1 e2
        omega)
      have hs8 := HB8.out.size
      have hg8 := own_block hown8 g8 rfl
      clear hown8 hb8 Rt2 Rt
      have hA8 : Below w8.heap.size w8 (w8.alloc (.cells #[.int .i64 k] 2)) := (by go_grown)
      have HA8 := Lib.hid hA8
      have hdl : (L.drop j).length = k - j := by rw [List.length_drop, HLL.out]
      have HDL := Lib.hid hdl
      clear hA8 hdl
      go_wp2_with (first | (at_builtin; refine wpList_append_own _ rfl (.tmp 26) (.tmp 28) 34 rfl w1.heap.size 2 i0 (.int .i64 0) 1 8 Try.underlying34 hi hz0 hz1 hz2 rfl (by decide) (Value.slice (some ⟨g8, 0, none⟩) j d8) _ _ rfl (HO8.out.alloc _) ⟨_, 0, none⟩ 1 1 [.int .i64 k] rfl rfl (cell_one_new _ _ _) (by intro u hu; simp at hu; subst hu; rfl) (by unfold maxLen; omega) (by omega) (by simp; omega) ?_; intro v' wa hown' hga hdel; clear hdel) | (at_builtin; (refine wpList_append_own _ rfl (.tmp 30) (.tmp 33) 34 rfl w1.heap.size 2 i0 (.int .i64 0) 1 8 Try.underlying34 hi hz0 hz1 hz2 rfl (by decide) v' _ _ rfl hown' ⟨b2, o2, none⟩ (k - j) (oc - j) (ints (L.drop j)) rfl (by rw [ints_len, HDL.out]; omega) (Rd.newsI (Rd.other (g := g8) (Rt8.out.below HA8.out) hga (by intro h0; have := HBO.out (by rw [ints_len, HDL.out] at h0; exact h0); omega))) (ints_one _) (by unfold maxLen; omega) (by omega) (by have := hga.size; simp at this; omega) ?_; intro v2 wb hown2 hga2 hdel; clear hdel)))
      have b9 : Below w.heap.size w wa := (HB8.out.trans (HA8.out.mono hs8)).grown hga (by simp; omega) (fun y hy => by simp [Value.ownBlock] at hy; omega)
      have b10 : Below w.heap.size w wb := b9.grown hga2 b9.size (fun y hy => Nat.le_trans hs1 (hown'.lt y hy).1)
      have S9 : Src wa gs A l c (2 * k + 2) := (HS8.out.below HA8.out).keep ((Below.refl _ _).grown hga (by simp; omega) (fun y hy => by simp [Value.ownBlock] at hy; omega))
      have S10 : Src wb gs A l c (2 * (k + 1)) := S9.keep ((Below.refl _ _).grown hga2 (by have := S9.lt; omega) (fun y hy => by have := (hown'.lt y hy).1; omega))
      have hlen : j + 1 + (k - j) = k + 1 := by omega
      rw [ints_snoc, ← ints_append, hlen] at hown2
      have HP2 := Lib.hid (perm_put (j := j) HP.out)
      obtain ⟨g10, d10, hv10, hg10, _⟩ := own_form hown2 (by omega)
      subst hv10
      clear hga hga2 hlen S9
      go_roundw
      case rel => exact ⟨k + 1, _, _, _, by omega, by go_num, rfl, hg10, HP2, hown2, S10, b10⟩
      case measure => simp [intOf]; omega
    · have : k = n := by omega
      subst this
      have O := Lib.hid (own_base hown hs1)
      clear hown hsrc
      go_wp2
      go_ret
      exact ⟨_, _, _, rfl, O.out, HP.out, hb⟩
end Go.Proofs.Ytfjmohnlllbgmaa
