/- TallRows of the reference, and the law. Printed by mktl6.py. -/
import Derived.Test.YthdbaflihgkomaaTl5
import Derived.Test.YthdbaflihgkomaaIns
namespace Go.Proofs.Ythdbaflihgkomaa
open Go.RowKit Go.Shelf

theorem Rd.other {w w' : World} {b o k n c g : Nat} {cs : List Value} (h : Rd w k (some ⟨b, o, none⟩) n c cs) (hg : w.grownBy w' (some g)) (hne : 0 < cs.length → b ≠ g) : Rd w' k (some ⟨b, o, none⟩) n c cs :=
  ⟨h.len, h.cap, h.max, fun h0 => by
    obtain ⟨b', o', hA, hlt, hc⟩ := h.at0 h0
    injection hA with hA
    injection hA with e1 e2
    subst e1
    subst e2
    exact ⟨_, _, rfl, Nat.lt_of_lt_of_le hlt hg.size, fun j hj => (World.cell?_of_block (hg.block b hlt (by simpa using hne h0))).trans (hc j hj)⟩⟩

set_option maxRecDepth 100000 in
set_option maxHeartbeats 8000000 in
theorem specTallRows_any (b o : Nat) (n c : Nat) (ps : List (Int × Int)) (roll : Int) (w : World) (h : Rd w 2 (some ⟨b, o, none⟩) n c (pr ps)) :
    Calls Try.prog 44 #[.slice (some ⟨b, o, none⟩) n c, .int .i64 roll] w (IntPost w (tallZ ps roll).1 (tallZ ps roll).2) := by
  obtain ⟨i0, hi, hz0, hz1, hz2⟩ := info_parts info_i64r
  have hl := h.plen
  have h1 := h.cap
  have h2 := h.max
  have hcall := fun W h => l11Ok_any (some ⟨b, o, none⟩) n c ps roll W h
  unfold tallZ
  cases hz : blocksB ps roll with
  | false =>
    rw [hz] at hcall
    rw [if_neg (by simp)]
    have HC := Lib.hid hcall
    have H := Lib.hid h
    clear hcall h hz hi hz0 hz1 hz2 i0
    go_enter Try.func44, Try.ntmps44
    go_wp2_with fail
    refine (HC.out _ H.out).mono ?_
    rintro e w1 ⟨rfl, rfl⟩
    go_wp2
    go_ret2
    exact intPost_nil (Below.refl _ _)
  | true =>
    have ho := bok hz
    have hn9 := ho.len
    have hn9' : n ≤ 9 := by omega
    rw [hz] at hcall
    rw [if_pos rfl]
    have hmem : ∀ (j : Nat) (i : Int), (sortK (ltC (tallC ps)) (upto n) n)[j]? = some i → 0 ≤ i ∧ i < n := fun j i hj => by
      have hm := sortK_mem (lt := ltC (tallC ps)) (os := upto n) (k := n) (by rw [upto_len]; exact Nat.le_refl _) (List.mem_of_getElem? hj)
      obtain ⟨a, rfl, ha⟩ := mem_upto hm
      omega
    have hf := fun W B d h hB => l11First_any (some ⟨b, o, none⟩) n c ps roll B n d (sortK (ltC (tallC ps)) (upto n) n) W h hB ho hn9' hmem
    have hR : (firstK ps roll (sortK (ltC (tallC ps)) (upto ps.length) ps.length) ps.length).1 = (firstK ps roll (sortK (ltC (tallC ps)) (upto n) n) n).1 := by rw [hl]
    rw [hR]
    have hlt := tall_lt ps
    generalize ltC (tallC ps) = lt at *
    generalize (firstK ps roll (sortK lt (upto n) n) n).1 = R at *
    have HC := Lib.hid hcall
    have HF := Lib.hid hf
    have H := Lib.hid h
    have HL := Lib.hid hl
    have HT := Lib.hid hlt
    clear hcall h hz hl ho hn9 hf hR hmem hlt
    go_enter Try.func44, Try.ntmps44
    go_wp2_with fail
    refine (HC.out _ H.out).mono ?_
    rintro e w1 ⟨rfl, rfl⟩
    go_wp2_with fail
    have hown0 : (w.alloc (.cells #[] 2)).ownsRow w.heap.size 2 1 (.slice (some ⟨w.heap.size, 0, none⟩) 0 0) 0 (ints (sortK lt (upto n) 0)) := World.ownsRow_made w #[] 0 (Nat.le_refl _) (by unfold maxLen; omega) rfl
    go_loopw [6, 7] (fun vo vi wr => ∃ (k g oc : Nat), k ≤ n ∧ vi = .int .i64 k ∧ vo = .slice (some ⟨g, 0, none⟩) k oc ∧ wr.ownsRow w.heap.size 2 1 (.slice (some ⟨g, 0, none⟩) k oc) k (ints (sortK lt (upto n) k)) ∧ Below w.heap.size w wr) (fun _ vi _ => n - (intOf vi).toNat)
    case atStart => exact ⟨0, _, _, Nat.zero_le _, rfl, rfl, hown0, (Below.refl _ _).alloc (Nat.le_refl _) _⟩
    case round =>
      obtain ⟨k, g, oc, hk, rfl, rfl, hown, hb⟩ := hrel
      by_cases hlt : k < n
      · have hk0 : (0 : Int) ≤ (k : Int) := by omega
        have hk1 : (k : Int) < (n : Int) := by omega
        have hkd : decide ((k : Int) < (n : Int)) = true := decide_eq_true hk1
        have hLl := sortK_len lt (upto n) k
        have hxk : (upto n).getD k 0 = (k : Int) := by
          have := getD_of (l := upto n) (j := k) (by rw [upto_len]; exact hlt)
          exact (upto_get this).1
        have hnext : insK lt (sortK lt (upto n) k) (k : Int) = sortK lt (upto n) (k + 1) := by rw [← hxk]; rfl
        have hLm : ∀ j, j < k → ∃ a : Nat, (sortK lt (upto n) k).getD j 0 = (a : Int) ∧ a < n := fun j hj => by
          have hm := sortK_mem (lt := lt) (os := upto n) (k := k) (by rw [upto_len]; omega) (List.mem_of_getElem? (getD_of (l := sortK lt (upto n) k) (j := j) (by rw [hLl]; exact hj)))
          exact mem_upto hm
        generalize sortK lt (upto n) k = L at *
        have HO := Lib.hid hown
        have HB := Lib.hid hb
        have HLL := Lib.hid hLl
        have HN := Lib.hid hnext
        have HLM := Lib.hid hLm
        clear hown hb hLl hnext hLm hxk
        go_wp2
        generalize hwr : wr = w5 at *
        clear hwr
        go_loopw [8] (fun vj wq => ∃ j : Nat, j ≤ k ∧ vj = .int .i64 j ∧ Hid (posK lt L (k : Int) j = posK lt L (k : Int) k) ∧ Below w5.heap.size w5 wq) (fun vj _ => (intOf vj).toNat)
        case atStart => exact ⟨k, Nat.le_refl _, rfl, (show Hid _ from rfl), Below.refl _ _⟩
        case round =>
          obtain ⟨j, hj, rfl, HP, hbq⟩ := hrel
          have HQ := Lib.hid hbq
          clear hbq
          cases j with
          | zero =>
            have hgd : decide ((0 : Int) < ((0 : Nat) : Int)) = false := by decide
            go_wp2
            go_quiet (fail)
            have q6 := below_drewN HQ.out nq
            generalize wr.drewN nq = w6 at *
            have HP2 : Hid (0 = posK lt L (k : Int) k) := HP.out
            have O6 := Lib.hid (own_below HO.out q6)
            have HB6 := Lib.hid (HB.out.trans (q6.mono HB.out.size))
            clear q6 HP HQ HO HB hgd
            have R1 := Rd.of_own O6.out
            have Rt := Lib.hid (R1.takeI (j := 0) hj)
            obtain ⟨b2, o2, hsl, hrd⟩ := slice_tail R1 (j := 0) 0 (by omega) hj
            have hsh := slice_head g 0 k oc 0 0 (by omega) (Nat.le_trans hj R1.cap)
            have Rt2 := Lib.hid hrd
            have hj0' : (0 : Int) ≤ ((0 : Nat) : Int) := by omega
            have hj1' : ((0 : Nat) : Int) ≤ (k : Int) := by omega
            have hj2' : ((0 : Nat) : Int) ≤ (oc : Int) := by have := R1.cap; omega
            have hs6 := HB6.out.size
            clear hrd R1
            go_wp2_with fail
            refine (l00Own_any g 0 0 oc (L.take 0) _ Rt.out (by omega)).mono ?_
            rintro e w8 ⟨g8, d8, rfl, hown8, hb8⟩
            have HO8 := Lib.hid (own_base hown8 hs6)
            have HOB8 := Lib.hid (own_block hown8)
            have HB8 := Lib.hid (HB6.out.trans (hb8.mono hs6))
            have Rt8 := Lib.hid (Rt2.out.below hb8)
            have HBO : Hid (0 < k - 0 → b2 < w6.heap.size) := Lib.hid (fun h0 => by
              obtain ⟨b', o', hA, hlt', _⟩ := Rt2.out.at0 (by rw [ints_len, List.length_drop, HLL.out]; exact h0)
              injection hA with hA
              injection hA with e1 e2
              omega)
            have hs8 := HB8.out.size
            have hg8 := own_block hown8 g8 rfl
            clear hown8 hb8 Rt2 Rt
            have hA8 : Below w8.heap.size w8 (w8.alloc (.cells #[.int .i64 k] 2)) := (by go_grown)
            have HA8 := Lib.hid hA8
            have hdl : (L.drop 0).length = k - 0 := by rw [List.length_drop, HLL.out]
            have HDL := Lib.hid hdl
            clear hA8 hdl
            go_wp2_with (first | (at_builtin; refine wpList_append_own _ rfl (.tmp 47) (.tmp 49) 35 rfl w.heap.size 2 i0 (.int .i64 0) 1 8 Try.underlying35 hi hz0 hz1 hz2 rfl (by decide) (Value.slice (some ⟨g8, 0, none⟩) 0 d8) _ _ rfl (HO8.out.alloc _) ⟨_, 0, none⟩ 1 1 [.int .i64 k] rfl rfl (cell_one_new _ _ _) (by intro u hu; simp at hu; subst hu; rfl) (by unfold maxLen; omega) (by omega) (by simp; omega) ?_; intro v' wa hown' hga hdel; clear hdel) | (at_builtin; (refine wpList_append_own _ rfl (.tmp 51) (.tmp 54) 35 rfl w.heap.size 2 i0 (.int .i64 0) 1 8 Try.underlying35 hi hz0 hz1 hz2 rfl (by decide) v' _ _ rfl hown' ⟨b2, o2, none⟩ (k - 0) (oc - 0) (ints (L.drop 0)) rfl (by rw [ints_len, HDL.out]; omega) (Rd.newsI (Rd.other (g := g8) (Rt8.out.below HA8.out) hga (by intro h0; have := HBO.out (by rw [ints_len, HDL.out] at h0; exact h0); omega))) (ints_one _) (by unfold maxLen; omega) (by omega) (by have := hga.size; simp at this; omega) ?_; intro v2 wb hown2 hga2 hdel; clear hdel)))
            have b9 : Below w.heap.size w wa := (HB8.out.trans (HA8.out.mono hs8)).grown hga (by simp; omega) (fun y hy => by simp [Value.ownBlock] at hy; omega)
            have b10 : Below w.heap.size w wb := b9.grown hga2 b9.size (fun y hy => (hown'.lt y hy).1)
            have hlen : 0 + 1 + (k - 0) = k + 1 := by omega
            rw [ints_snoc, ← ints_append, hlen] at hown2
            have hfin : L.take 0 ++ [(k : Int)] ++ L.drop 0 = sortK lt (upto n) (k + 1) := by
              rw [← HN.out]
              unfold insK
              rw [HLL.out, ← HP2.out]
              simp
            rw [hfin] at hown2
            obtain ⟨g10, d10, hv10, hg10, _⟩ := own_form hown2 (by omega)
            subst hv10
            clear hga hga2 hfin hlen
            go_roundw
            case rel => exact ⟨k + 1, _, _, by omega, by go_num, by go_num, hown2, b10⟩
            case measure => simp [intOf]; omega
          | succ j =>
            have hgd : decide ((0 : Int) < ((j + 1 : Nat) : Int)) = true := decide_eq_true (by omega)
            obtain ⟨a, ha, han⟩ := HLM.out j (by omega)
            obtain ⟨p1, p2, x1, y1, hA1, hl1, hx1, _, hc1⟩ := H.out.pair han
            obtain ⟨p3, p4, x2, y2, hA2, hl2, hx2, _, hc2⟩ := H.out.pair hlt
            injection hA1 with hA1
            injection hA1 with e1 e2
            subst e1
            subst e2
            injection hA2 with hA2
            injection hA2 with e1 e2
            subst e1
            subst e2
            have hbb := HB.out.trans (HQ.out.mono HB.out.size)
            have c1 := (hbb.cell (p := ⟨b, o + a * 2 + 1, none⟩) hl1).trans hc1
            have c2 := (hbb.cell (p := ⟨b, o + k * 2 + 1, none⟩) hl2).trans hc2
            have c3 := own_int (own_below HO.out HQ.out) (i := j) (by omega) HLL.out
            have hP := HP.out
            rw [posK_succ] at hP
            rw [HT.out] at hP
            rw [ha] at c3 hP
            have t1 : tallH ps (a : Int) = y1 := by unfold tallH; simp [List.getD, hx1]
            have t2 : tallH ps (k : Int) = y2 := by unfold tallH; simp [List.getD, hx2]
            rw [t1, t2] at hP
            have HP3 := Lib.hid hP
            have hj0 : (0 : Int) ≤ (j : Int) := by omega
            have hj1 : (j : Int) < (k : Int) := by omega
            have ha0 : (0 : Int) ≤ (a : Int) := by omega
            have ha1 : (a : Int) < (n : Int) := by omega
            clear hbb hc1 hc2 hP t1 t2 hx1 hx2 ha HP
            by_cases hyy : y1 < y2
            · have hyd : decide (y1 < y2) = true := decide_eq_true hyy
              have hP := HP3.out
              rw [hyd, if_pos rfl] at hP
              have HP4 := Lib.hid hP
              clear hP
              go_wp2
              go_quiet (fail)
              go_wp2
              go_roundw
              case rel => exact ⟨j, by omega, by go_num, HP4, below_drewN HQ.out _⟩
              case measure => simp [intOf]
            · have hyd : decide (y1 < y2) = false := decide_eq_false hyy
              have hP := HP3.out
              rw [hyd, if_neg (by simp)] at hP
              have HP2 := Lib.hid hP
              clear hP
              go_wp2
              go_quiet (fail)
              have q6 := below_drewN HQ.out nq
              generalize wr.drewN nq = w6 at *
              have O6 := Lib.hid (own_below HO.out q6)
              have HB6 := Lib.hid (HB.out.trans (q6.mono HB.out.size))
              clear q6 HP3 HQ HO HB hgd c1 c2 c3
              have R1 := Rd.of_own O6.out
              have Rt := Lib.hid (R1.takeI (j := (j + 1)) hj)
              obtain ⟨b2, o2, hsl, hrd⟩ := slice_tail R1 (j := (j + 1)) ((j : Int) + 1) (by omega) hj
              have hsh := slice_head g 0 k oc (j + 1) ((j : Int) + 1) (by omega) (Nat.le_trans hj R1.cap)
              have Rt2 := Lib.hid hrd
              have hj0' : (0 : Int) ≤ (((j + 1) : Nat) : Int) := by omega
              have hj1' : (((j + 1) : Nat) : Int) ≤ (k : Int) := by omega
              have hj2' : (((j + 1) : Nat) : Int) ≤ (oc : Int) := by have := R1.cap; omega
              have hs6 := HB6.out.size
              clear hrd R1
              go_wp2_with fail
              refine (l00Own_any g 0 (j + 1) oc (L.take (j + 1)) _ Rt.out (by omega)).mono ?_
              rintro e w8 ⟨g8, d8, rfl, hown8, hb8⟩
              have HO8 := Lib.hid (own_base hown8 hs6)
              have HOB8 := Lib.hid (own_block hown8)
              have HB8 := Lib.hid (HB6.out.trans (hb8.mono hs6))
              have Rt8 := Lib.hid (Rt2.out.below hb8)
              have HBO : Hid (0 < k - (j + 1) → b2 < w6.heap.size) := Lib.hid (fun h0 => by
                obtain ⟨b', o', hA, hlt', _⟩ := Rt2.out.at0 (by rw [ints_len, List.length_drop, HLL.out]; exact h0)
                injection hA with hA
                injection hA with e1 e2
                omega)
              have hs8 := HB8.out.size
              have hg8 := own_block hown8 g8 rfl
              clear hown8 hb8 Rt2 Rt
              have hA8 : Below w8.heap.size w8 (w8.alloc (.cells #[.int .i64 k] 2)) := (by go_grown)
              have HA8 := Lib.hid hA8
              have hdl : (L.drop (j + 1)).length = k - (j + 1) := by rw [List.length_drop, HLL.out]
              have HDL := Lib.hid hdl
              clear hA8 hdl
              go_wp2_with (first | (at_builtin; refine wpList_append_own _ rfl (.tmp 47) (.tmp 49) 35 rfl w.heap.size 2 i0 (.int .i64 0) 1 8 Try.underlying35 hi hz0 hz1 hz2 rfl (by decide) (Value.slice (some ⟨g8, 0, none⟩) (j + 1) d8) _ _ rfl (HO8.out.alloc _) ⟨_, 0, none⟩ 1 1 [.int .i64 k] rfl rfl (cell_one_new _ _ _) (by intro u hu; simp at hu; subst hu; rfl) (by unfold maxLen; omega) (by omega) (by simp; omega) ?_; intro v' wa hown' hga hdel; clear hdel) | (at_builtin; (refine wpList_append_own _ rfl (.tmp 51) (.tmp 54) 35 rfl w.heap.size 2 i0 (.int .i64 0) 1 8 Try.underlying35 hi hz0 hz1 hz2 rfl (by decide) v' _ _ rfl hown' ⟨b2, o2, none⟩ (k - (j + 1)) (oc - (j + 1)) (ints (L.drop (j + 1))) rfl (by rw [ints_len, HDL.out]; omega) (Rd.newsI (Rd.other (g := g8) (Rt8.out.below HA8.out) hga (by intro h0; have := HBO.out (by rw [ints_len, HDL.out] at h0; exact h0); omega))) (ints_one _) (by unfold maxLen; omega) (by omega) (by have := hga.size; simp at this; omega) ?_; intro v2 wb hown2 hga2 hdel; clear hdel)))
              have b9 : Below w.heap.size w wa := (HB8.out.trans (HA8.out.mono hs8)).grown hga (by simp; omega) (fun y hy => by simp [Value.ownBlock] at hy; omega)
              have b10 : Below w.heap.size w wb := b9.grown hga2 b9.size (fun y hy => (hown'.lt y hy).1)
              have hlen : (j + 1) + 1 + (k - (j + 1)) = k + 1 := by omega
              rw [ints_snoc, ← ints_append, hlen] at hown2
              have hfin : L.take (j + 1) ++ [(k : Int)] ++ L.drop (j + 1) = sortK lt (upto n) (k + 1) := by
                rw [← HN.out]
                unfold insK
                rw [HLL.out, ← HP2.out]
                simp
              rw [hfin] at hown2
              obtain ⟨g10, d10, hv10, hg10, _⟩ := own_form hown2 (by omega)
              subst hv10
              clear hga hga2 hfin hlen
              go_roundw
              case rel => exact ⟨k + 1, _, _, by omega, by go_num, by go_num, hown2, b10⟩
              case measure => simp [intOf]; omega
      · have : k = n := by omega
        subst this
        have HR := Lib.hid (Rd.of_own hown)
        have HB := Lib.hid hb
        have H2 := Lib.hid (H.out.below hb)
        clear hown hb
        go_wp2_with fail
        refine (HF.out _ _ _ H2.out HR.out).mono ?_
        rintro e w3 ⟨g3, rfl, hown, hb3⟩
        have b3 := HB.out.trans (hb3.mono HB.out.size)
        have HO4 := Lib.hid (own_base hown HB.out.size)
        clear hown hb3
        go_wp2
        go_ret2
        exact ⟨_, _, _, rfl, HO4.out, b3⟩

set_option maxRecDepth 100000 in
set_option maxHeartbeats 8000000 in
theorem law_TallRows (A : Option Addr) (n c : Nat) (ps : List (Int × Int)) (roll : Int) (w : World) (h : Rd w 2 A n c (pr ps)) :
    Calls Try.prog 12 #[.slice A n c, .int .i64 roll] w fun e w' => e = .returned (.bool true) ∧ Below w.heap.size w w' := by
  have h1 := h.cap
  have h2 := h.max
  have HA := Lib.hid h
  have hlp := h.plen
  have hlen := tall_len ps roll
  have hsp := fun b o n c W h => specTallRows_any b o n c ps roll W h
  have him := fun b o n c W h => implTallRows_any b o n c ps roll W h
  generalize (tallZ ps roll).1 = R at *
  generalize (tallZ ps roll).2 = z at *
  have HSP := Lib.hid hsp
  have HIM := Lib.hid him
  clear h hsp him
  by_cases hn : (1048576 : Int) < (n : Int)
  · go_enter Try.func12, Try.ntmps12
    go_wp2_with fail
    refine (szPrS_any _ _ _ _ _ (by omega) (by omega) (by omega)).mono ?_
    rw [if_pos (by omega)]
    rintro e w' ⟨rfl, rfl⟩
    go_wp2
    go_ret
    exact ⟨rfl, Below.refl _ _⟩
  have b0 : Below w.heap.size w w := Below.refl _ _
  go_enter Try.func12, Try.ntmps12
  go_wp2_with fail
  refine (szPrS_any _ _ _ _ _ (by omega) (by omega) (by omega)).mono ?_
  rw [if_neg (by omega)]
  rintro e w' ⟨rfl, rfl⟩
  have h5 : ¬ 1048576 - (n : Int) < 0 := by omega
  go_wp2_with fail
  refine (toPrS_any A n c ps _ (HA.out.below b0) (by omega)).mono ?_
  rintro e w1 ⟨gt, rfl, ho, hb1⟩
  have b1 : Below w.heap.size w w1 := b0.trans (hb1.mono b0.size)
  have s1 := hb1.size
  have Ot1 := Lib.hid (OwnIn.new ho)
  clear hb1 ho
  go_wp2_with fail
  refine (HSP.out _ _ _ _ _ Ot1.out.rd).mono ?_
  rintro e w2 ⟨Aw, nw, cw, rfl, ho, hb2⟩
  have b2 : Below w.heap.size w w2 := b1.trans (hb2.mono b1.size)
  have s2 := hb2.size
  have Ot2 := Lib.hid (Ot1.out.below hb2)
  have Ow2 := Lib.hid (OwnIn.new ho)
  clear hb2 Ot1 ho
  go_wp2_with fail
  refine (toPrS_any A n c ps _ (HA.out.below b2) (by omega)).mono ?_
  rintro e w3 ⟨gx, rfl, ho, hb3⟩
  have b3 : Below w.heap.size w w3 := b2.trans (hb3.mono b2.size)
  have s3 := hb3.size
  have Ot3 := Lib.hid (Ot2.out.below hb3)
  have Ow3 := Lib.hid (Ow2.out.below hb3)
  have Ox3 := Lib.hid (OwnIn.new ho)
  clear hb3 Ot2 Ow2 ho
  go_wp2_with fail
  refine (HIM.out _ _ _ _ _ Ox3.out.rd).mono ?_
  rintro e w4 ⟨Ag, ng, cg, rfl, ho, hb4⟩
  have b4 : Below w.heap.size w w4 := b3.trans (hb4.mono b3.size)
  have s4 := hb4.size
  have Ot4 := Lib.hid (Ot3.out.below hb4)
  have Ow4 := Lib.hid (Ow3.out.below hb4)
  have Ox4 := Lib.hid (Ox3.out.below hb4)
  have Og4 := Lib.hid (OwnIn.new ho)
  clear hb4 Ot3 Ow3 Ox3 ho
  have lg := Og4.out.ilen
  have lw := Ow4.out.ilen
  have hng : ng ≤ n := by omega
  clear lg lw
  go_wp2_with fail
  refine (eqInt64S_any _ _ _ R _ _ _ R _ Og4.out.rd Ow4.out.rd).mono ?_
  rw [eqL_self]
  rintro e w5 ⟨rfl, hb5⟩
  have b5 : Below w.heap.size w w5 := b4.trans (hb5.mono b4.size)
  have s5 := hb5.size
  have Ot5 := Lib.hid (Ot4.out.below hb5)
  have Ow5 := Lib.hid (Ow4.out.below hb5)
  have Ox5 := Lib.hid (Ox4.out.below hb5)
  have Og5 := Lib.hid (Og4.out.below hb5)
  clear hb5 Ot4 Ow4 Ox4 Og4
  go_wp2_with fail
  refine (toPrS_any A n c ps _ (HA.out.below b5) (by omega)).mono ?_
  rintro e w6 ⟨gy, rfl, ho, hb6⟩
  have b6 : Below w.heap.size w w6 := b5.trans (hb6.mono b5.size)
  have s6 := hb6.size
  have Ot6 := Lib.hid (Ot5.out.below hb6)
  have Ow6 := Lib.hid (Ow5.out.below hb6)
  have Ox6 := Lib.hid (Ox5.out.below hb6)
  have Og6 := Lib.hid (Og5.out.below hb6)
  have Oy6 := Lib.hid (OwnIn.new ho)
  clear hb6 Ot5 Ow5 Ox5 Og5 ho
  go_wp2_with fail
  refine (eqPrS_any _ _ _ ps _ _ _ ps _ Ox6.out.rd Oy6.out.rd).mono ?_
  rw [eqG_self]
  rintro e w7 ⟨rfl, hb7⟩
  have b7 : Below w.heap.size w w7 := b6.trans (hb7.mono b6.size)
  have s7 := hb7.size
  have Ot7 := Lib.hid (Ot6.out.below hb7)
  have Ow7 := Lib.hid (Ow6.out.below hb7)
  have Ox7 := Lib.hid (Ox6.out.below hb7)
  have Og7 := Lib.hid (Og6.out.below hb7)
  have Oy7 := Lib.hid (Oy6.out.below hb7)
  clear hb7 Ot6 Ow6 Ox6 Og6 Oy6
  go_wp2_with fail
  refine (markPrS_any _ _ _ _ ps 1 _ Ox7.out.own (by omega) (by omega)).mono ?_
  rintro e w8 ⟨rfl, ho, hg⟩
  have b8 : Below w.heap.size w w8 := Ox7.out.base b7 hg (by omega) (Nat.le_refl _)
  have s8 := hg.size
  have Ot8 := Lib.hid (Ot7.out.other Ox7.out hg (by omega))
  have Ow8 := Lib.hid (Ow7.out.other Ox7.out hg (by omega))
  have Ox8 := Lib.hid (Ox7.out.self ho hg)
  have Og8 := Lib.hid (Og7.out.other Ox7.out hg (by omega))
  have Oy8 := Lib.hid (Oy7.out.other Ox7.out hg (by omega))
  clear ho hg Ot7 Ow7 Ox7 Og7 Oy7
  go_wp2_with fail
  refine (eqInt64S_any _ _ _ R _ _ _ R _ Og8.out.rd Ow8.out.rd).mono ?_
  rw [eqL_self]
  rintro e w9 ⟨rfl, hb9⟩
  have b9 : Below w.heap.size w w9 := b8.trans (hb9.mono b8.size)
  have s9 := hb9.size
  have Ot9 := Lib.hid (Ot8.out.below hb9)
  have Ow9 := Lib.hid (Ow8.out.below hb9)
  have Ox9 := Lib.hid (Ox8.out.below hb9)
  have Og9 := Lib.hid (Og8.out.below hb9)
  have Oy9 := Lib.hid (Oy8.out.below hb9)
  clear hb9 Ot8 Ow8 Ox8 Og8 Oy8
  go_wp2_with fail
  refine (markInt64S_any _ _ _ _ R 1 _ Og9.out.own (by omega) (by omega)).mono ?_
  rintro e w10 ⟨rfl, ho, hg⟩
  have b10 : Below w.heap.size w w10 := Og9.out.base b9 hg (by omega) (Nat.le_refl _)
  have s10 := hg.size
  have Ot10 := Lib.hid (Ot9.out.other Og9.out hg (by omega))
  have Ow10 := Lib.hid (Ow9.out.other Og9.out hg (by omega))
  have Ox10 := Lib.hid (Ox9.out.other Og9.out hg (by omega))
  have Og10 := Lib.hid (Og9.out.self ho hg)
  have Oy10 := Lib.hid (Oy9.out.other Og9.out hg (by omega))
  clear ho hg Ot9 Ow9 Ox9 Og9 Oy9
  go_wp2_with fail
  refine (heldInt64S_any _ _ _ 1 _ Og10.out.rd (by omega) (by omega)).mono ?_
  rintro e wz ⟨rfl, rfl⟩
  go_wp2_with fail
  refine (toPrS_any A n c ps _ (HA.out.below b10) (by omega)).mono ?_
  rintro e w11 ⟨gz, rfl, ho, hb11⟩
  have b11 : Below w.heap.size w w11 := b10.trans (hb11.mono b10.size)
  have s11 := hb11.size
  have Ot11 := Lib.hid (Ot10.out.below hb11)
  have Ow11 := Lib.hid (Ow10.out.below hb11)
  have Ox11 := Lib.hid (Ox10.out.below hb11)
  have Og11 := Lib.hid (Og10.out.below hb11)
  have Oy11 := Lib.hid (Oy10.out.below hb11)
  have Oz11 := Lib.hid (OwnIn.new ho)
  clear hb11 Ot10 Ow10 Ox10 Og10 Oy10 ho
  go_wp2_with fail
  refine (HIM.out _ _ _ _ _ Oz11.out.rd).mono ?_
  rintro e w12 ⟨Ah, nh, ch, rfl, ho, hb12⟩
  have b12 : Below w.heap.size w w12 := b11.trans (hb12.mono b11.size)
  have s12 := hb12.size
  have Ot12 := Lib.hid (Ot11.out.below hb12)
  have Ow12 := Lib.hid (Ow11.out.below hb12)
  have Ox12 := Lib.hid (Ox11.out.below hb12)
  have Og12 := Lib.hid (Og11.out.below hb12)
  have Oy12 := Lib.hid (Oy11.out.below hb12)
  have Oz12 := Lib.hid (Oz11.out.below hb12)
  have Oh12 := Lib.hid (OwnIn.new ho)
  clear hb12 Ot11 Ow11 Ox11 Og11 Oy11 Oz11 ho
  go_wp2_with fail
  refine (eqInt64S_any _ _ _ R _ _ _ R _ Oh12.out.rd Ow12.out.rd).mono ?_
  rw [eqL_self]
  rintro e w13 ⟨rfl, hb13⟩
  have b13 : Below w.heap.size w w13 := b12.trans (hb13.mono b12.size)
  have s13 := hb13.size
  have Ot13 := Lib.hid (Ot12.out.below hb13)
  have Ow13 := Lib.hid (Ow12.out.below hb13)
  have Ox13 := Lib.hid (Ox12.out.below hb13)
  have Og13 := Lib.hid (Og12.out.below hb13)
  have Oy13 := Lib.hid (Oy12.out.below hb13)
  have Oz13 := Lib.hid (Oz12.out.below hb13)
  have Oh13 := Lib.hid (Oh12.out.below hb13)
  clear hb13 Ot12 Ow12 Ox12 Og12 Oy12 Oz12 Oh12
  go_wp2_with fail
  refine (heldInt64S_any _ _ _ 1 _ Og13.out.rd (by omega) (by omega)).mono ?_
  rintro e wz ⟨rfl, rfl⟩
  go_wp2_with fail
  go_ret
  exact ⟨rfl, b13⟩

end Go.Proofs.Ythdbaflihgkomaa
