/- The order by the rule: l14Rule of the reference; RuleOrder, LeastSpan; their laws. Printed by mkro.py. -/
import Derived.Test.YtfjmohnlllbgmaaRu
import Derived.Test.YtfjmohnlllbgmaaSp
import Derived.IntWalk
namespace Go.Proofs.Ytfjmohnlllbgmaa
open Go.RowKit Go.Shelf

set_option maxHeartbeats 2000000 in
theorem l14Before_any (a b c d : Int) (w : World) :
    Calls Try.prog 91 #[.agg #[.int .i64 a, .int .i64 b], .agg #[.int .i64 c, .int .i64 d]] w fun e w' => e = .returned (.bool (beforeJ (a, b) (c, d))) ∧ Below w.heap.size w w' := by
  by_cases h1 : a < b
  · have e1 : decide (a < b) = true := decide_eq_true h1
    by_cases h2 : c < d
    · have e2 : decide (c < d) = true := decide_eq_true h2
      have hv : beforeJ (a, b) (c, d) = decide (a < c) := by simp [beforeJ, h1, h2]
      rw [hv]
      clear hv
      go_enter Try.func91, Try.ntmps91
      go_wp2
      go_ret
      exact ⟨rfl, (by go_grown)⟩
    · have e2 : decide (c < d) = false := decide_eq_false h2
      have hv : beforeJ (a, b) (c, d) = true := by simp [beforeJ, h1, h2]
      rw [hv]
      clear hv
      go_enter Try.func91, Try.ntmps91
      go_wp2
      go_ret
      exact ⟨rfl, (by go_grown)⟩
  · have e1 : decide (a < b) = false := decide_eq_false h1
    by_cases h2 : c < d
    · have e2 : decide (c < d) = true := decide_eq_true h2
      have hv : beforeJ (a, b) (c, d) = false := by simp [beforeJ, h1, h2]
      rw [hv]
      clear hv
      go_enter Try.func91, Try.ntmps91
      go_wp2
      go_ret
      exact ⟨rfl, (by go_grown)⟩
    · have e2 : decide (c < d) = false := decide_eq_false h2
      have hv : beforeJ (a, b) (c, d) = decide (d < b) := by simp [beforeJ, h1, h2]
      rw [hv]
      clear hv
      go_enter Try.func91, Try.ntmps91
      go_wp2
      go_ret
      exact ⟨rfl, (by go_grown)⟩

set_option maxRecDepth 100000 in
set_option maxHeartbeats 8000000 in
theorem l14Rule_any (b o n c : Nat) (ps : List (Int × Int)) (w : World) (h : Rd w 2 (some ⟨b, o, none⟩) n c (pr ps)) (hn7 : n ≤ 7) :
    Calls Try.prog 72 #[.slice (some ⟨b, o, none⟩) n c] w fun e w' => ∃ g d, e = .returned (.slice (some ⟨g, 0, none⟩) n d) ∧ w'.ownsRow w.heap.size 2 1 (.slice (some ⟨g, 0, none⟩) n d) n (ints (ruleL ps n)) ∧ Below w.heap.size w w' := by
  obtain ⟨i0, hi, hz0, hz1, hz2⟩ := info_parts info_i64r
  have hl := h.plen
  have h1 := h.cap
  have h2 := h.max
  have hru : ruleL ps n = sortK (fun i j => beforeJ (jobF ps i) (jobF ps j)) (upto n) n := by unfold ruleL sortA; rw [upto_len]
  rw [hru]
  have hltf : ∀ i j, (fun i j => beforeJ (jobF ps i) (jobF ps j)) i j = beforeJ (jobF ps i) (jobF ps j) := fun _ _ => rfl
  generalize (fun i j => beforeJ (jobF ps i) (jobF ps j)) = lt at *
  have H := Lib.hid h
  have HT := Lib.hid hltf
  clear h hl hru hltf
  go_enter Try.func72, Try.ntmps72
  go_wp2_with fail
  have hown0 : (w.alloc (.cells #[] 2)).ownsRow w.heap.size 2 1 (.slice (some ⟨w.heap.size, 0, none⟩) 0 0) 0 (ints (sortK lt (upto n) 0)) := World.ownsRow_made w #[] 0 (Nat.le_refl _) (by unfold maxLen; omega) rfl
  go_loopw [3, 4] (fun vo vi wr => ∃ (k g oc : Nat), k ≤ n ∧ vi = .int .i64 k ∧ vo = .slice (some ⟨g, 0, none⟩) k oc ∧ wr.ownsRow w.heap.size 2 1 (.slice (some ⟨g, 0, none⟩) k oc) k (ints (sortK lt (upto n) k)) ∧ Below w.heap.size w wr) (fun _ vi _ => n - (intOf vi).toNat)
  case atStart => exact ⟨0, _, _, Nat.zero_le _, rfl, rfl, hown0, (Below.refl _ _).alloc (Nat.le_refl _) _⟩
  case round =>
    obtain ⟨k, g, oc, hk, rfl, rfl, hown, hb⟩ := hrel
    by_cases hlt : k < n
    · have hk0 : (0 : Int) ≤ (k : Int) := by omega
      have hk1 : (k : Int) < (n : Int) := by omega
      have hkd : decide ((k : Int) < (n : Int)) = true := decide_eq_true hk1
      have hLl := sortK_len lt (upto n) k
      have hxk : (upto n).getD k 0 = (k : Int) := uptoD hlt
      have hnext : insK lt (sortK lt (upto n) k) (k : Int) = sortK lt (upto n) (k + 1) := by rw [← hxk]; rfl
      have hLm : ∀ j, j < k → ∃ a : Nat, (sortK lt (upto n) k).getD j 0 = (a : Int) ∧ a < n := fun j hj => by
        have hm := sortK_mem (lt := lt) (os := upto n) (k := k) (by rw [upto_len]; omega) (List.mem_of_getElem? (getD_of (l := sortK lt (upto n) k) (j := j) (by rw [hLl]; exact hj)))
        obtain ⟨x0, x1⟩ := upto_mem'.1 hm
        obtain ⟨a, ha⟩ := Int.eq_ofNat_of_zero_le x0
        exact ⟨a, ha, by omega⟩
      generalize sortK lt (upto n) k = L at *
      have HO := Lib.hid hown
      have HB := Lib.hid hb
      have HLL := Lib.hid hLl
      have HN := Lib.hid hnext
      have HLM := Lib.hid hLm
      clear hown hb hLl hnext hLm hxk
      go_wp2
      generalize hwr : wr = w5 at *
      clear hwr
      go_loopw [5] (fun vj wq => ∃ j : Nat, j ≤ k ∧ vj = .int .i64 j ∧ Hid (posK lt L (k : Int) j = posK lt L (k : Int) k) ∧ Below w5.heap.size w5 wq) (fun vj _ => (intOf vj).toNat)
      case atStart => exact ⟨k, Nat.le_refl _, rfl, (show Hid _ from rfl), Below.refl _ _⟩
      case round =>
        obtain ⟨j, hj, rfl, HP, hbq⟩ := hrel
        have HQ := Lib.hid hbq
        clear hbq
        cases j with
        | zero =>
          have hgd : decide ((0 : Int) < ((0 : Nat) : Int)) = false := by decide
          go_wp2
          go_quiet (fail)
          have q6 := below_drewN HQ.out nq
          generalize wr.drewN nq = w6 at *
          have HP2 : Hid (0 = posK lt L (k : Int) k) := HP.out
          have O6 := Lib.hid (own_below HO.out q6)
          have HB6 := Lib.hid (HB.out.trans (q6.mono HB.out.size))
          clear q6 HP HQ HO HB hgd
          have R1 := Rd.of_own O6.out
          have Rt := Lib.hid (R1.takeI (j := 0) hj)
          obtain ⟨b2, o2, hsl, hrd⟩ := slice_tail R1 (j := 0) 0 (by omega) hj
          have hsh := slice_head g 0 k oc 0 0 (by omega) (Nat.le_trans hj R1.cap)
          have Rt2 := Lib.hid hrd
          have hj0' : (0 : Int) ≤ ((0 : Nat) : Int) := by omega
          have hj1' : ((0 : Nat) : Int) ≤ (k : Int) := by omega
          have hj2' : ((0 : Nat) : Int) ≤ (oc : Int) := by have := R1.cap; omega
          have hs6 := HB6.out.size
          clear hrd R1
          go_wp2_with fail
          refine (l00Own_any g 0 0 oc (L.take 0) _ Rt.out (by omega)).mono ?_
          rintro e w8 ⟨g8, d8, rfl, hown8, hb8⟩
          have HO8 := Lib.hid (own_base hown8 hs6)
          have HOB8 := Lib.hid (own_block hown8)
          have HB8 := Lib.hid (HB6.out.trans (hb8.mono hs6))
          have Rt8 := Lib.hid (Rt2.out.below hb8)
          have HBO : Hid (0 < k - 0 → b2 < w6.heap.size) := Lib.hid (fun h0 => by
            obtain ⟨b', o', hA, hlt', _⟩ := Rt2.out.at0 (by rw [ints_len, List.length_drop, HLL.out]; exact h0)
            injection hA with hA
            injection hA with e1 e2
            omega)
          have hs8 := HB8.out.size
          have hg8 := own_block hown8 g8 rfl
          clear hown8 hb8 Rt2 Rt
          have hA8 : Below w8.heap.size w8 (w8.alloc (.cells #[.int .i64 k] 2)) := (by go_grown)
          have HA8 := Lib.hid hA8
          have hdl : (L.drop 0).length = k - 0 := by rw [List.length_drop, HLL.out]
          have HDL := Lib.hid hdl
          clear hA8 hdl
          go_wp2_with (first | (at_builtin; refine wpList_append_own _ rfl (.tmp 38) (.tmp 40) 34 rfl w.heap.size 2 i0 (.int .i64 0) 1 8 Try.underlying34 hi hz0 hz1 hz2 rfl (by decide) (Value.slice (some ⟨g8, 0, none⟩) 0 d8) _ _ rfl (HO8.out.alloc _) ⟨_, 0, none⟩ 1 1 [.int .i64 k] rfl rfl (cell_one_new _ _ _) (by intro u hu; simp at hu; subst hu; rfl) (by unfold maxLen; omega) (by omega) (by simp; omega) ?_; intro v' wa hown' hga hdel; clear hdel) | (at_builtin; (refine wpList_append_own _ rfl (.tmp 42) (.tmp 45) 34 rfl w.heap.size 2 i0 (.int .i64 0) 1 8 Try.underlying34 hi hz0 hz1 hz2 rfl (by decide) v' _ _ rfl hown' ⟨b2, o2, none⟩ (k - 0) (oc - 0) (ints (L.drop 0)) rfl (by rw [ints_len, HDL.out]; omega) (Rd.newsI (Rd.other (g := g8) (Rt8.out.below HA8.out) hga (by intro h0; have := HBO.out (by rw [ints_len, HDL.out] at h0; exact h0); omega))) (ints_one _) (by unfold maxLen; omega) (by omega) (by have := hga.size; simp at this; omega) ?_; intro v2 wb hown2 hga2 hdel; clear hdel)))
          have b9 : Below w.heap.size w wa := (HB8.out.trans (HA8.out.mono hs8)).grown hga (by simp; omega) (fun y hy => by simp [Value.ownBlock] at hy; omega)
          have b10 : Below w.heap.size w wb := b9.grown hga2 b9.size (fun y hy => (hown'.lt y hy).1)
          have hlen : 0 + 1 + (k - 0) = k + 1 := by omega
          rw [ints_snoc, ← ints_append, hlen] at hown2
          have hfin : L.take 0 ++ [(k : Int)] ++ L.drop 0 = sortK lt (upto n) (k + 1) := by
            rw [← HN.out]
            unfold insK
            rw [HLL.out, ← HP2.out]
            simp
          rw [hfin] at hown2
          obtain ⟨g10, d10, hv10, hg10, _⟩ := own_form hown2 (by omega)
          subst hv10
          clear hga hga2 hfin hlen
          go_roundw
          case rel => exact ⟨k + 1, _, _, by omega, by go_num, by go_num, hown2, b10⟩
          case measure => simp [intOf]; omega
        | succ j =>
          have hgd : decide ((0 : Int) < ((j + 1 : Nat) : Int)) = true := decide_eq_true (by omega)
          obtain ⟨a, ha, han⟩ := HLM.out j (by omega)
          obtain ⟨p1, p2, x1, y1, hA1, hl1, hx1, hc1a, hc1⟩ := H.out.pair han
          obtain ⟨p3, p4, x2, y2, hA2, hl2, hx2, hc2a, hc2⟩ := H.out.pair hlt
          injection hA1 with hA1
          injection hA1 with e1 e2
          subst e1
          subst e2
          injection hA2 with hA2
          injection hA2 with e1 e2
          subst e1
          subst e2
          have hbb := HB.out.trans (HQ.out.mono HB.out.size)
          have c1 := (hbb.cell (p := ⟨b, o + a * 2 + 1, none⟩) hl1).trans hc1
          have c2 := (hbb.cell (p := ⟨b, o + k * 2 + 1, none⟩) hl2).trans hc2
          have c1a := (hbb.cell (p := ⟨b, o + a * 2, none⟩) hl1).trans hc1a
          have c2a := (hbb.cell (p := ⟨b, o + k * 2, none⟩) hl2).trans hc2a
          have c3 := own_int (own_below HO.out HQ.out) (i := j) (by omega) HLL.out
          have hP := HP.out
          rw [posK_succ] at hP
          rw [HT.out] at hP
          rw [ha] at c3 hP
          rw [jobF_at hx1, jobF_at hx2] at hP
          have HP3 := Lib.hid hP
          have hcall := fun W => l14Before_any x2 y2 x1 y1 W
          have hj0 : (0 : Int) ≤ (j : Int) := by omega
          have hj1 : (j : Int) < (k : Int) := by omega
          have ha0 : (0 : Int) ≤ (a : Int) := by omega
          have ha1 : (a : Int) < (n : Int) := by omega
          clear hbb hc1 hc2 hc1a hc2a hP hx1 hx2 ha HP
          cases hyy : beforeJ (x2, y2) (x1, y1) with
          | true =>
            rw [hyy] at hcall
            have hP := HP3.out
            rw [hyy, if_pos rfl] at hP
            have HP4 := Lib.hid hP
            have HCA := Lib.hid hcall
            clear hP hcall hyy
            have hwj : IntKind.i64.wrap (j : Int) = (j : Int) := IntWalk.i64_in _ (by omega)
            go_wp2
            go_still_tail 15, (by kernel_rfl)
            clear hwj
            have q6 := HQ.out.drew
            change wpList _ _ _ _ _ wr.drew
            generalize wr.drew = w6 at *
            have Q6 := Lib.hid q6
            clear q6
            go_wp2_with fail
            refine (HCA.out _).mono ?_
            rintro e w7 ⟨rfl, hb7⟩
            go_wp2
            go_roundw
            case rel => exact ⟨j, by omega, by go_num, HP4, Q6.out.trans (hb7.mono Q6.out.size)⟩
            case measure => simp [intOf]
          | false =>
            rw [hyy] at hcall
            have hP := HP3.out
            rw [hyy, if_neg (by simp)] at hP
            have HP2 := Lib.hid hP
            have HCA := Lib.hid hcall
            clear hP hcall hyy
            have hwj : IntKind.i64.wrap (j : Int) = (j : Int) := IntWalk.i64_in _ (by omega)
            go_wp2
            go_still_tail 15, (by kernel_rfl)
            clear hwj
            have q6 := HQ.out.drew
            change wpList _ _ _ _ _ wr.drew
            generalize wr.drew = w6' at *
            have Q6 := Lib.hid q6
            clear q6
            go_wp2_with fail
            refine (HCA.out _).mono ?_
            rintro e w6 ⟨rfl, hb7⟩
            have q7 := Q6.out.trans (hb7.mono Q6.out.size)
            have O6 := Lib.hid (own_below HO.out q7)
            have HB6 := Lib.hid (HB.out.trans (q7.mono HB.out.size))
            clear q7 hb7 Q6 HP3 HQ HO HB hgd c1 c2 c1a c2a c3 HCA
            have R1 := Rd.of_own O6.out
            have Rt := Lib.hid (R1.takeI (j := (j + 1)) hj)
            obtain ⟨b2, o2, hsl, hrd⟩ := slice_tail R1 (j := (j + 1)) ((j : Int) + 1) (by omega) hj
            have hsh := slice_head g 0 k oc (j + 1) ((j : Int) + 1) (by omega) (Nat.le_trans hj R1.cap)
            have Rt2 := Lib.hid hrd
            have hj0' : (0 : Int) ≤ (((j + 1) : Nat) : Int) := by omega
            have hj1' : (((j + 1) : Nat) : Int) ≤ (k : Int) := by omega
            have hj2' : (((j + 1) : Nat) : Int) ≤ (oc : Int) := by have := R1.cap; omega
            have hs6 := HB6.out.size
            clear hrd R1
            go_wp2_with fail
            refine (l00Own_any g 0 (j + 1) oc (L.take (j + 1)) _ Rt.out (by omega)).mono ?_
            rintro e w8 ⟨g8, d8, rfl, hown8, hb8⟩
            have HO8 := Lib.hid (own_base hown8 hs6)
            have HOB8 := Lib.hid (own_block hown8)
            have HB8 := Lib.hid (HB6.out.trans (hb8.mono hs6))
            have Rt8 := Lib.hid (Rt2.out.below hb8)
            have HBO : Hid (0 < k - (j + 1) → b2 < w6.heap.size) := Lib.hid (fun h0 => by
              obtain ⟨b', o', hA, hlt', _⟩ := Rt2.out.at0 (by rw [ints_len, List.length_drop, HLL.out]; exact h0)
              injection hA with hA
              injection hA with e1 e2
              omega)
            have hs8 := HB8.out.size
            have hg8 := own_block hown8 g8 rfl
            clear hown8 hb8 Rt2 Rt
            have hA8 : Below w8.heap.size w8 (w8.alloc (.cells #[.int .i64 k] 2)) := (by go_grown)
            have HA8 := Lib.hid hA8
            have hdl : (L.drop (j + 1)).length = k - (j + 1) := by rw [List.length_drop, HLL.out]
            have HDL := Lib.hid hdl
            clear hA8 hdl
            go_wp2_with (first | (at_builtin; refine wpList_append_own _ rfl (.tmp 38) (.tmp 40) 34 rfl w.heap.size 2 i0 (.int .i64 0) 1 8 Try.underlying34 hi hz0 hz1 hz2 rfl (by decide) (Value.slice (some ⟨g8, 0, none⟩) (j + 1) d8) _ _ rfl (HO8.out.alloc _) ⟨_, 0, none⟩ 1 1 [.int .i64 k] rfl rfl (cell_one_new _ _ _) (by intro u hu; simp at hu; subst hu; rfl) (by unfold maxLen; omega) (by omega) (by simp; omega) ?_; intro v' wa hown' hga hdel; clear hdel) | (at_builtin; (refine wpList_append_own _ rfl (.tmp 42) (.tmp 45) 34 rfl w.heap.size 2 i0 (.int .i64 0) 1 8 Try.underlying34 hi hz0 hz1 hz2 rfl (by decide) v' _ _ rfl hown' ⟨b2, o2, none⟩ (k - (j + 1)) (oc - (j + 1)) (ints (L.drop (j + 1))) rfl (by rw [ints_len, HDL.out]; omega) (Rd.newsI (Rd.other (g := g8) (Rt8.out.below HA8.out) hga (by intro h0; have := HBO.out (by rw [ints_len, HDL.out] at h0; exact h0); omega))) (ints_one _) (by unfold maxLen; omega) (by omega) (by have := hga.size; simp at this; omega) ?_; intro v2 wb hown2 hga2 hdel; clear hdel)))
            have b9 : Below w.heap.size w wa := (HB8.out.trans (HA8.out.mono hs8)).grown hga (by simp; omega) (fun y hy => by simp [Value.ownBlock] at hy; omega)
            have b10 : Below w.heap.size w wb := b9.grown hga2 b9.size (fun y hy => (hown'.lt y hy).1)
            have hlen : (j + 1) + 1 + (k - (j + 1)) = k + 1 := by omega
            rw [ints_snoc, ← ints_append, hlen] at hown2
            have hfin : L.take (j + 1) ++ [(k : Int)] ++ L.drop (j + 1) = sortK lt (upto n) (k + 1) := by
              rw [← HN.out]
              unfold insK
              rw [HLL.out, ← HP2.out]
              simp
            rw [hfin] at hown2
            obtain ⟨g10, d10, hv10, hg10, _⟩ := own_form hown2 (by omega)
            subst hv10
            clear hga hga2 hfin hlen
            go_roundw
            case rel => exact ⟨k + 1, _, _, by omega, by go_num, by go_num, hown2, b10⟩
            case measure => simp [intOf]; omega
    · have : k = n := by omega
      subst this
      have HO9 := Lib.hid hown
      clear hown
      go_wp2
      go_ret
      exact ⟨_, _, rfl, HO9.out, hb⟩

/-- The order by the rule, and the code; its span. -/
def ruleZ (ps : List (Int × Int)) : List Int × Int := if jobsB ps = true then (ruleL ps ps.length, 0) else ([], 1)
def leastZ (ps : List (Int × Int)) : Int × Int := if jobsB ps = true then ((timK ps (ruleL ps ps.length) ps.length).b, 0) else (0, 1)
theorem rule_len {ps : List (Int × Int)} : (ruleZ ps).1.length ≤ ps.length := by
  unfold ruleZ
  split
  · rw [(rule_perm ps _).length_eq, upto_len]; exact Nat.le_refl _
  · simp
set_option maxRecDepth 100000 in
set_option maxHeartbeats 4000000 in
theorem implRuleOrder_any (b o n c : Nat) (ps : List (Int × Int)) (w : World) (h : Rd w 2 (some ⟨b, o, none⟩) n c (pr ps)) :
    Calls Try.prog 27 #[.slice (some ⟨b, o, none⟩) n c] w (IntPost w (ruleZ ps).1 (ruleZ ps).2) := by
  have hl := h.plen
  have hcall := fun W h => implValidJobs_any (some ⟨b, o, none⟩) n c ps W h
  unfold ruleZ
  cases hz : jobsB ps with
  | false =>
    rw [hz] at hcall
    rw [if_neg (by simp)]
    have HC := Lib.hid hcall
    have H := Lib.hid h
    clear hcall h hz hl
    go_enter Try.func27, Try.ntmps27
    go_wp2_with fail
    refine (HC.out _ H.out).mono ?_
    rintro e w1 ⟨rfl, hb1⟩
    go_wp2
    go_ret2
    exact intPost_nil (hb1)
  | true =>
    rw [hz] at hcall
    rw [if_pos rfl]
    have hj := jok hz
    have hn7 := hj.len
    have hn7' : n ≤ 7 := by omega
    rw [hl]
    have hf := fun W h => ruleOrder_any b o n c ps W h hn7'
    have HF := Lib.hid hf
    clear hf
    have HC := Lib.hid hcall
    have H := Lib.hid h
    clear hcall h hz hl hn7 hj
    go_enter Try.func27, Try.ntmps27
    go_wp2_with fail
    refine (HC.out _ H.out).mono ?_
    rintro e w1 ⟨rfl, hb1⟩
    have H1 := Lib.hid (H.out.below hb1)
    have Hb1 := Lib.hid hb1
    have hs1 := hb1.size
    clear hb1
    go_wp2_with fail
    refine (HF.out _ H1.out).mono ?_
    rintro e w2 ⟨g, d, rfl, ho, hb2⟩
    have HO := Lib.hid (own_base ho hs1)
    clear ho
    go_wp2
    go_ret2
    exact ⟨_, _, _, rfl, HO.out, Hb1.out.trans (hb2.mono hs1)⟩

set_option maxRecDepth 100000 in
set_option maxHeartbeats 4000000 in
theorem specRuleOrder_any (b o n c : Nat) (ps : List (Int × Int)) (w : World) (h : Rd w 2 (some ⟨b, o, none⟩) n c (pr ps)) :
    Calls Try.prog 30 #[.slice (some ⟨b, o, none⟩) n c] w (IntPost w (ruleZ ps).1 (ruleZ ps).2) := by
  have hl := h.plen
  have hcall := fun W h => l14Ok_any (some ⟨b, o, none⟩) n c ps W h
  unfold ruleZ
  cases hz : jobsB ps with
  | false =>
    rw [hz] at hcall
    rw [if_neg (by simp)]
    have HC := Lib.hid hcall
    have H := Lib.hid h
    clear hcall h hz hl
    go_enter Try.func30, Try.ntmps30
    go_wp2_with fail
    refine (HC.out _ H.out).mono ?_
    rintro e w1 ⟨rfl, rfl⟩
    go_wp2
    go_ret2
    exact intPost_nil (Below.refl _ _)
  | true =>
    rw [hz] at hcall
    rw [if_pos rfl]
    have hj := jok hz
    have hn7 := hj.len
    have hn7' : n ≤ 7 := by omega
    rw [hl]
    have hf := fun W h => l14Rule_any b o n c ps W h hn7'
    have HF := Lib.hid hf
    clear hf
    have HC := Lib.hid hcall
    have H := Lib.hid h
    clear hcall h hz hl hn7 hj
    go_enter Try.func30, Try.ntmps30
    go_wp2_with fail
    refine (HC.out _ H.out).mono ?_
    rintro e w1 ⟨rfl, rfl⟩
    have H1 := Lib.hid H.out
    have Hb1 := Lib.hid (Below.refl w.heap.size w)
    have hs1 := Nat.le_refl w.heap.size
    go_wp2_with fail
    refine (HF.out _ H1.out).mono ?_
    rintro e w2 ⟨g, d, rfl, ho, hb2⟩
    have HO := Lib.hid (own_base ho hs1)
    clear ho
    go_wp2
    go_ret2
    exact ⟨_, _, _, rfl, HO.out, Hb1.out.trans (hb2.mono hs1)⟩

set_option maxHeartbeats 4000000 in
theorem l14Least_any (b o n c : Nat) (ps : List (Int × Int)) (w : World) (h : Rd w 2 (some ⟨b, o, none⟩) n c (pr ps)) (hj : JOk ps) (hn7' : n ≤ 7) :
    Calls Try.prog 73 #[.slice (some ⟨b, o, none⟩) n c] w fun e w' => e = .returned (.int .i64 (timK ps (ruleL ps n) n).b) ∧ Below w.heap.size w w' := by
  have hp := rule_perm ps n
  obtain ⟨hon, hin⟩ := perm_in hp
  have hf := fun W h => l14Rule_any b o n c ps W h hn7'
  have hsp := fun W B d h hB => l14Times_any (some ⟨b, o, none⟩) n c ps B n d (ruleL ps n) W h hB hj hn7' hin
  generalize ruleL ps n = os at *
  generalize timK ps os n = t at *
  have HF := Lib.hid hf
  have HSP := Lib.hid hsp
  clear hf hsp hp hon hin
  have H := Lib.hid h
  clear h
  go_enter Try.func73, Try.ntmps73
  go_wp2_with fail
  refine (HF.out _ H.out).mono ?_
  rintro e w2 ⟨g, d, rfl, ho, hb2⟩
  have H2 := Lib.hid (H.out.below hb2)
  have HR := Lib.hid (Rd.of_own ho)
  have Hb2 := Lib.hid hb2
  clear ho hb2
  go_wp2_with fail
  refine (HSP.out _ _ _ H2.out HR.out).mono ?_
  rintro e w3 ⟨g1, g2, rfl, _, _, _, hb3⟩
  go_wp2
  go_ret
  exact ⟨rfl, Hb2.out.trans (hb3.mono Hb2.out.size)⟩

set_option maxRecDepth 100000 in
set_option maxHeartbeats 4000000 in
theorem implLeastSpan_any (b o n c : Nat) (ps : List (Int × Int)) (w : World) (h : Rd w 2 (some ⟨b, o, none⟩) n c (pr ps)) :
    Calls Try.prog 26 #[.slice (some ⟨b, o, none⟩) n c] w fun e w' => e = .returned (.tuple #[.int .i64 (leastZ ps).1, .int .i64 (leastZ ps).2]) ∧ Below w.heap.size w w' := by
  have hl := h.plen
  have hcall := fun W h => implValidJobs_any (some ⟨b, o, none⟩) n c ps W h
  unfold leastZ
  cases hz : jobsB ps with
  | false =>
    rw [hz] at hcall
    rw [if_neg (by simp)]
    have HC := Lib.hid hcall
    have H := Lib.hid h
    clear hcall h hz hl
    go_enter Try.func26, Try.ntmps26
    go_wp2_with fail
    refine (HC.out _ H.out).mono ?_
    rintro e w1 ⟨rfl, hb1⟩
    go_wp2
    go_ret2
    exact ⟨rfl, hb1⟩
  | true =>
    rw [hz] at hcall
    rw [if_pos rfl]
    have hj := jok hz
    have hn7 := hj.len
    have hn7' : n ≤ 7 := by omega
    rw [hl]
    have hp := rule_perm ps n
    obtain ⟨hon, hin⟩ := perm_in hp
    have hf := fun W h => ruleOrder_any b o n c ps W h hn7'
    have hsp := fun W B d h hB => spanOf_any (some ⟨b, o, none⟩) n c ps B n d (ruleL ps n) W h hB hj hn7' hin
    generalize ruleL ps n = os at *
    generalize (timK ps os n).b = r at *
    have HF := Lib.hid hf
    have HSP := Lib.hid hsp
    clear hf hsp hp hon hin
    have HC := Lib.hid hcall
    have H := Lib.hid h
    clear hcall h hz hl hn7 hj
    go_enter Try.func26, Try.ntmps26
    go_wp2_with fail
    refine (HC.out _ H.out).mono ?_
    rintro e w1 ⟨rfl, hb1⟩
    have H1 := Lib.hid (H.out.below hb1)
    have Hb1 := Lib.hid hb1
    have hs1 := hb1.size
    clear hb1
    go_wp2_with fail
    refine (HF.out _ H1.out).mono ?_
    rintro e w2 ⟨g, d, rfl, ho, hb2⟩
    have H2 := Lib.hid (H1.out.below hb2)
    have HR := Lib.hid (Rd.of_own ho)
    have Hb2 := Lib.hid (Hb1.out.trans (hb2.mono hs1))
    clear ho hb2
    go_wp2_with fail
    refine (HSP.out _ _ _ H2.out HR.out).mono ?_
    rintro e w3 ⟨rfl, hb3⟩
    go_wp2
    go_ret2
    exact ⟨rfl, Hb2.out.trans (hb3.mono Hb2.out.size)⟩

set_option maxRecDepth 100000 in
set_option maxHeartbeats 4000000 in
theorem specLeastSpan_any (b o n c : Nat) (ps : List (Int × Int)) (w : World) (h : Rd w 2 (some ⟨b, o, none⟩) n c (pr ps)) :
    Calls Try.prog 35 #[.slice (some ⟨b, o, none⟩) n c] w fun e w' => e = .returned (.tuple #[.int .i64 (leastZ ps).1, .int .i64 (leastZ ps).2]) ∧ Below w.heap.size w w' := by
  have hl := h.plen
  have hcall := fun W h => l14Ok_any (some ⟨b, o, none⟩) n c ps W h
  unfold leastZ
  cases hz : jobsB ps with
  | false =>
    rw [hz] at hcall
    rw [if_neg (by simp)]
    have HC := Lib.hid hcall
    have H := Lib.hid h
    clear hcall h hz hl
    go_enter Try.func35, Try.ntmps35
    go_wp2_with fail
    refine (HC.out _ H.out).mono ?_
    rintro e w1 ⟨rfl, rfl⟩
    go_wp2
    go_ret2
    exact ⟨rfl, Below.refl _ _⟩
  | true =>
    rw [hz] at hcall
    rw [if_pos rfl]
    have hj := jok hz
    have hn7 := hj.len
    have hn7' : n ≤ 7 := by omega
    rw [hl]
    have hf := fun W h => l14Least_any b o n c ps W h hj hn7'
    generalize (timK ps (ruleL ps n) n).b = r at *
    have HF := Lib.hid hf
    clear hf
    have HC := Lib.hid hcall
    have H := Lib.hid h
    clear hcall h hz hl hn7 hj
    go_enter Try.func35, Try.ntmps35
    go_wp2_with fail
    refine (HC.out _ H.out).mono ?_
    rintro e w1 ⟨rfl, rfl⟩
    have H1 := Lib.hid H.out
    have Hb1 := Lib.hid (Below.refl w.heap.size w)
    have hs1 := Nat.le_refl w.heap.size
    go_wp2_with fail
    refine (HF.out _ H1.out).mono ?_
    rintro e w2 ⟨rfl, hb2⟩
    go_wp2
    go_ret2
    exact ⟨rfl, Hb1.out.trans (hb2.mono hs1)⟩

set_option maxRecDepth 100000 in
set_option maxHeartbeats 8000000 in
theorem law_RuleOrder (A : Option Addr) (n c : Nat) (ps : List (Int × Int)) (w : World) (hA : Rd w 2 A n c (pr ps)) :
    Calls Try.prog 6 #[.slice A n c] w fun e w' => e = .returned (.bool true) ∧ Below w.heap.size w w' := by
  have eA1 := hA.cap
  have eA2 := hA.max
  have lA := hA.plen
  have hsp := fun b o n c W h1 => specRuleOrder_any b o n c ps W h1
  have him := fun b o n c W h1 => implRuleOrder_any b o n c ps W h1
  have hlen := (show (ruleZ ps).1.length ≤ n from by have := rule_len (ps := ps); omega)
  generalize (ruleZ ps).1 = R at *
  generalize (ruleZ ps).2 = z at *
  have HA := Lib.hid hA
  have HSP := Lib.hid hsp
  have HIM := Lib.hid him
  clear hA hsp him lA
  by_cases gA : (1048576 : Int) < (n : Int)
  · go_enter Try.func6, Try.ntmps6
    go_wp2_with fail
    refine (szPrS_any _ _ _ _ _ (by omega) (by omega) (by omega)).mono ?_
    rw [if_pos (by omega)]
    rintro e w' ⟨rfl, rfl⟩
    go_wp2
    go_ret
    exact ⟨rfl, Below.refl _ _⟩
  have b0 : Below w.heap.size w w := Below.refl _ _
  go_enter Try.func6, Try.ntmps6
  go_wp2_with fail
  refine (szPrS_any _ _ _ _ _ (by omega) (by omega) (by omega)).mono ?_
  rw [if_neg (by omega)]
  rintro e w' ⟨rfl, rfl⟩
  have sA : ¬ 1048576 - (n : Int) < 0 := by omega
  go_wp2_with fail
  refine (toPrS_any A n c ps _ (HA.out.below b0) (by omega)).mono ?_
  rintro e w1 ⟨gt0, rfl, ho, hb1⟩
  have b1 : Below w.heap.size w w1 := b0.trans (hb1.mono b0.size)
  have s1 := hb1.size
  have Ot01 := Lib.hid (OwnIn.new ho)
  clear hb1 ho
  go_wp2_with fail
  refine (HSP.out _ _ _ _ _ Ot01.out.rd).mono ?_
  rintro e w2 ⟨Aw, nw, cw, rfl, ho, hb2⟩
  have b2 : Below w.heap.size w w2 := b1.trans (hb2.mono b1.size)
  have s2 := hb2.size
  have Ot02 := Lib.hid (Ot01.out.below hb2)
  have Ow2 := Lib.hid (OwnIn.new ho)
  clear hb2 Ot01 ho
  go_wp2_with fail
  refine (toPrS_any A n c ps _ (HA.out.below b2) (by omega)).mono ?_
  rintro e w3 ⟨gx0, rfl, ho, hb3⟩
  have b3 : Below w.heap.size w w3 := b2.trans (hb3.mono b2.size)
  have s3 := hb3.size
  have Ot03 := Lib.hid (Ot02.out.below hb3)
  have Ow3 := Lib.hid (Ow2.out.below hb3)
  have Ox03 := Lib.hid (OwnIn.new ho)
  clear hb3 Ot02 Ow2 ho
  go_wp2_with fail
  refine (HIM.out _ _ _ _ _ Ox03.out.rd).mono ?_
  rintro e w4 ⟨Ag, ng, cg, rfl, ho, hb4⟩
  have b4 : Below w.heap.size w w4 := b3.trans (hb4.mono b3.size)
  have s4 := hb4.size
  have Ot04 := Lib.hid (Ot03.out.below hb4)
  have Ow4 := Lib.hid (Ow3.out.below hb4)
  have Ox04 := Lib.hid (Ox03.out.below hb4)
  have Og4 := Lib.hid (OwnIn.new ho)
  clear hb4 Ot03 Ow3 Ox03 ho
  have lg := Og4.out.ilen
  go_wp2_with fail
  refine (eqInt64S_any _ _ _ R _ _ _ R _ Og4.out.rd Ow4.out.rd).mono ?_
  rw [eqL_self]
  rintro e w5 ⟨rfl, hb5⟩
  have b5 : Below w.heap.size w w5 := b4.trans (hb5.mono b4.size)
  have s5 := hb5.size
  have Ot05 := Lib.hid (Ot04.out.below hb5)
  have Ow5 := Lib.hid (Ow4.out.below hb5)
  have Ox05 := Lib.hid (Ox04.out.below hb5)
  have Og5 := Lib.hid (Og4.out.below hb5)
  clear hb5 Ot04 Ow4 Ox04 Og4
  go_wp2_with fail
  refine (toPrS_any A n c ps _ (HA.out.below b5) (by omega)).mono ?_
  rintro e w6 ⟨gy0, rfl, ho, hb6⟩
  have b6 : Below w.heap.size w w6 := b5.trans (hb6.mono b5.size)
  have s6 := hb6.size
  have Ot06 := Lib.hid (Ot05.out.below hb6)
  have Ow6 := Lib.hid (Ow5.out.below hb6)
  have Ox06 := Lib.hid (Ox05.out.below hb6)
  have Og6 := Lib.hid (Og5.out.below hb6)
  have Oy06 := Lib.hid (OwnIn.new ho)
  clear hb6 Ot05 Ow5 Ox05 Og5 ho
  go_wp2_with fail
  refine (eqPrS_any _ _ _ ps _ _ _ ps _ Ox06.out.rd Oy06.out.rd).mono ?_
  rw [eqG_self]
  rintro e w7 ⟨rfl, hb7⟩
  have b7 : Below w.heap.size w w7 := b6.trans (hb7.mono b6.size)
  have s7 := hb7.size
  have Ot07 := Lib.hid (Ot06.out.below hb7)
  have Ow7 := Lib.hid (Ow6.out.below hb7)
  have Ox07 := Lib.hid (Ox06.out.below hb7)
  have Og7 := Lib.hid (Og6.out.below hb7)
  have Oy07 := Lib.hid (Oy06.out.below hb7)
  clear hb7 Ot06 Ow6 Ox06 Og6 Oy06
  go_wp2_with fail
  refine (markPrS_any _ _ _ _ ps _ _ Ox07.out.own (by omega) (by omega)).mono ?_
  rintro e w8 ⟨rfl, ho, hg⟩
  have b8 : Below w.heap.size w w8 := Ox07.out.base b7 hg (by omega) (Nat.le_refl _)
  have s8 := hg.size
  have Ot08 := Lib.hid (Ot07.out.other Ox07.out hg (by omega))
  have Ow8 := Lib.hid (Ow7.out.other Ox07.out hg (by omega))
  have Ox08 := Lib.hid (Ox07.out.self ho hg)
  have Og8 := Lib.hid (Og7.out.other Ox07.out hg (by omega))
  have Oy08 := Lib.hid (Oy07.out.other Ox07.out hg (by omega))
  clear ho hg Ot07 Ow7 Ox07 Og7 Oy07
  go_wp2_with fail
  refine (eqInt64S_any _ _ _ R _ _ _ R _ Og8.out.rd Ow8.out.rd).mono ?_
  rw [eqL_self]
  rintro e w9 ⟨rfl, hb9⟩
  have b9 : Below w.heap.size w w9 := b8.trans (hb9.mono b8.size)
  have s9 := hb9.size
  have Ot09 := Lib.hid (Ot08.out.below hb9)
  have Ow9 := Lib.hid (Ow8.out.below hb9)
  have Ox09 := Lib.hid (Ox08.out.below hb9)
  have Og9 := Lib.hid (Og8.out.below hb9)
  have Oy09 := Lib.hid (Oy08.out.below hb9)
  clear hb9 Ot08 Ow8 Ox08 Og8 Oy08
  go_wp2_with fail
  refine (markInt64S_any _ _ _ _ R 1 _ Og9.out.own (by omega) (by omega)).mono ?_
  rintro e w10 ⟨rfl, ho, hg⟩
  have b10 : Below w.heap.size w w10 := Og9.out.base b9 hg (by omega) (Nat.le_refl _)
  have s10 := hg.size
  have Ot010 := Lib.hid (Ot09.out.other Og9.out hg (by omega))
  have Ow10 := Lib.hid (Ow9.out.other Og9.out hg (by omega))
  have Ox010 := Lib.hid (Ox09.out.other Og9.out hg (by omega))
  have Og10 := Lib.hid (Og9.out.self ho hg)
  have Oy010 := Lib.hid (Oy09.out.other Og9.out hg (by omega))
  clear ho hg Ot09 Ow9 Ox09 Og9 Oy09
  go_wp2_with fail
  refine (heldInt64S_any _ _ _ 1 _ Og10.out.rd (by omega) (by omega)).mono ?_
  rintro e wz ⟨rfl, rfl⟩
  go_wp2_with fail
  refine (toPrS_any A n c ps _ (HA.out.below b10) (by omega)).mono ?_
  rintro e w11 ⟨gz0, rfl, ho, hb11⟩
  have b11 : Below w.heap.size w w11 := b10.trans (hb11.mono b10.size)
  have s11 := hb11.size
  have Ot011 := Lib.hid (Ot010.out.below hb11)
  have Ow11 := Lib.hid (Ow10.out.below hb11)
  have Ox011 := Lib.hid (Ox010.out.below hb11)
  have Og11 := Lib.hid (Og10.out.below hb11)
  have Oy011 := Lib.hid (Oy010.out.below hb11)
  have Oz011 := Lib.hid (OwnIn.new ho)
  clear hb11 Ot010 Ow10 Ox010 Og10 Oy010 ho
  go_wp2_with fail
  refine (HIM.out _ _ _ _ _ Oz011.out.rd).mono ?_
  rintro e w12 ⟨Ah, nh, ch, rfl, ho, hb12⟩
  have b12 : Below w.heap.size w w12 := b11.trans (hb12.mono b11.size)
  have s12 := hb12.size
  have Ot012 := Lib.hid (Ot011.out.below hb12)
  have Ow12 := Lib.hid (Ow11.out.below hb12)
  have Ox012 := Lib.hid (Ox011.out.below hb12)
  have Og12 := Lib.hid (Og11.out.below hb12)
  have Oy012 := Lib.hid (Oy011.out.below hb12)
  have Oz012 := Lib.hid (Oz011.out.below hb12)
  have Oh12 := Lib.hid (OwnIn.new ho)
  clear hb12 Ot011 Ow11 Ox011 Og11 Oy011 Oz011 ho
  go_wp2_with fail
  refine (eqInt64S_any _ _ _ R _ _ _ R _ Oh12.out.rd Ow12.out.rd).mono ?_
  rw [eqL_self]
  rintro e w13 ⟨rfl, hb13⟩
  have b13 : Below w.heap.size w w13 := b12.trans (hb13.mono b12.size)
  have s13 := hb13.size
  have Ot013 := Lib.hid (Ot012.out.below hb13)
  have Ow13 := Lib.hid (Ow12.out.below hb13)
  have Ox013 := Lib.hid (Ox012.out.below hb13)
  have Og13 := Lib.hid (Og12.out.below hb13)
  have Oy013 := Lib.hid (Oy012.out.below hb13)
  have Oz013 := Lib.hid (Oz012.out.below hb13)
  have Oh13 := Lib.hid (Oh12.out.below hb13)
  clear hb13 Ot012 Ow12 Ox012 Og12 Oy012 Oz012 Oh12
  go_wp2_with fail
  refine (heldInt64S_any _ _ _ 1 _ Og13.out.rd (by omega) (by omega)).mono ?_
  rintro e wz ⟨rfl, rfl⟩
  go_wp2_with fail
  go_ret
  exact ⟨rfl, b13⟩

set_option maxRecDepth 100000 in
set_option maxHeartbeats 8000000 in
theorem law_LeastSpan (A : Option Addr) (n c : Nat) (ps : List (Int × Int)) (w : World) (hA : Rd w 2 A n c (pr ps)) :
    Calls Try.prog 7 #[.slice A n c] w fun e w' => e = .returned (.bool true) ∧ Below w.heap.size w w' := by
  have eA1 := hA.cap
  have eA2 := hA.max
  have lA := hA.plen
  have hsp := fun b o n c W h1 => specLeastSpan_any b o n c ps W h1
  have him := fun b o n c W h1 => implLeastSpan_any b o n c ps W h1
  generalize (leastZ ps).1 = R at *
  generalize (leastZ ps).2 = z at *
  have HA := Lib.hid hA
  have HSP := Lib.hid hsp
  have HIM := Lib.hid him
  clear hA hsp him lA
  by_cases gA : (1048576 : Int) < (n : Int)
  · go_enter Try.func7, Try.ntmps7
    go_wp2_with fail
    refine (szPrS_any _ _ _ _ _ (by omega) (by omega) (by omega)).mono ?_
    rw [if_pos (by omega)]
    rintro e w' ⟨rfl, rfl⟩
    go_wp2
    go_ret
    exact ⟨rfl, Below.refl _ _⟩
  have b0 : Below w.heap.size w w := Below.refl _ _
  go_enter Try.func7, Try.ntmps7
  go_wp2_with fail
  refine (szPrS_any _ _ _ _ _ (by omega) (by omega) (by omega)).mono ?_
  rw [if_neg (by omega)]
  rintro e w' ⟨rfl, rfl⟩
  have sA : ¬ 1048576 - (n : Int) < 0 := by omega
  go_wp2_with fail
  refine (toPrS_any A n c ps _ (HA.out.below b0) (by omega)).mono ?_
  rintro e w1 ⟨gt0, rfl, ho, hb1⟩
  have b1 : Below w.heap.size w w1 := b0.trans (hb1.mono b0.size)
  have s1 := hb1.size
  have Ot01 := Lib.hid (OwnIn.new ho)
  clear hb1 ho
  go_wp2_with fail
  refine (HSP.out _ _ _ _ _ Ot01.out.rd).mono ?_
  rintro e w2 ⟨rfl, hb2⟩
  have b2 : Below w.heap.size w w2 := b1.trans (hb2.mono b1.size)
  have s2 := hb2.size
  have Ot02 := Lib.hid (Ot01.out.below hb2)
  clear hb2 Ot01
  go_wp2_with fail
  refine (toPrS_any A n c ps _ (HA.out.below b2) (by omega)).mono ?_
  rintro e w3 ⟨gx0, rfl, ho, hb3⟩
  have b3 : Below w.heap.size w w3 := b2.trans (hb3.mono b2.size)
  have s3 := hb3.size
  have Ot03 := Lib.hid (Ot02.out.below hb3)
  have Ox03 := Lib.hid (OwnIn.new ho)
  clear hb3 Ot02 ho
  go_wp2_with fail
  refine (HIM.out _ _ _ _ _ Ox03.out.rd).mono ?_
  rintro e w4 ⟨rfl, hb4⟩
  have b4 : Below w.heap.size w w4 := b3.trans (hb4.mono b3.size)
  have s4 := hb4.size
  have Ot04 := Lib.hid (Ot03.out.below hb4)
  have Ox04 := Lib.hid (Ox03.out.below hb4)
  clear hb4 Ot03 Ox03
  go_wp2_with fail
  refine (toPrS_any A n c ps _ (HA.out.below b4) (by omega)).mono ?_
  rintro e w5 ⟨gy0, rfl, ho, hb5⟩
  have b5 : Below w.heap.size w w5 := b4.trans (hb5.mono b4.size)
  have s5 := hb5.size
  have Ot05 := Lib.hid (Ot04.out.below hb5)
  have Ox05 := Lib.hid (Ox04.out.below hb5)
  have Oy05 := Lib.hid (OwnIn.new ho)
  clear hb5 Ot04 Ox04 ho
  go_wp2_with fail
  refine (eqPrS_any _ _ _ ps _ _ _ ps _ Ox05.out.rd Oy05.out.rd).mono ?_
  rw [eqG_self]
  rintro e w6 ⟨rfl, hb6⟩
  have b6 : Below w.heap.size w w6 := b5.trans (hb6.mono b5.size)
  have s6 := hb6.size
  have Ot06 := Lib.hid (Ot05.out.below hb6)
  have Ox06 := Lib.hid (Ox05.out.below hb6)
  have Oy06 := Lib.hid (Oy05.out.below hb6)
  clear hb6 Ot05 Ox05 Oy05
  go_wp2_with fail
  go_ret
  exact ⟨rfl, b6⟩

end Go.Proofs.Ytfjmohnlllbgmaa
