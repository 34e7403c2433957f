/- Late jobs: LateJobs (program, reference), and its law. Printed by mklj.py. -/
import Derived.Test.YtfjmohnlllbgmaaEn
namespace Go.Proofs.Ytfjmohnlllbgmaa
open Go.RowKit Go.Shelf

/-- The code of jobs, an order, and times. -/
def lateC (ps : List (Int × Int)) (os ds : List Int) : Int := if codeJ ps os = 0 then (if (decide (ds.length ≠ ps.length) || outB ds 0 100000) = true then 2 else 0) else codeJ ps os
/-- The first k jobs that are late. -/
def lateL (S ds : List Int) (k : Nat) : List Int := (upto k).filter fun i => decide (ds.getD i.toNat 0 < S.getD i.toNat 0)
def lateZ (ps : List (Int × Int)) (os ds : List Int) : List Int × Int := if lateC ps os ds = 0 then (lateL (timK ps os os.length).S ds ps.length, 0) else ([], lateC ps os ds)
theorem lateL_yes {S ds : List Int} {k : Nat} (h : ds.getD k 0 < S.getD k 0) : lateL S ds (k + 1) = lateL S ds k ++ [(k : Int)] := by
  unfold lateL
  have : upto (k + 1) = upto k ++ [(k : Int)] := by simp [upto, List.range_succ]
  rw [this, List.filter_append]
  have hh : decide (ds.getD (k : Int).toNat 0 < S.getD (k : Int).toNat 0) = true := decide_eq_true h
  rw [List.filter_cons_of_pos (p := fun i : Int => decide (ds.getD i.toNat 0 < S.getD i.toNat 0)) hh]
  rfl
theorem lateL_no {S ds : List Int} {k : Nat} (h : ¬ ds.getD k 0 < S.getD k 0) : lateL S ds (k + 1) = lateL S ds k := by
  unfold lateL
  have : upto (k + 1) = upto k ++ [(k : Int)] := by simp [upto, List.range_succ]
  rw [this, List.filter_append]
  have hh : ¬ decide (ds.getD (k : Int).toNat 0 < S.getD (k : Int).toNat 0) = true := by rw [decide_eq_true_iff]; exact h
  rw [List.filter_cons_of_neg (p := fun i : Int => decide (ds.getD i.toNat 0 < S.getD i.toNat 0)) hh]
  simp
theorem lateL_len {S ds : List Int} {k : Nat} : (lateL S ds k).length ≤ k := by
  have := List.length_filter_le (fun i : Int => decide (ds.getD i.toNat 0 < S.getD i.toNat 0)) (upto k)
  rw [upto_len] at this
  exact this
theorem late_bad {ps : List (Int × Int)} {os ds : List Int} (hz : codeJ ps os ≠ 0) : lateZ ps os ds = ([], codeJ ps os) := by
  have : lateC ps os ds = codeJ ps os := by unfold lateC; rw [if_neg hz]
  unfold lateZ
  rw [this, if_neg hz]
theorem late_two {ps : List (Int × Int)} {os ds : List Int} (hz : codeJ ps os = 0) (h : (decide (ds.length ≠ ps.length) || outB ds 0 100000) = true) : lateZ ps os ds = ([], 2) := by
  have : lateC ps os ds = 2 := by unfold lateC; rw [if_pos hz, if_pos h]
  unfold lateZ
  rw [this, if_neg (by omega)]
theorem late_ok {ps : List (Int × Int)} {os ds : List Int} (hz : codeJ ps os = 0) (h : (decide (ds.length ≠ ps.length) || outB ds 0 100000) = false) : lateZ ps os ds = (lateL (timK ps os os.length).S ds ps.length, 0) := by
  have : lateC ps os ds = 0 := by unfold lateC; rw [if_pos hz, h]; rfl
  unfold lateZ
  rw [this, if_pos rfl]
theorem late_len {ps : List (Int × Int)} {os ds : List Int} : (lateZ ps os ds).1.length ≤ ps.length := by
  unfold lateZ
  split
  · exact lateL_len
  · simp

set_option maxRecDepth 100000 in
set_option maxHeartbeats 8000000 in
theorem implLateJobs_any (A : Option Addr) (n c : Nat) (ps : List (Int × Int)) (B : Option Addr) (m d : Nat) (os : List Int) (D : Option Addr) (l q : Nat) (ds : List Int) (w : World) (h : Rd w 2 A n c (pr ps)) (hB : Rd w 1 B m d (ints os)) (hD : Rd w 1 D l q (ints ds)) (hm : m ≤ 1048576) :
    Calls Try.prog 45 #[.slice A n c, .slice B m d, .slice D l q] w (IntPost w (lateZ ps os ds).1 (lateZ ps os ds).2) := by
  have hl := h.plen
  have hlo := hB.ilen
  have hld := hD.ilen
  have h1 := h.cap
  have h2 := h.max
  have h3 := hB.cap
  have h4 := hB.max
  have h5 := hD.cap
  have h6 := hD.max
  by_cases hz : codeJ ps os = 0
  · obtain ⟨hj, hp⟩ := codeJ_ok hz
    obtain ⟨hon, hin⟩ := perm_in hp
    have hn7 := hj.len
    have hmn : m = n := by omega
    subst hmn
    have hn7' : m ≤ 7 := by omega
    have hin' : ∀ (j : Nat) (i : Int), os[j]? = some i → 0 ≤ i ∧ i < m := fun j i hi => by have := hin j i hi; omega
    have hcall := fun W h hB => jobsCode_any A m c ps B m d os W h hB hm
    rw [hz] at hcall
    have hout := fun W hD => outside_any D l q ds 0 100000 W hD
    have hT := timB_all (os := os) hj hin m (by omega)
    rw [hl] at hT
    have hf := fun W h hB => run_any A m c ps B m d os W h hB hj hn7' hin'
    have hTW := fun h => late_two (ps := ps) (os := os) (ds := ds) hz h
    have hOK := fun h => late_ok (ps := ps) (os := os) (ds := ds) hz h
    rw [hl, hld] at hTW hOK
    rw [hlo] at hOK
    generalize lateZ ps os ds = RZ at *
    have hX : (timK ps os m).S.length = m := hT.sl
    generalize timK ps os m = t at *
    generalize t.S = X at *
    cases ho : outB ds 0 100000 with
    | true =>
      rw [ho] at hout
      have e1 := hTW (by rw [ho, Bool.or_true])
      subst e1
      clear hOK hTW
      have HC := Lib.hid hcall
      have HO := Lib.hid hout
      have H := Lib.hid h
      have HB := Lib.hid hB
      have HD := Lib.hid hD
      clear hcall hout h hB hD hl hlo hld hz hp hin hin' hon hn7 ho hf hT hX hj
      by_cases hlm : l = m
      · have hne : ((l : Int) != (m : Int)) = false := by simp [hlm]
        clear hlm
        go_enter Try.func45, Try.ntmps45
        go_wp2_with fail
        refine (HC.out _ H.out HB.out).mono ?_
        rintro e w1 ⟨rfl, hb1⟩
        have D1 := Lib.hid (HD.out.below hb1)
        have Hb1 := Lib.hid hb1
        have hs1 := hb1.size
        clear hb1
        go_wp2_with fail
        refine (HO.out _ D1.out).mono ?_
        rintro e w2 ⟨rfl, hb2⟩
        go_wp2
        go_ret2
        exact intPost_nil (Hb1.out.trans (hb2.mono hs1))
      · have hne : ((l : Int) != (m : Int)) = true := by simp; omega
        go_enter Try.func45, Try.ntmps45
        go_wp2_with fail
        refine (HC.out _ H.out HB.out).mono ?_
        rintro e w1 ⟨rfl, hb1⟩
        go_wp2
        go_ret2
        exact intPost_nil hb1
    | false =>
      rw [ho] at hout
      by_cases hlm : l = m
      · subst hlm
        have hne : ((l : Int) != (l : Int)) = false := by simp
        have e1 := hOK (by rw [ho]; simp)
        subst e1
        clear hOK hTW
        obtain ⟨i0, hi, hz0, hz1, hz2⟩ := info_parts info_i64r
        have HC := Lib.hid hcall
        have HO := Lib.hid hout
        have HF := Lib.hid hf
        have HXL := Lib.hid hX
        have H := Lib.hid h
        have HB := Lib.hid hB
        have HD := Lib.hid hD
        clear hcall hout h hB hD hl hlo hld hz hp hin hin' hon hn7 ho hf hT hX hj
        go_enter Try.func45, Try.ntmps45
        go_wp2_with fail
        refine (HC.out _ H.out HB.out).mono ?_
        rintro e w1 ⟨rfl, hb1⟩
        have H1 := Lib.hid (H.out.below hb1)
        have B1 := Lib.hid (HB.out.below hb1)
        have D1 := Lib.hid (HD.out.below hb1)
        have Hb1 := Lib.hid hb1
        have hs1 := hb1.size
        clear hb1
        go_wp2_with fail
        refine (HO.out _ D1.out).mono ?_
        rintro e w2 ⟨rfl, hb2⟩
        have H2 := Lib.hid (H1.out.below hb2)
        have B2 := Lib.hid (B1.out.below hb2)
        have D2 := Lib.hid (D1.out.below hb2)
        have Hb2 := Lib.hid (Hb1.out.trans (hb2.mono hs1))
        have hs2 := Hb2.out.size
        clear hb2
        have hal : Below w2.heap.size w2 (w2.alloc (.cells #[] 2)) := (Below.refl _ _).alloc (Nat.le_refl _) _
        have HAL := Lib.hid hal
        clear hal
        go_wp2_with fail
        refine (HF.out _ (H2.out.below HAL.out) (B2.out.below HAL.out)).mono ?_
        rintro e w3 ⟨g1, g2, rfl, _, _, ho2, hb3⟩
        have ho0 : (w2.alloc (.cells #[] 2)).ownsRow w2.heap.size 2 1 (.slice (some ⟨w2.heap.size, 0, none⟩) 0 0) 0 (ints (lateL X ds 0)) := by
          simpa [ints, lateL, upto] using World.ownsRow_made (e := 2) (size := 1) w2 #[] 0 (Nat.le_refl _) (by unfold maxLen; omega) rfl
        have hsa : w2.heap.size + 1 = (w2.alloc (.cells #[] 2)).heap.size := by simp
        have hg2 := own_block ho2 g2 rfl
        rw [← hsa] at hg2
        have HO0 := Lib.hid (own_base (own_below ho0 hb3) hs2)
        have HO2 := Lib.hid (own_base ho2 (show w.heap.size ≤ _ by rw [← hsa]; omega))
        have D3 := Lib.hid (HD.out)
        have Hb3 := Lib.hid ((Hb2.out.trans (HAL.out.mono hs2)).trans (hb3.mono (show w.heap.size ≤ _ by rw [← hsa]; omega)))
        clear ho0 ho2 hb3 hsa D1 D2 H1 H2 B1 B2
        go_wp2_with fail
        go_loopw [9, 42] (fun vo vi wr => ∃ (k : Nat) (O : Option Addr) (oc : Nat), k ≤ l ∧ vi = .int .i64 k ∧ vo = .slice O (lateL X ds k).length oc ∧ wr.ownsRow w.heap.size 2 1 (.slice O (lateL X ds k).length oc) (lateL X ds k).length (ints (lateL X ds k)) ∧ (∀ g, O = some ⟨g, 0, none⟩ → g ≠ g2) ∧ wr.ownsRow w.heap.size 2 1 (.slice (some ⟨g2, 0, none⟩) l l) l (ints X) ∧ Below w.heap.size w wr) (fun _ vi _ => l - (intOf vi).toNat)
        case atStart => exact ⟨0, _, _, Nat.zero_le _, rfl, rfl, HO0.out, fun g hg => by injection hg with hg; injection hg with hg; omega, HO2.out, Hb3.out⟩
        case round =>
          obtain ⟨k, O, oc, hk, rfl, rfl, hown, hng, hown2, hb⟩ := hrel
          by_cases hlt : k < l
          · have hk0 : (0 : Int) ≤ (k : Int) := by omega
            have hk1 : (k : Int) < (l : Int) := by omega
            have hkd : decide ((k : Int) < (l : Int)) = true := decide_eq_true hk1
            have c2 := own_int hown2 (i := k) hlt HXL.out
            obtain ⟨b', o', y, hA', hbl', hy, hc3⟩ := HD.out.int hlt
            subst hA'
            have c3 := cell_bel hc3 hb
            have hyd : ds.getD k 0 = y := by simp [List.getD, hy]
            have HYD := Lib.hid hyd
            obtain ⟨x, hx⟩ : ∃ x, X.getD k 0 = x := ⟨_, rfl⟩
            rw [hx] at c2
            have HX := Lib.hid hx
            have hss := hb.size
            have Q0 := Lib.hid hown
            have Q2 := Lib.hid hown2
            have QB := Lib.hid hb
            have HNG := Lib.hid hng
            clear hown hown2 hb hx hy hyd hc3 hng
            by_cases hxy : y < x
            · have hd : decide (y < x) = true := decide_eq_true hxy
              have HGT : ds.getD k 0 < X.getD k 0 := by rw [HYD.out, HX.out]; exact hxy
              have eL := lateL_yes (S := X) (ds := ds) (k := k) HGT
              have hll := lateL_len (S := X) (ds := ds) (k := k)
              have EL := Lib.hid eL
              have QO := Lib.hid (own_block Q0.out)
              clear eL HGT
              go_wp2_with (at_builtin; refine wpList_append_own_at _ rfl (.tmp 53) (.tmp 55) 34 rfl w.heap.size 2 i0 (.int .i64 0) 1 8 Try.underlying34 hi hz0 hz1 hz2 rfl (by decide) (Value.slice O (lateL X ds k).length oc) _ _ rfl (Q0.out.alloc _) ⟨_, 0, none⟩ 1 1 [.int .i64 k] rfl rfl (cell_one_new _ _ _) (by intro u hu; simp at hu; subst hu; rfl) (by unfold maxLen; omega) (by omega) (by simp; omega) ?_; intro v' wa hown' hga hdel hblk)
              have hal : Below wr.heap.size wr (wr.alloc (.cells #[.int .i64 k] 2)) := (by go_grown)
              obtain ⟨g3, d3, hv, _, _⟩ := own_form hown' (by omega)
              have b7 : Below w.heap.size w wa := (QB.out.trans (hal.mono hss)).grown hga (by simp; omega) (fun j hj => (QO.out j hj).1)
              have hg2l := (own_block Q2.out g2 rfl).2
              have hnb : (Value.slice O (lateL X ds k).length oc).ownBlock ≠ some g2 := fun hh => by
                cases O with
                | none => cases hh
                | some a =>
                  rcases Q0.out.2 with ⟨h', _⟩ | ⟨g, cap, cur, h', _⟩
                  · cases h'
                  · injection h' with h' _ _
                    rw [h'] at hh
                    have := HNG.out g h'
                    simp [Value.ownBlock] at hh
                    exact this hh
              have p2 := (own_below Q2.out hal).kept hga (.inr fun hh => hnb (by simpa [Value.ownBlock] using hh.symm))
              have hg3 : g3 ≠ g2 := by
                rw [hv] at hblk
                rcases hblk with hb' | hb'
                · intro e; subst e; exact hnb (by rw [← hb']; rfl)
                · simp [Value.ownBlock] at hb'; omega
              rw [ints_snoc, ← EL.out] at hown'
              have hlen : (lateL X ds k).length + 1 = (lateL X ds (k + 1)).length := by rw [EL.out]; simp
              rw [hlen] at hown' hv
              subst hv
              clear hga hdel hblk hal hnb
              go_roundw
              case rel => exact ⟨k + 1, _, _, by omega, by go_num, by first | rfl | rw [hlen], hown', fun g hg => by injection hg with hg; injection hg with hg; omega, p2, b7⟩
              case measure => simp [intOf]; omega
            · have hd : decide (y < x) = false := decide_eq_false hxy
              have eL := lateL_no (S := X) (ds := ds) (k := k) (by rw [HYD.out, HX.out]; exact hxy)
              have EL := Lib.hid eL
              clear eL
              go_wp2
              go_roundw
              case rel => exact ⟨k + 1, _, _, by omega, by go_num, by rw [EL.out], by rw [EL.out]; exact Q0.out, HNG.out, Q2.out, QB.out⟩
              case measure => simp [intOf]; omega
          · have : k = l := by omega
            subst this
            have HO9 := Lib.hid hown
            clear hown hown2
            go_wp2
            go_ret2
            exact ⟨_, _, _, rfl, HO9.out, hb⟩
      · have hne : ((l : Int) != (m : Int)) = true := by simp; omega
        have e1 := hTW (by rw [ho]; simp [hlm])
        subst e1
        clear hOK hTW
        have HC := Lib.hid hcall
        have H := Lib.hid h
        have HB := Lib.hid hB
        clear hcall hout h hB hD hl hlo hld hz hp hin hin' hon hn7 ho hf hT hX hj
        go_enter Try.func45, Try.ntmps45
        go_wp2_with fail
        refine (HC.out _ H.out HB.out).mono ?_
        rintro e w1 ⟨rfl, hb1⟩
        go_wp2
        go_ret2
        exact intPost_nil hb1
  · have hne : (codeJ ps os != 0) = true := by simpa using hz
    have hne2 : (codeJ ps os == 0) = false := by simpa using hz
    rw [late_bad hz]
    have hcall := fun W h hB => jobsCode_any A n c ps B m d os W h hB hm
    generalize codeJ ps os = z at *
    have HC := Lib.hid hcall
    have H := Lib.hid h
    have HB := Lib.hid hB
    clear hcall h hB hD hl hlo hld hz
    go_enter Try.func45, Try.ntmps45
    go_wp2_with fail
    refine (HC.out _ H.out HB.out).mono ?_
    rintro e w1 ⟨rfl, hb1⟩
    go_wp2
    go_ret2
    exact intPost_nil hb1
theorem out_yes {xs : List Int} {k : Nat} {x lo hi : Int} (hx : xs[k]? = some x) (h : inB x lo hi = false) : outB xs lo hi = true := by
  unfold outB
  rw [List.any_eq_true]
  exact ⟨x, List.mem_of_getElem? hx, by rw [h]; rfl⟩
theorem out_none {xs : List Int} {lo hi : Int} (h : ∀ (j : Nat) (x : Int), xs[j]? = some x → inB x lo hi = true) : outB xs lo hi = false := by
  unfold outB
  rw [List.any_eq_false]
  intro x hx
  obtain ⟨j, hj⟩ := List.getElem?_of_mem hx
  rw [h j x hj]
  simp

set_option maxRecDepth 100000 in
set_option maxHeartbeats 8000000 in
theorem specLateJobs_any (A : Option Addr) (n c : Nat) (ps : List (Int × Int)) (B : Option Addr) (m d : Nat) (os : List Int) (D : Option Addr) (l q : Nat) (ds : List Int) (w : World) (h : Rd w 2 A n c (pr ps)) (hB : Rd w 1 B m d (ints os)) (hD : Rd w 1 D l q (ints ds)) :
    Calls Try.prog 50 #[.slice A n c, .slice B m d, .slice D l q] w (IntPost w (lateZ ps os ds).1 (lateZ ps os ds).2) := by
  have hl := h.plen
  have hlo := hB.ilen
  have hld := hD.ilen
  have h1 := h.cap
  have h2 := h.max
  have h3 := hB.cap
  have h4 := hB.max
  have h5 := hD.cap
  have h6 := hD.max
  by_cases hz : codeJ ps os = 0
  · obtain ⟨hj, hp⟩ := codeJ_ok hz
    obtain ⟨hon, hin⟩ := perm_in hp
    have hn7 := hj.len
    have hmn : m = n := by omega
    subst hmn
    have hn7' : m ≤ 7 := by omega
    have hin' : ∀ (j : Nat) (i : Int), os[j]? = some i → 0 ≤ i ∧ i < m := fun j i hi => by have := hin j i hi; omega
    have hcall := fun W h hB => l14Code_any A m c ps B m d os W h hB
    rw [hz] at hcall
    have hT := timB_all (os := os) hj hin m (by omega)
    rw [hl] at hT
    have hta := fun i hi => (tim_all (ps := ps) (os := os) (n := m) (i := i) hl (by have := hp; rw [hl] at this; exact this) hi).1
    have hf := fun W h hB => l14Times_any A m c ps B m d os W h hB hj hn7' hin'
    have hTW := fun h => late_two (ps := ps) (os := os) (ds := ds) hz h
    have hOK := fun h => late_ok (ps := ps) (os := os) (ds := ds) hz h
    rw [hl, hld] at hTW hOK
    rw [hlo] at hOK
    generalize lateZ ps os ds = RZ at *
    generalize timK ps os m = t at *
    obtain ⟨i0, hi, hz0, hz1, hz2⟩ := info_parts info_i64r
    have HC := Lib.hid hcall
    have HF := Lib.hid hf
    have HT := Lib.hid hT
    have HTA := Lib.hid hta
    have HJ := Lib.hid hj
    have H := Lib.hid h
    have HB := Lib.hid hB
    have HD := Lib.hid hD
    have HLD := Lib.hid hld
    generalize hzz : outB ds 0 100000 = oB at *
    have HZZ := Lib.hid hzz
    have HTW := Lib.hid hTW
    have HOK := Lib.hid hOK
    clear hcall h hB hD hl hlo hld hz hp hin hin' hon hn7 hf hT hta hj hzz hTW hOK
    go_enter Try.func50, Try.ntmps50
    go_wp2_with fail
    refine (HC.out _ H.out HB.out).mono ?_
    rintro e w1 ⟨rfl, hb1⟩
    have H1 := Lib.hid (H.out.below hb1)
    have B1 := Lib.hid (HB.out.below hb1)
    have D1 := Lib.hid (HD.out.below hb1)
    have Hb1 := Lib.hid hb1
    have hs1 := hb1.size
    clear hb1
    go_wp2_with fail
    go_loop [9] (fun vi => ∃ k : Nat, k ≤ l ∧ vi = .int .i64 k ∧ Hid (∀ (j : Nat) (x : Int), j < k → ds[j]? = some x → inB x 0 100000 = true)) (fun vi => l - (intOf vi).toNat)
    case atStart => exact ⟨0, Nat.zero_le _, rfl, (show Hid _ from fun j _ hj => absurd hj (Nat.not_lt_zero _))⟩
    case round =>
      obtain ⟨k, hk, rfl, HI⟩ := hrel
      by_cases hlt : k < l
      · obtain ⟨b, o, x, hA, hbl, hx, hc⟩ := D1.out.int hlt
        subst hA
        have hk0 : (0 : Int) ≤ (k : Int) := by omega
        have hk1 : (k : Int) < (l : Int) := by omega
        have hkd : decide ((k : Int) < (l : Int)) = true := decide_eq_true hk1
        have hn0 := fun W => l00In_any x 0 100000 W
        have HX := Lib.hid hx
        clear hx
        cases hq : inB x 0 100000 with
        | false =>
          rw [hq] at hn0
          have HN := Lib.hid hn0
          have HQ := Lib.hid hq
          clear hn0 hq
          go_wp2_with fail
          refine (HN.out _).mono ?_
          rintro e w2 ⟨rfl, rfl⟩
          go_wp2
          go_ret2
          have e1 : RZ = ([], 2) := HTW.out (by rw [← HZZ.out, out_yes HX.out HQ.out, Bool.or_true])
          rw [e1]
          exact intPost_nil Hb1.out
        | true =>
          rw [hq] at hn0
          have HN := Lib.hid hn0
          have HQ := Lib.hid hq
          clear hn0 hq
          go_wp2_with fail
          refine (HN.out _).mono ?_
          rintro e w2 ⟨rfl, rfl⟩
          go_wp2
          go_round
          case rel => exact ⟨k + 1, by omega, by go_num, (show Hid _ from fun j y hj hy => by
            by_cases e : j = k
            · subst e
              have := HX.out
              rw [this] at hy
              injection hy with hy
              rw [← hy]
              exact HQ.out
            · exact HI.out j y (by omega) hy)⟩
          case measure => simp [intOf]; omega
      · have : k = l := by omega
        subst this
        have ho : oB = false := by
          rw [← HZZ.out]
          exact out_none fun j x hx => HI.out j x (by have := (List.getElem?_eq_some_iff.1 hx).1; have := HLD.out; omega) hx
        have HO := Lib.hid ho
        clear ho
        by_cases hlm : k = m
        · have hne : ((k : Int) != (m : Int)) = false := by simp [hlm]
          have e1 : RZ = (lateL t.S ds m, 0) := HOK.out (by rw [HO.out, hlm]; simp)
          subst e1
          have HLM := Lib.hid hlm
          have hkm : k ≤ m ∧ m ≤ k := by omega
          clear hlm HTW HOK
          go_wp2_with fail
          refine (HF.out _ H1.out B1.out).mono ?_
          rintro e w2 ⟨g1, g2, rfl, _, _, ho2, hb2⟩
          have hg2 := own_block ho2 g2 rfl
          have ho0 : (w2.alloc (.cells #[] 2)).ownsRow w2.heap.size 2 1 (.slice (some ⟨w2.heap.size, 0, none⟩) 0 0) 0 (ints (lateL t.S ds 0)) := by
            simpa [ints, lateL, upto] using World.ownsRow_made (e := 2) (size := 1) w2 #[] 0 (Nat.le_refl _) (by unfold maxLen; omega) rfl
          have hal : Below w2.heap.size w2 (w2.alloc (.cells #[] 2)) := (Below.refl _ _).alloc (Nat.le_refl _) _
          have Hb2 := Hb1.out.trans (hb2.mono hs1)
          have HO0 := Lib.hid (own_base ho0 Hb2.size)
          have HO2 := Lib.hid (own_base (own_below ho2 hal) hs1)
          have Hb3 := Lib.hid (Hb2.trans (hal.mono Hb2.size))
          clear ho0 ho2 hb2 hal Hb2
          go_wp2_with fail
          go_loopw [13, 14] (fun vo vi wr => ∃ (j : Nat) (O : Option Addr) (oc : Nat), j ≤ m ∧ vi = .int .i64 j ∧ vo = .slice O (lateL t.S ds j).length oc ∧ wr.ownsRow w.heap.size 2 1 (.slice O (lateL t.S ds j).length oc) (lateL t.S ds j).length (ints (lateL t.S ds j)) ∧ (∀ g, O = some ⟨g, 0, none⟩ → g ≠ g2) ∧ wr.ownsRow w.heap.size 2 1 (.slice (some ⟨g2, 0, none⟩) m m) m (ints t.B) ∧ Below w.heap.size w wr) (fun _ vi _ => m - (intOf vi).toNat)
          case atStart => exact ⟨0, _, _, Nat.zero_le _, rfl, rfl, HO0.out, fun g hg => by injection hg with hg; injection hg with hg; omega, HO2.out, Hb3.out⟩
          case round =>
            obtain ⟨j, O, oc, hj, rfl, rfl, hown, hng, hown2, hb⟩ := hrel
            by_cases hlt2 : j < m
            · have hj0 : (0 : Int) ≤ (j : Int) := by omega
              have hj1 : (j : Int) < (m : Int) := by omega
              have hj2 : (j : Int) < (k : Int) := by omega
              have hjd : decide ((j : Int) < (m : Int)) = true := decide_eq_true hj1
              have c2 := own_int hown2 (i := j) hlt2 HT.out.bl
              have hbb := HT.out.bb j _ (getD_of (by rw [HT.out.bl]; exact hlt2))
              obtain ⟨b', o', y, hA', hbl', hy, hc3⟩ := HD.out.int (show j < k by omega)
              obtain ⟨b, o, x1, x2, hA, hbl, hx, hc1, hc2⟩ := H.out.pair hlt2
              subst hA
              subst hA'
              have c3 := cell_bel hc3 hb
              have c4 := cell_bel hc2 hb
              have hjob := (HJ.out.job j _ hx).2
              simp only at hjob
              have hyd : ds.getD j 0 = y := by simp [List.getD, hy]
              have hSX := HTA.out j hlt2
              rw [jobF_at hx] at hSX
              simp only at hSX
              generalize t.B.getD j 0 = vb at *
              have HYD := Lib.hid hyd
              have HSX := Lib.hid hSX
              have hss := hb.size
              have Q0 := Lib.hid hown
              have Q2 := Lib.hid hown2
              have QB := Lib.hid hb
              have HNG := Lib.hid hng
              have hw1 : IntKind.i64.wrap (vb + x2) = vb + x2 := IntWalk.i64_in _ (by omega)
              clear hown hown2 hb hx hSX hy hyd hc3 hc1 hc2 hng
              by_cases hxy : y < vb + x2
              · have hd : decide (y < vb + x2) = true := decide_eq_true hxy
                have HGT : ds.getD j 0 < t.S.getD j 0 := by rw [HYD.out, HSX.out]; exact hxy
                have eL := lateL_yes HGT
                have hll := lateL_len (S := t.S) (ds := ds) (k := j)
                have EL := Lib.hid eL
                have QO := Lib.hid (own_block Q0.out)
                clear eL HGT
                go_wp2
                go_quiet (fail)
                have qb := below_drewN QB.out nq
                have q0 := own_drewN Q0.out nq
                have q2 := own_drewN Q2.out nq
                have e6 : (wr.drewN nq).heap.size = wr.heap.size := rfl
                generalize wr.drewN nq = w6 at *
                have R0 := Lib.hid q0
                have R2 := Lib.hid q2
                have RB := Lib.hid qb
                have E6 := Lib.hid e6
                have hs6 := qb.size
                clear q0 q2 qb Q0 Q2 QB e6 c2 c3 c4 hw1
                go_wp2_with (at_builtin; refine wpList_append_own_at _ rfl (.tmp 67) (.tmp 69) 34 rfl w.heap.size 2 i0 (.int .i64 0) 1 8 Try.underlying34 hi hz0 hz1 hz2 rfl (by decide) (Value.slice O (lateL t.S ds j).length oc) _ _ rfl (R0.out.alloc _) ⟨_, 0, none⟩ 1 1 [.int .i64 j] rfl rfl (cell_one_new _ _ _) (by intro u hu; simp at hu; subst hu; rfl) (by unfold maxLen; omega) (by omega) (by simp; omega) ?_; intro v' wa hown' hga hdel hblk)
                have hal : Below w6.heap.size w6 (w6.alloc (.cells #[.int .i64 j] 2)) := (by go_grown)
                obtain ⟨g3, d3, hv, _, _⟩ := own_form hown' (by omega)
                have b7 : Below w.heap.size w wa := (RB.out.trans (hal.mono hs6)).grown hga (by simp; omega) (fun j hj => (QO.out j hj).1)
                have hg2l := (own_block R2.out g2 rfl).2
                have hnb : (Value.slice O (lateL t.S ds j).length oc).ownBlock ≠ some g2 := fun hh => by
                  cases O with
                  | none => cases hh
                  | some a =>
                    rcases R0.out.2 with ⟨h', _⟩ | ⟨g, cap, cur, h', _⟩
                    · cases h'
                    · injection h' with h' _ _
                      rw [h'] at hh
                      have := HNG.out g h'
                      simp [Value.ownBlock] at hh
                      exact this hh
                have p2 := (own_below R2.out hal).kept hga (.inr fun hh => hnb (by simpa [Value.ownBlock] using hh.symm))
                have hg3 : g3 ≠ g2 := by
                  rw [hv] at hblk
                  rcases hblk with hb' | hb'
                  · intro e; subst e; exact hnb (by rw [← hb']; rfl)
                  · simp [Value.ownBlock] at hb'; omega
                rw [ints_snoc, ← EL.out] at hown'
                have hlen : (lateL t.S ds j).length + 1 = (lateL t.S ds (j + 1)).length := by rw [EL.out]; simp
                rw [hlen] at hown' hv
                subst hv
                clear hga hdel hblk hal hnb
                go_roundw
                case rel => exact ⟨j + 1, _, _, by omega, by go_num, by first | rfl | rw [hlen], hown', fun g hg => by injection hg with hg; injection hg with hg; omega, p2, b7⟩
                case measure => simp [intOf]; omega
              · have hd : decide (y < vb + x2) = false := decide_eq_false hxy
                have eL := lateL_no (S := t.S) (ds := ds) (k := j) (by rw [HYD.out, HSX.out]; exact hxy)
                have EL := Lib.hid eL
                clear eL
                go_wp2
                go_quiet (fail)
                clear hw1
                go_wp2
                go_roundw
                case rel => exact ⟨j + 1, _, _, by omega, by go_num, by rw [EL.out], by rw [EL.out]; exact own_drewN Q0.out _, HNG.out, own_drewN Q2.out _, below_drewN QB.out _⟩
                case measure => simp [intOf]; omega
            · have : j = m := by omega
              subst this
              have HO9 := Lib.hid hown
              clear hown hown2
              go_wp2
              go_ret2
              exact ⟨_, _, _, rfl, HO9.out, hb⟩
        · have hne : ((k : Int) != (m : Int)) = true := by simp; omega
          have e1 : RZ = ([], 2) := HTW.out (by simp [hlm])
          have E1 := Lib.hid e1
          clear e1
          go_wp2
          go_ret2
          rw [E1.out]
          exact intPost_nil Hb1.out
  · have hne : (codeJ ps os != 0) = true := by simpa using hz
    have hne2 : (codeJ ps os == 0) = false := by simpa using hz
    rw [late_bad hz]
    have hcall := fun W h hB => l14Code_any A n c ps B m d os W h hB
    generalize codeJ ps os = z at *
    have HC := Lib.hid hcall
    have H := Lib.hid h
    have HB := Lib.hid hB
    clear hcall h hB hD hl hlo hld hz
    go_enter Try.func50, Try.ntmps50
    go_wp2_with fail
    refine (HC.out _ H.out HB.out).mono ?_
    rintro e w1 ⟨rfl, hb1⟩
    go_wp2
    go_ret2
    exact intPost_nil hb1
set_option maxRecDepth 100000 in
set_option maxHeartbeats 8000000 in
theorem law_LateJobs (A : Option Addr) (n c : Nat) (ps : List (Int × Int)) (B : Option Addr) (m d : Nat) (os : List Int) (D : Option Addr) (l q : Nat) (ds : List Int) (w : World) (hA : Rd w 2 A n c (pr ps)) (hB : Rd w 1 B m d (ints os)) (hD : Rd w 1 D l q (ints ds)) :
    Calls Try.prog 14 #[.slice A n c, .slice B m d, .slice D l q] w fun e w' => e = .returned (.bool true) ∧ Below w.heap.size w w' := by
  have eA1 := hA.cap
  have eA2 := hA.max
  have eB1 := hB.cap
  have eB2 := hB.max
  have eD1 := hD.cap
  have eD2 := hD.max
  have lA := hA.plen
  have lB := hB.ilen
  have lD := hD.ilen
  have hsp := fun A n c B m d D l q W h1 h2 h3 => specLateJobs_any A n c ps B m d os D l q ds W h1 h2 h3
  have him := fun A n c B m d D l q W h1 h2 h3 hm => implLateJobs_any A n c ps B m d os D l q ds W h1 h2 h3 hm
  have hlen := (show (lateZ ps os ds).1.length ≤ n from by have := late_len (ps := ps) (os := os) (ds := ds); omega)
  generalize (lateZ ps os ds).1 = R at *
  generalize (lateZ ps os ds).2 = z at *
  have HA := Lib.hid hA
  have HB := Lib.hid hB
  have HD := Lib.hid hD
  have HSP := Lib.hid hsp
  have HIM := Lib.hid him
  clear hA hB hD hsp him lA lB lD
  by_cases gB : (1048576 : Int) < (m : Int)
  · go_enter Try.func14, Try.ntmps14
    go_wp2
    go_ret
    exact ⟨rfl, Below.refl _ _⟩
  by_cases gD : (1048576 : Int) < (l : Int)
  · go_enter Try.func14, Try.ntmps14
    go_wp2
    go_ret
    exact ⟨rfl, Below.refl _ _⟩
  by_cases gA : (1048576 : Int) < (n : Int)
  · go_enter Try.func14, Try.ntmps14
    go_wp2_with fail
    refine (szPrS_any _ _ _ _ _ (by omega) (by omega) (by omega)).mono ?_
    rw [if_pos (by omega)]
    rintro e w' ⟨rfl, rfl⟩
    go_wp2
    go_ret
    exact ⟨rfl, Below.refl _ _⟩
  have b0 : Below w.heap.size w w := Below.refl _ _
  go_enter Try.func14, Try.ntmps14
  go_wp2_with fail
  refine (szPrS_any _ _ _ _ _ (by omega) (by omega) (by omega)).mono ?_
  rw [if_neg (by omega)]
  rintro e w' ⟨rfl, rfl⟩
  have sA : ¬ 1048576 - (n : Int) < 0 := by omega
  go_wp2_with fail
  refine (toPrS_any A n c ps _ (HA.out.below b0) (by omega)).mono ?_
  rintro e w1 ⟨gt0, rfl, ho, hb1⟩
  have b1 : Below w.heap.size w w1 := b0.trans (hb1.mono b0.size)
  have s1 := hb1.size
  have Ot01 := Lib.hid (OwnIn.new ho)
  clear hb1 ho
  go_wp2_with fail
  refine (toInt64S_any B m d os _ (HB.out.below b1) (by omega)).mono ?_
  rintro e w2 ⟨gt1, rfl, ho, hb2⟩
  have b2 : Below w.heap.size w w2 := b1.trans (hb2.mono b1.size)
  have s2 := hb2.size
  have Ot02 := Lib.hid (Ot01.out.below hb2)
  have Ot12 := Lib.hid (OwnIn.new ho)
  clear hb2 Ot01 ho
  go_wp2_with fail
  refine (toInt64S_any D l q ds _ (HD.out.below b2) (by omega)).mono ?_
  rintro e w3 ⟨gt2, rfl, ho, hb3⟩
  have b3 : Below w.heap.size w w3 := b2.trans (hb3.mono b2.size)
  have s3 := hb3.size
  have Ot03 := Lib.hid (Ot02.out.below hb3)
  have Ot13 := Lib.hid (Ot12.out.below hb3)
  have Ot23 := Lib.hid (OwnIn.new ho)
  clear hb3 Ot02 Ot12 ho
  go_wp2_with fail
  refine (HSP.out _ _ _ _ _ _ _ _ _ _ Ot03.out.rd Ot13.out.rd Ot23.out.rd).mono ?_
  rintro e w4 ⟨Aw, nw, cw, rfl, ho, hb4⟩
  have b4 : Below w.heap.size w w4 := b3.trans (hb4.mono b3.size)
  have s4 := hb4.size
  have Ot04 := Lib.hid (Ot03.out.below hb4)
  have Ot14 := Lib.hid (Ot13.out.below hb4)
  have Ot24 := Lib.hid (Ot23.out.below hb4)
  have Ow4 := Lib.hid (OwnIn.new ho)
  clear hb4 Ot03 Ot13 Ot23 ho
  go_wp2_with fail
  refine (toPrS_any A n c ps _ (HA.out.below b4) (by omega)).mono ?_
  rintro e w5 ⟨gx0, rfl, ho, hb5⟩
  have b5 : Below w.heap.size w w5 := b4.trans (hb5.mono b4.size)
  have s5 := hb5.size
  have Ot05 := Lib.hid (Ot04.out.below hb5)
  have Ot15 := Lib.hid (Ot14.out.below hb5)
  have Ot25 := Lib.hid (Ot24.out.below hb5)
  have Ow5 := Lib.hid (Ow4.out.below hb5)
  have Ox05 := Lib.hid (OwnIn.new ho)
  clear hb5 Ot04 Ot14 Ot24 Ow4 ho
  go_wp2_with fail
  refine (toInt64S_any B m d os _ (HB.out.below b5) (by omega)).mono ?_
  rintro e w6 ⟨gx1, rfl, ho, hb6⟩
  have b6 : Below w.heap.size w w6 := b5.trans (hb6.mono b5.size)
  have s6 := hb6.size
  have Ot06 := Lib.hid (Ot05.out.below hb6)
  have Ot16 := Lib.hid (Ot15.out.below hb6)
  have Ot26 := Lib.hid (Ot25.out.below hb6)
  have Ow6 := Lib.hid (Ow5.out.below hb6)
  have Ox06 := Lib.hid (Ox05.out.below hb6)
  have Ox16 := Lib.hid (OwnIn.new ho)
  clear hb6 Ot05 Ot15 Ot25 Ow5 Ox05 ho
  go_wp2_with fail
  refine (toInt64S_any D l q ds _ (HD.out.below b6) (by omega)).mono ?_
  rintro e w7 ⟨gx2, rfl, ho, hb7⟩
  have b7 : Below w.heap.size w w7 := b6.trans (hb7.mono b6.size)
  have s7 := hb7.size
  have Ot07 := Lib.hid (Ot06.out.below hb7)
  have Ot17 := Lib.hid (Ot16.out.below hb7)
  have Ot27 := Lib.hid (Ot26.out.below hb7)
  have Ow7 := Lib.hid (Ow6.out.below hb7)
  have Ox07 := Lib.hid (Ox06.out.below hb7)
  have Ox17 := Lib.hid (Ox16.out.below hb7)
  have Ox27 := Lib.hid (OwnIn.new ho)
  clear hb7 Ot06 Ot16 Ot26 Ow6 Ox06 Ox16 ho
  go_wp2_with fail
  refine (HIM.out _ _ _ _ _ _ _ _ _ _ Ox07.out.rd Ox17.out.rd Ox27.out.rd (by omega)).mono ?_
  rintro e w8 ⟨Ag, ng, cg, rfl, ho, hb8⟩
  have b8 : Below w.heap.size w w8 := b7.trans (hb8.mono b7.size)
  have s8 := hb8.size
  have Ot08 := Lib.hid (Ot07.out.below hb8)
  have Ot18 := Lib.hid (Ot17.out.below hb8)
  have Ot28 := Lib.hid (Ot27.out.below hb8)
  have Ow8 := Lib.hid (Ow7.out.below hb8)
  have Ox08 := Lib.hid (Ox07.out.below hb8)
  have Ox18 := Lib.hid (Ox17.out.below hb8)
  have Ox28 := Lib.hid (Ox27.out.below hb8)
  have Og8 := Lib.hid (OwnIn.new ho)
  clear hb8 Ot07 Ot17 Ot27 Ow7 Ox07 Ox17 Ox27 ho
  have lg := Og8.out.ilen
  go_wp2_with fail
  refine (eqInt64S_any _ _ _ R _ _ _ R _ Og8.out.rd Ow8.out.rd).mono ?_
  rw [eqL_self]
  rintro e w9 ⟨rfl, hb9⟩
  have b9 : Below w.heap.size w w9 := b8.trans (hb9.mono b8.size)
  have s9 := hb9.size
  have Ot09 := Lib.hid (Ot08.out.below hb9)
  have Ot19 := Lib.hid (Ot18.out.below hb9)
  have Ot29 := Lib.hid (Ot28.out.below hb9)
  have Ow9 := Lib.hid (Ow8.out.below hb9)
  have Ox09 := Lib.hid (Ox08.out.below hb9)
  have Ox19 := Lib.hid (Ox18.out.below hb9)
  have Ox29 := Lib.hid (Ox28.out.below hb9)
  have Og9 := Lib.hid (Og8.out.below hb9)
  clear hb9 Ot08 Ot18 Ot28 Ow8 Ox08 Ox18 Ox28 Og8
  go_wp2_with fail
  refine (toPrS_any A n c ps _ (HA.out.below b9) (by omega)).mono ?_
  rintro e w10 ⟨gy0, rfl, ho, hb10⟩
  have b10 : Below w.heap.size w w10 := b9.trans (hb10.mono b9.size)
  have s10 := hb10.size
  have Ot010 := Lib.hid (Ot09.out.below hb10)
  have Ot110 := Lib.hid (Ot19.out.below hb10)
  have Ot210 := Lib.hid (Ot29.out.below hb10)
  have Ow10 := Lib.hid (Ow9.out.below hb10)
  have Ox010 := Lib.hid (Ox09.out.below hb10)
  have Ox110 := Lib.hid (Ox19.out.below hb10)
  have Ox210 := Lib.hid (Ox29.out.below hb10)
  have Og10 := Lib.hid (Og9.out.below hb10)
  have Oy010 := Lib.hid (OwnIn.new ho)
  clear hb10 Ot09 Ot19 Ot29 Ow9 Ox09 Ox19 Ox29 Og9 ho
  go_wp2_with fail
  refine (eqPrS_any _ _ _ ps _ _ _ ps _ Ox010.out.rd Oy010.out.rd).mono ?_
  rw [eqG_self]
  rintro e w11 ⟨rfl, hb11⟩
  have b11 : Below w.heap.size w w11 := b10.trans (hb11.mono b10.size)
  have s11 := hb11.size
  have Ot011 := Lib.hid (Ot010.out.below hb11)
  have Ot111 := Lib.hid (Ot110.out.below hb11)
  have Ot211 := Lib.hid (Ot210.out.below hb11)
  have Ow11 := Lib.hid (Ow10.out.below hb11)
  have Ox011 := Lib.hid (Ox010.out.below hb11)
  have Ox111 := Lib.hid (Ox110.out.below hb11)
  have Ox211 := Lib.hid (Ox210.out.below hb11)
  have Og11 := Lib.hid (Og10.out.below hb11)
  have Oy011 := Lib.hid (Oy010.out.below hb11)
  clear hb11 Ot010 Ot110 Ot210 Ow10 Ox010 Ox110 Ox210 Og10 Oy010
  go_wp2_with fail
  refine (toInt64S_any B m d os _ (HB.out.below b11) (by omega)).mono ?_
  rintro e w12 ⟨gy1, rfl, ho, hb12⟩
  have b12 : Below w.heap.size w w12 := b11.trans (hb12.mono b11.size)
  have s12 := hb12.size
  have Ot012 := Lib.hid (Ot011.out.below hb12)
  have Ot112 := Lib.hid (Ot111.out.below hb12)
  have Ot212 := Lib.hid (Ot211.out.below hb12)
  have Ow12 := Lib.hid (Ow11.out.below hb12)
  have Ox012 := Lib.hid (Ox011.out.below hb12)
  have Ox112 := Lib.hid (Ox111.out.below hb12)
  have Ox212 := Lib.hid (Ox211.out.below hb12)
  have Og12 := Lib.hid (Og11.out.below hb12)
  have Oy012 := Lib.hid (Oy011.out.below hb12)
  have Oy112 := Lib.hid (OwnIn.new ho)
  clear hb12 Ot011 Ot111 Ot211 Ow11 Ox011 Ox111 Ox211 Og11 Oy011 ho
  go_wp2_with fail
  refine (eqInt64S_any _ _ _ os _ _ _ os _ Ox112.out.rd Oy112.out.rd).mono ?_
  rw [eqL_self]
  rintro e w13 ⟨rfl, hb13⟩
  have b13 : Below w.heap.size w w13 := b12.trans (hb13.mono b12.size)
  have s13 := hb13.size
  have Ot013 := Lib.hid (Ot012.out.below hb13)
  have Ot113 := Lib.hid (Ot112.out.below hb13)
  have Ot213 := Lib.hid (Ot212.out.below hb13)
  have Ow13 := Lib.hid (Ow12.out.below hb13)
  have Ox013 := Lib.hid (Ox012.out.below hb13)
  have Ox113 := Lib.hid (Ox112.out.below hb13)
  have Ox213 := Lib.hid (Ox212.out.below hb13)
  have Og13 := Lib.hid (Og12.out.below hb13)
  have Oy013 := Lib.hid (Oy012.out.below hb13)
  have Oy113 := Lib.hid (Oy112.out.below hb13)
  clear hb13 Ot012 Ot112 Ot212 Ow12 Ox012 Ox112 Ox212 Og12 Oy012 Oy112
  go_wp2_with fail
  refine (toInt64S_any D l q ds _ (HD.out.below b13) (by omega)).mono ?_
  rintro e w14 ⟨gy2, rfl, ho, hb14⟩
  have b14 : Below w.heap.size w w14 := b13.trans (hb14.mono b13.size)
  have s14 := hb14.size
  have Ot014 := Lib.hid (Ot013.out.below hb14)
  have Ot114 := Lib.hid (Ot113.out.below hb14)
  have Ot214 := Lib.hid (Ot213.out.below hb14)
  have Ow14 := Lib.hid (Ow13.out.below hb14)
  have Ox014 := Lib.hid (Ox013.out.below hb14)
  have Ox114 := Lib.hid (Ox113.out.below hb14)
  have Ox214 := Lib.hid (Ox213.out.below hb14)
  have Og14 := Lib.hid (Og13.out.below hb14)
  have Oy014 := Lib.hid (Oy013.out.below hb14)
  have Oy114 := Lib.hid (Oy113.out.below hb14)
  have Oy214 := Lib.hid (OwnIn.new ho)
  clear hb14 Ot013 Ot113 Ot213 Ow13 Ox013 Ox113 Ox213 Og13 Oy013 Oy113 ho
  go_wp2_with fail
  refine (eqInt64S_any _ _ _ ds _ _ _ ds _ Ox214.out.rd Oy214.out.rd).mono ?_
  rw [eqL_self]
  rintro e w15 ⟨rfl, hb15⟩
  have b15 : Below w.heap.size w w15 := b14.trans (hb15.mono b14.size)
  have s15 := hb15.size
  have Ot015 := Lib.hid (Ot014.out.below hb15)
  have Ot115 := Lib.hid (Ot114.out.below hb15)
  have Ot215 := Lib.hid (Ot214.out.below hb15)
  have Ow15 := Lib.hid (Ow14.out.below hb15)
  have Ox015 := Lib.hid (Ox014.out.below hb15)
  have Ox115 := Lib.hid (Ox114.out.below hb15)
  have Ox215 := Lib.hid (Ox214.out.below hb15)
  have Og15 := Lib.hid (Og14.out.below hb15)
  have Oy015 := Lib.hid (Oy014.out.below hb15)
  have Oy115 := Lib.hid (Oy114.out.below hb15)
  have Oy215 := Lib.hid (Oy214.out.below hb15)
  clear hb15 Ot014 Ot114 Ot214 Ow14 Ox014 Ox114 Ox214 Og14 Oy014 Oy114 Oy214
  go_wp2_with fail
  refine (markPrS_any _ _ _ _ ps _ _ Ox015.out.own (by omega) (by omega)).mono ?_
  rintro e w16 ⟨rfl, ho, hg⟩
  have b16 : Below w.heap.size w w16 := Ox015.out.base b15 hg (by omega) (Nat.le_refl _)
  have s16 := hg.size
  have Ot016 := Lib.hid (Ot015.out.other Ox015.out hg (by omega))
  have Ot116 := Lib.hid (Ot115.out.other Ox015.out hg (by omega))
  have Ot216 := Lib.hid (Ot215.out.other Ox015.out hg (by omega))
  have Ow16 := Lib.hid (Ow15.out.other Ox015.out hg (by omega))
  have Ox016 := Lib.hid (Ox015.out.self ho hg)
  have Ox116 := Lib.hid (Ox115.out.other Ox015.out hg (by omega))
  have Ox216 := Lib.hid (Ox215.out.other Ox015.out hg (by omega))
  have Og16 := Lib.hid (Og15.out.other Ox015.out hg (by omega))
  have Oy016 := Lib.hid (Oy015.out.other Ox015.out hg (by omega))
  have Oy116 := Lib.hid (Oy115.out.other Ox015.out hg (by omega))
  have Oy216 := Lib.hid (Oy215.out.other Ox015.out hg (by omega))
  clear ho hg Ot015 Ot115 Ot215 Ow15 Ox015 Ox115 Ox215 Og15 Oy015 Oy115 Oy215
  go_wp2_with fail
  refine (markInt64S_any _ _ _ _ os _ _ Ox116.out.own (by omega) (by omega)).mono ?_
  rintro e w17 ⟨rfl, ho, hg⟩
  have b17 : Below w.heap.size w w17 := Ox116.out.base b16 hg (by omega) (Nat.le_refl _)
  have s17 := hg.size
  have Ot017 := Lib.hid (Ot016.out.other Ox116.out hg (by omega))
  have Ot117 := Lib.hid (Ot116.out.other Ox116.out hg (by omega))
  have Ot217 := Lib.hid (Ot216.out.other Ox116.out hg (by omega))
  have Ow17 := Lib.hid (Ow16.out.other Ox116.out hg (by omega))
  have Ox017 := Lib.hid (Ox016.out.other Ox116.out hg (by omega))
  have Ox117 := Lib.hid (Ox116.out.self ho hg)
  have Ox217 := Lib.hid (Ox216.out.other Ox116.out hg (by omega))
  have Og17 := Lib.hid (Og16.out.other Ox116.out hg (by omega))
  have Oy017 := Lib.hid (Oy016.out.other Ox116.out hg (by omega))
  have Oy117 := Lib.hid (Oy116.out.other Ox116.out hg (by omega))
  have Oy217 := Lib.hid (Oy216.out.other Ox116.out hg (by omega))
  clear ho hg Ot016 Ot116 Ot216 Ow16 Ox016 Ox116 Ox216 Og16 Oy016 Oy116 Oy216
  go_wp2_with fail
  refine (markInt64S_any _ _ _ _ ds _ _ Ox217.out.own (by omega) (by omega)).mono ?_
  rintro e w18 ⟨rfl, ho, hg⟩
  have b18 : Below w.heap.size w w18 := Ox217.out.base b17 hg (by omega) (Nat.le_refl _)
  have s18 := hg.size
  have Ot018 := Lib.hid (Ot017.out.other Ox217.out hg (by omega))
  have Ot118 := Lib.hid (Ot117.out.other Ox217.out hg (by omega))
  have Ot218 := Lib.hid (Ot217.out.other Ox217.out hg (by omega))
  have Ow18 := Lib.hid (Ow17.out.other Ox217.out hg (by omega))
  have Ox018 := Lib.hid (Ox017.out.other Ox217.out hg (by omega))
  have Ox118 := Lib.hid (Ox117.out.other Ox217.out hg (by omega))
  have Ox218 := Lib.hid (Ox217.out.self ho hg)
  have Og18 := Lib.hid (Og17.out.other Ox217.out hg (by omega))
  have Oy018 := Lib.hid (Oy017.out.other Ox217.out hg (by omega))
  have Oy118 := Lib.hid (Oy117.out.other Ox217.out hg (by omega))
  have Oy218 := Lib.hid (Oy217.out.other Ox217.out hg (by omega))
  clear ho hg Ot017 Ot117 Ot217 Ow17 Ox017 Ox117 Ox217 Og17 Oy017 Oy117 Oy217
  go_wp2_with fail
  refine (eqInt64S_any _ _ _ R _ _ _ R _ Og18.out.rd Ow18.out.rd).mono ?_
  rw [eqL_self]
  rintro e w19 ⟨rfl, hb19⟩
  have b19 : Below w.heap.size w w19 := b18.trans (hb19.mono b18.size)
  have s19 := hb19.size
  have Ot019 := Lib.hid (Ot018.out.below hb19)
  have Ot119 := Lib.hid (Ot118.out.below hb19)
  have Ot219 := Lib.hid (Ot218.out.below hb19)
  have Ow19 := Lib.hid (Ow18.out.below hb19)
  have Ox019 := Lib.hid (Ox018.out.below hb19)
  have Ox119 := Lib.hid (Ox118.out.below hb19)
  have Ox219 := Lib.hid (Ox218.out.below hb19)
  have Og19 := Lib.hid (Og18.out.below hb19)
  have Oy019 := Lib.hid (Oy018.out.below hb19)
  have Oy119 := Lib.hid (Oy118.out.below hb19)
  have Oy219 := Lib.hid (Oy218.out.below hb19)
  clear hb19 Ot018 Ot118 Ot218 Ow18 Ox018 Ox118 Ox218 Og18 Oy018 Oy118 Oy218
  go_wp2_with fail
  refine (markInt64S_any _ _ _ _ R 1 _ Og19.out.own (by omega) (by omega)).mono ?_
  rintro e w20 ⟨rfl, ho, hg⟩
  have b20 : Below w.heap.size w w20 := Og19.out.base b19 hg (by omega) (Nat.le_refl _)
  have s20 := hg.size
  have Ot020 := Lib.hid (Ot019.out.other Og19.out hg (by omega))
  have Ot120 := Lib.hid (Ot119.out.other Og19.out hg (by omega))
  have Ot220 := Lib.hid (Ot219.out.other Og19.out hg (by omega))
  have Ow20 := Lib.hid (Ow19.out.other Og19.out hg (by omega))
  have Ox020 := Lib.hid (Ox019.out.other Og19.out hg (by omega))
  have Ox120 := Lib.hid (Ox119.out.other Og19.out hg (by omega))
  have Ox220 := Lib.hid (Ox219.out.other Og19.out hg (by omega))
  have Og20 := Lib.hid (Og19.out.self ho hg)
  have Oy020 := Lib.hid (Oy019.out.other Og19.out hg (by omega))
  have Oy120 := Lib.hid (Oy119.out.other Og19.out hg (by omega))
  have Oy220 := Lib.hid (Oy219.out.other Og19.out hg (by omega))
  clear ho hg Ot019 Ot119 Ot219 Ow19 Ox019 Ox119 Ox219 Og19 Oy019 Oy119 Oy219
  go_wp2_with fail
  refine (heldInt64S_any _ _ _ 1 _ Og20.out.rd (by omega) (by omega)).mono ?_
  rintro e wz ⟨rfl, rfl⟩
  go_wp2_with fail
  refine (toPrS_any A n c ps _ (HA.out.below b20) (by omega)).mono ?_
  rintro e w21 ⟨gz0, rfl, ho, hb21⟩
  have b21 : Below w.heap.size w w21 := b20.trans (hb21.mono b20.size)
  have s21 := hb21.size
  have Ot021 := Lib.hid (Ot020.out.below hb21)
  have Ot121 := Lib.hid (Ot120.out.below hb21)
  have Ot221 := Lib.hid (Ot220.out.below hb21)
  have Ow21 := Lib.hid (Ow20.out.below hb21)
  have Ox021 := Lib.hid (Ox020.out.below hb21)
  have Ox121 := Lib.hid (Ox120.out.below hb21)
  have Ox221 := Lib.hid (Ox220.out.below hb21)
  have Og21 := Lib.hid (Og20.out.below hb21)
  have Oy021 := Lib.hid (Oy020.out.below hb21)
  have Oy121 := Lib.hid (Oy120.out.below hb21)
  have Oy221 := Lib.hid (Oy220.out.below hb21)
  have Oz021 := Lib.hid (OwnIn.new ho)
  clear hb21 Ot020 Ot120 Ot220 Ow20 Ox020 Ox120 Ox220 Og20 Oy020 Oy120 Oy220 ho
  go_wp2_with fail
  refine (toInt64S_any B m d os _ (HB.out.below b21) (by omega)).mono ?_
  rintro e w22 ⟨gz1, rfl, ho, hb22⟩
  have b22 : Below w.heap.size w w22 := b21.trans (hb22.mono b21.size)
  have s22 := hb22.size
  have Ot022 := Lib.hid (Ot021.out.below hb22)
  have Ot122 := Lib.hid (Ot121.out.below hb22)
  have Ot222 := Lib.hid (Ot221.out.below hb22)
  have Ow22 := Lib.hid (Ow21.out.below hb22)
  have Ox022 := Lib.hid (Ox021.out.below hb22)
  have Ox122 := Lib.hid (Ox121.out.below hb22)
  have Ox222 := Lib.hid (Ox221.out.below hb22)
  have Og22 := Lib.hid (Og21.out.below hb22)
  have Oy022 := Lib.hid (Oy021.out.below hb22)
  have Oy122 := Lib.hid (Oy121.out.below hb22)
  have Oy222 := Lib.hid (Oy221.out.below hb22)
  have Oz022 := Lib.hid (Oz021.out.below hb22)
  have Oz122 := Lib.hid (OwnIn.new ho)
  clear hb22 Ot021 Ot121 Ot221 Ow21 Ox021 Ox121 Ox221 Og21 Oy021 Oy121 Oy221 Oz021 ho
  go_wp2_with fail
  refine (toInt64S_any D l q ds _ (HD.out.below b22) (by omega)).mono ?_
  rintro e w23 ⟨gz2, rfl, ho, hb23⟩
  have b23 : Below w.heap.size w w23 := b22.trans (hb23.mono b22.size)
  have s23 := hb23.size
  have Ot023 := Lib.hid (Ot022.out.below hb23)
  have Ot123 := Lib.hid (Ot122.out.below hb23)
  have Ot223 := Lib.hid (Ot222.out.below hb23)
  have Ow23 := Lib.hid (Ow22.out.below hb23)
  have Ox023 := Lib.hid (Ox022.out.below hb23)
  have Ox123 := Lib.hid (Ox122.out.below hb23)
  have Ox223 := Lib.hid (Ox222.out.below hb23)
  have Og23 := Lib.hid (Og22.out.below hb23)
  have Oy023 := Lib.hid (Oy022.out.below hb23)
  have Oy123 := Lib.hid (Oy122.out.below hb23)
  have Oy223 := Lib.hid (Oy222.out.below hb23)
  have Oz023 := Lib.hid (Oz022.out.below hb23)
  have Oz123 := Lib.hid (Oz122.out.below hb23)
  have Oz223 := Lib.hid (OwnIn.new ho)
  clear hb23 Ot022 Ot122 Ot222 Ow22 Ox022 Ox122 Ox222 Og22 Oy022 Oy122 Oy222 Oz022 Oz122 ho
  go_wp2_with fail
  refine (HIM.out _ _ _ _ _ _ _ _ _ _ Oz023.out.rd Oz123.out.rd Oz223.out.rd (by omega)).mono ?_
  rintro e w24 ⟨Ah, nh, ch, rfl, ho, hb24⟩
  have b24 : Below w.heap.size w w24 := b23.trans (hb24.mono b23.size)
  have s24 := hb24.size
  have Ot024 := Lib.hid (Ot023.out.below hb24)
  have Ot124 := Lib.hid (Ot123.out.below hb24)
  have Ot224 := Lib.hid (Ot223.out.below hb24)
  have Ow24 := Lib.hid (Ow23.out.below hb24)
  have Ox024 := Lib.hid (Ox023.out.below hb24)
  have Ox124 := Lib.hid (Ox123.out.below hb24)
  have Ox224 := Lib.hid (Ox223.out.below hb24)
  have Og24 := Lib.hid (Og23.out.below hb24)
  have Oy024 := Lib.hid (Oy023.out.below hb24)
  have Oy124 := Lib.hid (Oy123.out.below hb24)
  have Oy224 := Lib.hid (Oy223.out.below hb24)
  have Oz024 := Lib.hid (Oz023.out.below hb24)
  have Oz124 := Lib.hid (Oz123.out.below hb24)
  have Oz224 := Lib.hid (Oz223.out.below hb24)
  have Oh24 := Lib.hid (OwnIn.new ho)
  clear hb24 Ot023 Ot123 Ot223 Ow23 Ox023 Ox123 Ox223 Og23 Oy023 Oy123 Oy223 Oz023 Oz123 Oz223 ho
  go_wp2_with fail
  refine (eqInt64S_any _ _ _ R _ _ _ R _ Oh24.out.rd Ow24.out.rd).mono ?_
  rw [eqL_self]
  rintro e w25 ⟨rfl, hb25⟩
  have b25 : Below w.heap.size w w25 := b24.trans (hb25.mono b24.size)
  have s25 := hb25.size
  have Ot025 := Lib.hid (Ot024.out.below hb25)
  have Ot125 := Lib.hid (Ot124.out.below hb25)
  have Ot225 := Lib.hid (Ot224.out.below hb25)
  have Ow25 := Lib.hid (Ow24.out.below hb25)
  have Ox025 := Lib.hid (Ox024.out.below hb25)
  have Ox125 := Lib.hid (Ox124.out.below hb25)
  have Ox225 := Lib.hid (Ox224.out.below hb25)
  have Og25 := Lib.hid (Og24.out.below hb25)
  have Oy025 := Lib.hid (Oy024.out.below hb25)
  have Oy125 := Lib.hid (Oy124.out.below hb25)
  have Oy225 := Lib.hid (Oy224.out.below hb25)
  have Oz025 := Lib.hid (Oz024.out.below hb25)
  have Oz125 := Lib.hid (Oz124.out.below hb25)
  have Oz225 := Lib.hid (Oz224.out.below hb25)
  have Oh25 := Lib.hid (Oh24.out.below hb25)
  clear hb25 Ot024 Ot124 Ot224 Ow24 Ox024 Ox124 Ox224 Og24 Oy024 Oy124 Oy224 Oz024 Oz124 Oz224 Oh24
  go_wp2_with fail
  refine (heldInt64S_any _ _ _ 1 _ Og25.out.rd (by omega) (by omega)).mono ?_
  rintro e wz ⟨rfl, rfl⟩
  go_wp2_with fail
  go_ret
  exact ⟨rfl, b25⟩

end Go.Proofs.Ytfjmohnlllbgmaa
