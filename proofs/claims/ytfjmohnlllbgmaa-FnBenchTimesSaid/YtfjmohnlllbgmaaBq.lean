/- FnBenchTimes: the law's own helpers (a2At, a2Rises, a2Has), and more of the plain part. -/
import Derived.Test.YtfjmohnlllbgmaaBp
import Derived.Test.YtfjmohnlllbgmaaEn
import Derived.Test.YtfjmohnlllbgmaaLj
import Derived.Test.YtfjmohnlllbgmaaLx
import Derived.Test.YtfjmohnlllbgmaaBj
import Derived.Test.YtfjmohnlllbgmaaCi
import Derived.Test.YtfjmohnlllbgmaaFrameB
namespace Go.Proofs.Ytfjmohnlllbgmaa
open Go.RowKit Go.Shelf

set_option maxHeartbeats 1000000 in
theorem a2Has_any (A : Option Addr) (n c : Nat) (xs : List Int) (x : Int) (w : World) (h : Rd w 1 A n c (ints xs)) :
    Calls Try.prog 47 #[.slice A n c, .int .i64 x] w fun e w' => e = .returned (.bool (hasB xs x)) ∧ w = w' := by
  have hl := h.ilen
  have h1 := h.cap
  have h2 := h.max
  have H := Lib.hid h
  have HL := Lib.hid hl
  obtain ⟨r, hr⟩ : ∃ r, hasB xs x = r := ⟨_, rfl⟩
  rw [hr]
  have HR := Lib.hid hr
  clear h hl hr
  go_enter Try.func47, Try.ntmps47
  go_wp2
  go_loop [5] (fun i => ∃ k : Nat, k ≤ n ∧ i = .int .i64 k ∧ Hid (∀ j y, j < k → xs[j]? = some y → y ≠ x)) (fun i => n - (intOf i).toNat)
  case atStart => exact ⟨0, Nat.zero_le _, rfl, (show Hid _ from fun j _ hj => absurd hj (Nat.not_lt_zero _))⟩
  case round =>
    obtain ⟨k, hk, rfl, HB⟩ := hrel
    by_cases hlt : k < n
    · obtain ⟨b, o, y, hA, hbl, hx, hc⟩ := H.out.int hlt
      subst hA
      have HX := Lib.hid hx
      clear hx
      have hk1 : (k : Int) < (n : Int) := by omega
      by_cases hxy : y = x
      · subst hxy
        go_wp2
        go_ret
        exact ⟨ret_b (by rw [← HR.out]; exact (hasB_yes HX.out).symm), rfl⟩
      · have hne : (y == x) = false := by simpa using hxy
        go_wp2
        go_round
        case rel =>
          refine ⟨k + 1, by omega, by go_num, (show Hid _ from fun j z hj hz => ?_)⟩
          by_cases e : j = k
          · subst e
            have := HX.out
            rw [this] at hz
            injection hz with hz
            rw [← hz]
            exact hxy
          · exact HB.out j z (by omega) hz
        case measure => simp [intOf]; omega
    · have : k = n := by omega
      subst this
      go_wp2
      go_ret
      exact ⟨ret_b (by rw [← HR.out]; exact (hasB_no (by rw [HL.out]; exact HB.out)).symm), rfl⟩

set_option maxHeartbeats 2000000 in
theorem a2Rises_any (A : Option Addr) (n c : Nat) (xs : List Int) (N : Int) (w : World) (h : Rd w 1 A n c (ints xs)) (hb : ∀ (k : Nat) (x : Int), xs[k]? = some x → 0 ≤ x ∧ x < N) (hr : ∀ (k : Nat) (x y : Int), xs[k]? = some x → xs[k + 1]? = some y → x < y) :
    Calls Try.prog 46 #[.slice A n c, .int .i64 N] w fun e w' => e = .returned (.bool true) ∧ Below w.heap.size w w' := by
  have h1 := h.cap
  have h2 := h.max
  have H := Lib.hid h
  have HB := Lib.hid hb
  have HR := Lib.hid hr
  clear h hb hr
  go_enter Try.func46, Try.ntmps46
  go_wp2
  go_loopw [5] (fun i wr => ∃ k : Nat, k ≤ n ∧ i = .int .i64 k ∧ Hid (Below w.heap.size w wr)) (fun i _ => n - (intOf i).toNat)
  case atStart => exact ⟨0, Nat.zero_le _, rfl, Lib.hid (Below.refl _ _)⟩
  case round =>
    obtain ⟨k, hk, rfl, Hb⟩ := hrel
    by_cases hlt : k < n
    · obtain ⟨b, o, y, hA, hbl, hx, hc⟩ := (H.out.below Hb.out).int hlt
      have hy := HB.out k y hx
      have hk0 : (0 : Int) ≤ (k : Int) := by omega
      have hk1 : (k : Int) < (n : Int) := by omega
      have d1 : decide (y < 0) = false := by simp; omega
      have d2 : decide (y ≥ N) = false := by simp; omega
      cases k with
      | zero =>
        subst hA
        rw [Nat.add_zero] at hc
        clear hx
        go_wp2
        go_quiet (fail)
        have HB2 := Lib.hid (below_drewN Hb.out nq)
        go_wp2
        go_roundw
        case rel => exact ⟨1, by omega, by go_num, HB2⟩
        case measure => simp [intOf]; omega
      | succ j =>
        obtain ⟨b', o', z, hA', _, hz, hcz⟩ := (H.out.below Hb.out).int (show j < n by omega)
        have hzy := HR.out j z y hz hx
        have d3 : decide (z ≥ y) = false := by simp; omega
        rw [hA] at hA'
        injection hA' with hA'
        injection hA' with ea eb
        subst ea
        subst eb
        subst hA
        have hsub : ((j + 1 : Nat) : Int) - 1 = (j : Int) := by omega
        have hpos : (0 : Int) < ((j + 1 : Nat) : Int) := by omega
        clear hx hz
        go_wp2
        go_quiet (fail)
        have HB2 := Lib.hid (below_drewN Hb.out nq)
        go_wp2
        go_roundw
        case rel => exact ⟨j + 2, by omega, by go_num, HB2⟩
        case measure => simp [intOf]; omega
    · go_wp2
      go_ret
      exact ⟨rfl, Hb.out⟩
theorem late_bd {S ds : List Int} {n : Nat} : ∀ (k : Nat) (x : Int), (lateL S ds n)[k]? = some x → 0 ≤ x ∧ x < (n : Int) := fun k x hx => by
  have := (List.mem_filter.1 (List.mem_of_getElem? hx)).1
  exact upto_mem'.1 this
theorem late_rise {S ds : List Int} : ∀ (n k : Nat) (x y : Int), (lateL S ds n)[k]? = some x → (lateL S ds n)[k + 1]? = some y → x < y
  | 0, k, x, y, h, _ => by simp [lateL, upto] at h
  | n + 1, k, x, y, hx, hy => by
    by_cases h : ds.getD n 0 < S.getD n 0
    · rw [lateL_yes h] at hx hy
      have hl := (List.getElem?_eq_some_iff.1 hy).1
      rw [List.length_append] at hl
      simp at hl
      rw [List.getElem?_append_left (by omega)] at hx
      by_cases e : k + 1 < (lateL S ds n).length
      · rw [List.getElem?_append_left e] at hy
        exact late_rise n k x y hx hy
      · rw [List.getElem?_append_right (by omega), show k + 1 - (lateL S ds n).length = 0 by omega] at hy
        simp at hy
        have := (late_bd (S := S) (ds := ds) (n := n) k x hx).2
        omega
    · rw [lateL_no h] at hx hy
      exact late_rise n k x y hx hy
theorem late_has {S ds : List Int} {n i : Nat} (hi : i < n) : hasB (lateL S ds n) (i : Int) = decide (ds.getD i 0 < S.getD i 0) := by
  unfold hasB
  refine decide_eq_decide.2 ?_
  unfold lateL
  rw [List.mem_filter]
  simp only [Int.toNat_natCast, decide_eq_true_eq]
  exact ⟨fun h => h.2, fun h => ⟨upto_mem'.2 ⟨by omega, by omega⟩, h⟩⟩
/-- What the first k jobs of the order take at the second bench. -/
def wkK (ps : List (Int × Int)) (os : List Int) (k : Nat) : Int := sumG Prod.snd ((os.take k).map (jobF ps))
theorem sumG_snoc (f : Int × Int → Int) : ∀ (l : List (Int × Int)) (p : Int × Int), sumG f (l ++ [p]) = sumG f l + f p
  | [], p => by simp [sumG]
  | q :: l, p => by
    show f q + sumG f (l ++ [p]) = f q + sumG f l + f p
    rw [sumG_snoc f l p]; omega
theorem wkK_step {ps : List (Int × Int)} {os : List Int} {i k : Nat} (h : os[i]? = some (k : Int)) : wkK ps os (i + 1) = wkK ps os i + (ps.getD k (0, 0)).2 := by
  unfold wkK
  rw [List.take_add_one, h]
  simp only [Option.toList_some, List.map_append, List.map_cons, List.map_nil]
  rw [sumG_snoc]
  rfl
theorem wkK_all {ps : List (Int × Int)} {os : List Int} {n : Nat} (hl : ps.length = n) (h : os.Perm (upto n)) : wkK ps os n = sumG Prod.snd ps := by
  have hn : os.length = n := by rw [h.length_eq, upto_len]
  unfold wkK
  rw [List.take_of_length_le (by omega)]
  refine sumG_perm _ ?_
  have := h.map (jobF ps)
  rw [← hl, map_upto] at this
  exact this
theorem strOf_at {L : List Int} (hb : ∀ x ∈ L, 0 ≤ x ∧ x ≤ 255) {t : Nat} (ht : t < (strOfNums L).size) : (((strOfNums L)[t]'ht).toNat : Int) = L.getD t 0 := by
  have hl : t < L.length := by rw [strOfNums_size] at ht; exact ht
  have hx := hb (L[t]'hl) (List.getElem_mem hl)
  have e : (strOfNums L)[t]'ht = UInt8.ofNat (L[t]'hl).toNat := by
    show (strOfNums L).data[t]'_ = _
    simp [strOfNums]
  rw [e, UInt8.toNat_ofNat']
  simp [List.getD, hl]
  omega
/-- The jobs at one bench do not lie over one another. -/
theorem apart_jobs {ps : List (Int × Int)} {os : List Int} {n : Nat} (hj : JOk ps) (hl : ps.length = n) (hp : os.Perm (upto n)) {i j : Nat} (hi : i < n) (hjn : j < n) (hij : i ≠ j) (t : Int) :
    (fLo ps (timK ps os n).F i ≤ t → t < fHi (timK ps os n).F i → fLo ps (timK ps os n).F j ≤ t → t < fHi (timK ps os n).F j → False) ∧
    (sLo (timK ps os n).B i ≤ t → t < sHi ps (timK ps os n).B i → sLo (timK ps os n).B j ≤ t → t < sHi ps (timK ps os n).B j → False) := by
  obtain ⟨hlo, hin⟩ := perm_in hp
  have hb : ∀ (j : Nat) (i : Int), os[j]? = some i → 0 ≤ i ∧ i < ps.length := fun j x hx => by have := hin j x hx; omega
  obtain ⟨u, hu⟩ := List.getElem?_of_mem (hp.symm.subset (upto_mem'.2 ⟨show (0 : Int) ≤ (i : Int) by omega, show (i : Int) < (n : Int) by omega⟩))
  obtain ⟨v, hv⟩ := List.getElem?_of_mem (hp.symm.subset (upto_mem'.2 ⟨show (0 : Int) ≤ (j : Int) by omega, show (j : Int) < (n : Int) by omega⟩))
  have su := step_all hl hp hu
  have sv := step_all hl hp hv
  have huv : u ≠ v := fun e => by subst e; rw [hu] at hv; injection hv with hv; omega
  have hul := (List.getElem?_eq_some_iff.1 hu).1
  have hvl := (List.getElem?_eq_some_iff.1 hv).1
  have mono : ∀ d k, k + d ≤ os.length → (timK ps os k).a ≤ (timK ps os (k + d)).a ∧ (timK ps os k).b ≤ (timK ps os (k + d)).b := fun d => by
    induction d with
    | zero => intro k _; exact ⟨Int.le_refl _, Int.le_refl _⟩
    | succ d ih =>
      intro k hk
      have h1 := ih k (by omega)
      have hx := List.getElem?_eq_getElem (l := os) (i := k + d) (by omega)
      have hq := hb _ _ hx
      obtain ⟨q, hqe⟩ := Int.eq_ofNat_of_zero_le hq.1
      rw [hqe] at hx
      have st := step_all hl hp hx
      have hpp := List.getElem?_eq_getElem (l := ps) (i := q) (by omega)
      have hjq := hj.job q _ hpp
      have hgq : ps.getD q (0, 0) = ps[q]'(by omega) := by simp [List.getD, hpp]
      have ea := st.a1
      have eb := st.b1
      rw [hgq] at ea eb
      have hm := Int.le_max_right (timK ps os (k + d + 1)).a (timK ps os (k + d)).b
      refine ⟨?_, ?_⟩
      · show _ ≤ (timK ps os (k + d + 1)).a; omega
      · show _ ≤ (timK ps os (k + d + 1)).b; omega
  have eu := su.b1
  have ev := sv.b1
  have eau := su.a1
  have eav := sv.a1
  unfold fLo fHi sLo sHi
  rw [su.f, sv.f, su.b, sv.b]
  have hm1 := Int.le_max_right (timK ps os (u + 1)).a (timK ps os u).b
  have hm2 := Int.le_max_right (timK ps os (v + 1)).a (timK ps os v).b
  rcases Nat.lt_or_gt_of_ne huv with h | h
  · have hh := mono (v - (u + 1)) (u + 1) (by omega)
    rw [show u + 1 + (v - (u + 1)) = v by omega] at hh
    exact ⟨fun _ h2 h3 _ => by omega, fun _ h2 h3 _ => by omega⟩
  · have hh := mono (u - (v + 1)) (v + 1) (by omega)
    rw [show v + 1 + (u - (v + 1)) = u by omega] at hh
    exact ⟨fun h1 _ _ h4 => by omega, fun h1 _ _ h4 => by omega⟩
end Go.Proofs.Ytfjmohnlllbgmaa
