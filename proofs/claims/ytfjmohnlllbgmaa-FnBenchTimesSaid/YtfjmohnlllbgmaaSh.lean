/- The first order with the least span: firstOrder of the program, l14Find of the reference; ShortestOrder, and its law. Printed by mksh.py. -/
import Derived.Test.YtfjmohnlllbgmaaSq
import Derived.Test.YtfjmohnlllbgmaaRo
namespace Go.Proofs.Ytfjmohnlllbgmaa
open Go.RowKit Go.Shelf

/-- What slices.Index hands back: a number that tells whether x is there. -/
def IdxPost (xs : List Int) (x : Int) (w : World) (e : Ending) (w' : World) : Prop := ∃ r : Int, e = .returned (.int .i64 r) ∧ -1 ≤ r ∧ r ≤ 1152921504606846976 ∧ decide (0 ≤ r) = hasB xs x ∧ w = w'
set_option maxHeartbeats 1000000 in
theorem index_any (A : Option Addr) (n c : Nat) (xs : List Int) (x : Int) (w : World) (h : Rd w 1 A n c (ints xs)) (hn : n ≤ 1048576) :
    Calls Try.prog 98 #[.slice A n c, .int .i64 x] w (IdxPost xs x w) := by
  have hl := h.ilen
  have h1 := h.cap
  have h2 := h.max
  have H := Lib.hid h
  have HL := Lib.hid hl
  clear h hl
  go_enter Try.func98, Try.ntmps98
  go_wp2
  go_loop [8] (fun i => ∃ k : Nat, k ≤ n ∧ i = .int .i64 k ∧ Hid (∀ j y, j < k → xs[j]? = some y → y ≠ x)) (fun i => n - (intOf i).toNat)
  case atStart => exact ⟨0, Nat.zero_le _, rfl, (show Hid _ from fun j _ hj => absurd hj (Nat.not_lt_zero _))⟩
  case round =>
    obtain ⟨k, hk, rfl, HB⟩ := hrel
    by_cases hlt : k < n
    · obtain ⟨b, o, y, hA, hbl, hx, hc⟩ := H.out.int hlt
      subst hA
      have HX := Lib.hid hx
      clear hx
      have hk1 : (k : Int) < (n : Int) := by omega
      by_cases hxy : x = y
      · subst hxy
        go_wp2
        go_ret
        exact ⟨k, rfl, by omega, by omega, by rw [hasB_yes HX.out]; simp, rfl⟩
      · have hne : (x == y) = false := by simpa using hxy
        go_wp2
        go_round
        case rel =>
          refine ⟨k + 1, by omega, by go_num, (show Hid _ from fun j z hj hz => ?_)⟩
          by_cases e : j = k
          · subst e
            have := HX.out
            rw [this] at hz
            injection hz with hz
            rw [← hz]
            exact fun e => hxy e.symm
          · exact HB.out j z (by omega) hz
        case measure => simp [intOf]; omega
    · have : k = n := by omega
      subst this
      go_wp2
      go_ret
      exact ⟨-1, rfl, by omega, by omega, by rw [hasB_no (by rw [HL.out]; exact HB.out)]; decide, rfl⟩
set_option maxHeartbeats 1000000 in
theorem contains_any (A : Option Addr) (n c : Nat) (xs : List Int) (x : Int) (w : World) (h : Rd w 1 A n c (ints xs)) (hn : n ≤ 1048576) :
    Calls Try.prog 87 #[.slice A n c, .int .i64 x] w fun e w' => e = .returned (.bool (hasB xs x)) ∧ w = w' := by
  have hcall := index_any A n c xs x w h hn
  obtain ⟨q, hq⟩ : ∃ q, hasB xs x = q := ⟨_, rfl⟩
  rw [hq]
  have HC := Lib.hid hcall
  have HQ := Lib.hid hq
  clear hcall h hq
  go_enter Try.func87, Try.ntmps87
  go_wp2_with fail
  refine (HC.out).mono ?_
  rintro e w' ⟨r, rfl, h1, h2, h3, rfl⟩
  have H3 := Lib.hid h3
  clear h3
  go_wp2_with fail
  go_ret
  exact ⟨ret_b (by rw [← HQ.out, ← H3.out]), rfl⟩

/-- What the searches hand back: whether an order was found, and it, in a slice of the call's own. -/
def FindPost (w : World) (base n : Nat) (r : Option (List Int)) (e : Ending) (w' : World) : Prop :=
  Below w.heap.size w w' ∧ match r with
    | some l => ∃ A c, e = .returned (.tuple #[.slice A n c, .bool true]) ∧ w'.ownsRow base 2 1 (.slice A n c) n (ints l)
    | none => ∃ A k c, e = .returned (.tuple #[.slice A k c, .bool false])
theorem find_some {w w' : World} {base n : Nat} {r : Option (List Int)} {l : List Int} {A : Option Addr} {c : Nat} (hr : r = some l) (hb : Below w.heap.size w w') (ho : w'.ownsRow base 2 1 (.slice A n c) n (ints l)) : FindPost w base n r (.returned (.tuple #[.slice A n c, .bool true])) w' := by
  subst hr
  exact ⟨hb, A, c, rfl, ho⟩
theorem find_none {w w' : World} {base n k : Nat} {r : Option (List Int)} {A : Option Addr} {c : Nat} (hr : r = none) (hb : Below w.heap.size w w') : FindPost w base n r (.returned (.tuple #[.slice A k c, .bool false])) w' := by
  subst hr
  exact ⟨hb, A, k, c, rfl⟩
theorem tim_span {ps : List (Int × Int)} {os : List Int} (hb : ∀ (j : Nat) (i : Int), os[j]? = some i → 0 ≤ i ∧ i < ps.length) : (timK ps os os.length).b = spanL ps os := by
  have := tim_run hb os.length (Nat.le_refl _)
  rw [List.take_length] at this
  unfold spanL
  rw [← this]
theorem snoc_in {n : Nat} {ds : List Int} {k : Nat} (h : ∀ (j : Nat) (i : Int), ds[j]? = some i → 0 ≤ i ∧ i < n) (hk : k < n) : ∀ (j : Nat) (i : Int), (ds ++ [(k : Int)])[j]? = some i → 0 ≤ i ∧ i < n := by
  intro j i hj
  rcases List.mem_append.1 (List.mem_of_getElem? hj) with hm | hm
  · obtain ⟨j', hj'⟩ := List.getElem?_of_mem hm
    exact h j' i hj'
  · simp at hm; omega

set_option maxRecDepth 100000 in
set_option maxHeartbeats 8000000 in
theorem firstOrder_any (b o n c : Nat) (ps : List (Int × Int)) (s : Int) (hj : JOk ps) (hn7 : n ≤ 7) : ∀ (d : Nat) (B : Option Addr) (m q : Nat) (ds : List Int) (base : Nat) (w : World), Rd w 2 (some ⟨b, o, none⟩) n c (pr ps) → w.ownsRow base 2 1 (.slice B m q) m (ints ds) → base ≤ w.heap.size → m + d = n → (∀ (j : Nat) (i : Int), ds[j]? = some i → 0 ≤ i ∧ i < n) →
    Calls Try.prog 70 #[.slice (some ⟨b, o, none⟩) n c, .slice B m q, .int .i64 s] w (FindPost w base n (firstO n (fun os => decide (spanL ps os = s)) d ds)) := by
  intro d
  induction d with
  | zero =>
    intro B m q ds base w h hown hbase hmd hin
    have hl := h.plen
    have hmn : m = n := by omega
    subst hmn
    have hds := (Rd.of_own hown).ilen
    have hsp := tim_span (ps := ps) (os := ds) (fun j i hi => by have := hin j i hi; omega)
    rw [hds] at hsp
    have hcall := spanOf_any (some ⟨b, o, none⟩) m c ps B m q ds w h (Rd.of_own hown) hj hn7 hin
    rw [hsp] at hcall
    have hy : spanL ps ds = s → firstO m (fun os => decide (spanL ps os = s)) 0 ds = some ds := fun e => by unfold firstO; rw [if_pos (decide_eq_true e)]
    have hn : ¬ spanL ps ds = s → firstO m (fun os => decide (spanL ps os = s)) 0 ds = none := fun e => by unfold firstO; rw [if_neg (by rw [decide_eq_true_iff]; exact e)]
    generalize firstO m (fun os => decide (spanL ps os = s)) 0 ds = RR at *
    generalize spanL ps ds = V at *
    have HC := Lib.hid hcall
    have HO := Lib.hid hown
    by_cases hv : V = s
    · have HY := Lib.hid (hy hv)
      subst hv
      clear hcall hown h hin hl hds hsp hy hn
      go_enter Try.func70, Try.ntmps70
      go_wp2_with fail
      refine (HC.out).mono ?_
      rintro e w1 ⟨rfl, hb⟩
      have HO1 := Lib.hid (own_below HO.out hb)
      go_wp2
      go_ret2
      exact find_some HY.out hb HO1.out
    · have HY := Lib.hid (hn hv)
      have hne : (V == s) = false := by simpa using hv
      clear hcall hown h hin hl hds hsp hy hn hv
      go_enter Try.func70, Try.ntmps70
      go_wp2_with fail
      refine (HC.out).mono ?_
      rintro e w1 ⟨rfl, hb⟩
      go_wp2
      go_ret2
      exact find_none HY.out hb
  | succ d ih =>
    intro B m q ds base w h hown hbase hmd hin
    have hl := h.plen
    have h1 := h.cap
    have h2 := h.max
    have hds := (Rd.of_own hown).ilen
    have h3 := (Rd.of_own hown).cap
    have h4 := (Rd.of_own hown).max
    obtain ⟨i0, hi, hz0, hz1, hz2⟩ := info_parts info_i64r
    obtain ⟨RR, hRR⟩ : ∃ r, firstO n (fun os => decide (spanL ps os = s)) (d + 1) ds = r := ⟨_, rfl⟩
    rw [hRR]
    have hend : ∀ r, scanF (fun i => if hasB ds (i : Int) = true then none else firstO n (fun os => decide (spanL ps os = s)) d (ds ++ [(i : Int)])) n = r → firstO n (fun os => decide (spanL ps os = s)) (d + 1) ds = r := fun _ h => h
    have hmn : ((m : Int) == (n : Int)) = false := by simp; omega
    have HI := Lib.hid ih
    have HRR := Lib.hid hRR
    have HEN := Lib.hid hend
    have H := Lib.hid h
    have HO := Lib.hid hown
    have HN := Lib.hid hin
    have HB0 := Lib.hid (Below.refl w.heap.size w)
    clear ih hRR h hown hin hl hds hj hend
    go_enter Try.func70, Try.ntmps70
    go_wp2_with fail
    go_loopw [24] (fun vi wr => ∃ k : Nat, k ≤ n ∧ vi = .int .i64 k ∧ Hid (scanF (fun i => if hasB ds (i : Int) = true then none else firstO n (fun os => decide (spanL ps os = s)) d (ds ++ [(i : Int)])) k = none) ∧ Below w.heap.size w wr) (fun vi _ => n - (intOf vi).toNat)
    case atStart => exact ⟨0, Nat.zero_le _, rfl, (show Hid _ from rfl), HB0.out⟩
    case round =>
      obtain ⟨k, hk, rfl, HS, hb⟩ := hrel
      have Hb := Lib.hid hb
      clear hb
      by_cases hlt : k < n
      · have hk0 : (0 : Int) ≤ (k : Int) := by omega
        have hk1 : (k : Int) < (n : Int) := by omega
        have hkd : decide ((k : Int) < (n : Int)) = true := decide_eq_true hk1
        have hhas := fun W h => contains_any B m q ds (k : Int) W h (by omega)
        have R1 := Lib.hid (Rd.of_own (own_below HO.out Hb.out))
        have H1 := Lib.hid (H.out.below Hb.out)
        have hs1 := Hb.out.size
        cases hh : hasB ds (k : Int) with
        | true =>
          rw [hh] at hhas
          have HH := Lib.hid hhas
          have HHB := Lib.hid hh
          clear hhas hh
          go_wp2_with fail
          refine (HH.out _ R1.out).mono ?_
          rintro e w1 ⟨rfl, rfl⟩
          go_wp2
          go_roundw
          case rel => exact ⟨k + 1, by omega, by go_num, Lib.hid (by rw [scanF_next HS.out, HHB.out]; rfl), Hb.out⟩
          case measure => simp [intOf]; omega
        | false =>
          rw [hh] at hhas
          have HH := Lib.hid hhas
          have HHB := Lib.hid hh
          clear hhas hh
          have hnext := scanF_next HS.out
          rw [HHB.out, if_neg (by simp)] at hnext
          have hhit := fun l (hr : firstO n (fun os => decide (spanL ps os = s)) d (ds ++ [(k : Int)]) = some l) => scanF_hit (n := n) HS.out (show (if hasB ds (k : Int) = true then none else firstO n (fun os => decide (spanL ps os = s)) d (ds ++ [(k : Int)])) = some l by rw [HHB.out, if_neg (by simp)]; exact hr) hlt
          obtain ⟨V, hV⟩ : ∃ V, firstO n (fun os => decide (spanL ps os = s)) d (ds ++ [(k : Int)]) = V := ⟨_, rfl⟩
          have hih := fun B q W h ho hb2 => HI.out B (m + 1) q (ds ++ [(k : Int)]) base W h ho hb2 (by omega) (snoc_in HN.out hlt)
          rw [hV] at hnext hhit hih
          have HNX := Lib.hid hnext
          have HHT := Lib.hid hhit
          have HIH := Lib.hid hih
          clear hnext hhit hih hV HHB HS
          go_wp2_with fail
          refine (HH.out _ R1.out).mono ?_
          rintro e w1 ⟨rfl, rfl⟩
          go_wp2_with fail
          refine (clone_any _ _ _ ds _ R1.out (by omega)).mono ?_
          rintro e w2 ⟨X, e2, rfl, ho2, hb2⟩
          have HO2 := Lib.hid (own_base ho2 (show base ≤ wr.heap.size by omega))
          have Hb2 := Lib.hid (Hb.out.trans (hb2.mono hs1))
          have hs2 := Hb2.out.size
          have HOB2 := Lib.hid (own_block ho2)
          clear ho2 hb2
          go_wp2_with (at_builtin; refine wpList_append_own _ rfl (.tmp 33) (.tmp 35) 34 rfl base 2 i0 (.int .i64 0) 1 8 Try.underlying34 hi hz0 hz1 hz2 rfl (by decide) (Value.slice X m e2) _ _ rfl (HO2.out.alloc _) ⟨_, 0, none⟩ 1 1 [.int .i64 k] rfl rfl (cell_one_new _ _ _) (by intro u hu; simp at hu; subst hu; rfl) (by unfold maxLen; omega) (by omega) (by simp; omega) ?_; intro v' wa hown' hga hdel; clear hdel)
          have hal : Below w2.heap.size w2 (w2.alloc (.cells #[.int .i64 k] 2)) := (by go_grown)
          obtain ⟨g3, d3, hv, _, _⟩ := own_form hown' (by omega)
          have b3 : Below w.heap.size w wa := (Hb2.out.trans (hal.mono hs2)).grown hga (by simp; omega) (fun j hj => by have := (HOB2.out j hj).1; omega)
          rw [ints_snoc] at hown'
          subst hv
          have H3 := Lib.hid (H.out.below b3)
          have HO3 := Lib.hid hown'
          have HB3 := Lib.hid b3
          have hs3 := b3.size
          clear hown' hga hal b3 HO2 Hb2 HOB2
          cases V with
          | none =>
            refine (HIH.out _ _ _ H3.out HO3.out (by omega)).mono ?_
            rintro e w4 ⟨hb4, A4, k4, c4, rfl⟩
            have HB4 := Lib.hid (HB3.out.trans (hb4.mono hs3))
            clear hb4
            go_wp2
            go_roundw
            case rel => exact ⟨k + 1, by omega, by go_num, HNX, HB4.out⟩
            case measure => simp [intOf]; omega
          | some l =>
            refine (HIH.out _ _ _ H3.out HO3.out (by omega)).mono ?_
            rintro e w4 ⟨hb4, A4, c4, rfl, ho4⟩
            have HB4 := Lib.hid (HB3.out.trans (hb4.mono hs3))
            have HO4 := Lib.hid ho4
            clear hb4 ho4
            go_wp2
            go_ret2
            exact find_some (by rw [← HRR.out]; exact HEN.out _ <| HHT.out l rfl) HB4.out HO4.out
      · have : k = n := by omega
        subst this
        go_wp2
        go_ret2
        exact find_none (by rw [← HRR.out]; exact HEN.out _ <| HS.out) Hb.out

set_option maxRecDepth 100000 in
set_option maxHeartbeats 8000000 in
theorem l14Find_any (b o n c : Nat) (ps : List (Int × Int)) (s : Int) (hj : JOk ps) (hn7 : n ≤ 7) : ∀ (d : Nat) (g0 m q : Nat) (ds : List Int) (base : Nat) (w : World), Rd w 2 (some ⟨b, o, none⟩) n c (pr ps) → w.ownsRow base 2 1 (.slice (some ⟨g0, 0, none⟩) m q) m (ints ds) → base ≤ w.heap.size → m + d = n → (∀ (j : Nat) (i : Int), ds[j]? = some i → 0 ≤ i ∧ i < n) →
    Calls Try.prog 74 #[.slice (some ⟨b, o, none⟩) n c, .slice (some ⟨g0, 0, none⟩) m q, .int .i64 s] w (FindPost w base n (findO n (spanL ps) s d ds)) := by
  intro d
  induction d with
  | zero =>
    intro g0 m q ds base w h hown hbase hmd hin
    have hl := h.plen
    have hmn : m = n := by omega
    subst hmn
    have hds := (Rd.of_own hown).ilen
    have hsp := tim_span (ps := ps) (os := ds) (fun j i hi => by have := hin j i hi; omega)
    rw [hds] at hsp
    have hcall := l14Times_any (some ⟨b, o, none⟩) m c ps (some ⟨g0, 0, none⟩) m q ds w h (Rd.of_own hown) hj hn7 hin
    rw [hsp] at hcall
    have hy : s < spanL ps ds → findO m (spanL ps) s 0 ds = none := fun e => by unfold findO; rw [if_pos e]
    have hn : ¬ s < spanL ps ds → findO m (spanL ps) s 0 ds = some ds := fun e => by unfold findO; rw [if_neg e]
    generalize findO m (spanL ps) s 0 ds = RR at *
    generalize spanL ps ds = V at *
    generalize timK ps ds m = t at *
    have HC := Lib.hid hcall
    have HO := Lib.hid hown
    by_cases hv : s < V
    · have HY := Lib.hid (hy hv)
      have hd : decide (s < V) = true := decide_eq_true hv
      clear hcall hown h hin hl hds hsp hy hn
      go_enter Try.func74, Try.ntmps74
      go_wp2_with fail
      refine (HC.out).mono ?_
      rintro e w1 ⟨g1, g2, rfl, _, _, _, hb⟩
      go_wp2
      go_ret2
      exact find_none HY.out hb
    · have HY := Lib.hid (hn hv)
      have hd : decide (s < V) = false := decide_eq_false hv
      clear hcall hown h hin hl hds hsp hy hn
      go_enter Try.func74, Try.ntmps74
      go_wp2_with fail
      refine (HC.out).mono ?_
      rintro e w1 ⟨g1, g2, rfl, _, _, _, hb⟩
      have HO1 := Lib.hid (own_below HO.out hb)
      go_wp2
      go_ret2
      exact find_some HY.out hb HO1.out
  | succ d ih =>
    intro g0 m q ds base w h hown hbase hmd hin
    have hl := h.plen
    have h1 := h.cap
    have h2 := h.max
    have hds := (Rd.of_own hown).ilen
    have h3 := (Rd.of_own hown).cap
    have h4 := (Rd.of_own hown).max
    obtain ⟨i0, hi, hz0, hz1, hz2⟩ := info_parts info_i64r
    have hsp := tim_span (ps := ps) (os := ds) (fun j i hi => by have := hin j i hi; omega)
    rw [hds] at hsp
    have hcall := l14Times_any (some ⟨b, o, none⟩) n c ps (some ⟨g0, 0, none⟩) m q ds w h (Rd.of_own hown) hj (by omega) hin
    rw [hsp] at hcall
    obtain ⟨RR, hRR⟩ : ∃ r, findO n (spanL ps) s (d + 1) ds = r := ⟨_, rfl⟩
    rw [hRR]
    have hcut : s < spanL ps ds → findO n (spanL ps) s (d + 1) ds = none := fun e => by unfold findO; rw [if_pos e]
    have hend : ¬ s < spanL ps ds → ∀ r, scanF (fun i => if hasB ds (i : Int) = true then none else findO n (spanL ps) s d (ds ++ [(i : Int)])) n = r → findO n (spanL ps) s (d + 1) ds = r := fun e _ h => by rw [← h, findO_succ, if_neg e]
    have hmn : ((m : Int) == (n : Int)) = false := by simp; omega
    generalize spanL ps ds = V at *
    generalize timK ps ds m = t at *
    have HC := Lib.hid hcall
    have HI := Lib.hid ih
    have HRR := Lib.hid hRR
    have H := Lib.hid h
    have HO := Lib.hid hown
    have HN := Lib.hid hin
    by_cases hv : s < V
    · have HY := Lib.hid (hcut hv)
      have hd : decide (s < V) = true := decide_eq_true hv
      clear ih hRR h hown hin hl hds hj hend hcut hcall hsp
      go_enter Try.func74, Try.ntmps74
      go_wp2_with fail
      refine (HC.out).mono ?_
      rintro e w1 ⟨g1, g2, rfl, _, _, _, hb⟩
      go_wp2
      go_ret2
      exact find_none (by rw [← HRR.out]; exact HY.out) hb
    have HEN := Lib.hid (hend hv)
    have hd : decide (s < V) = false := decide_eq_false hv
    clear ih hRR h hown hin hl hds hj hend hcut hcall hsp
    go_enter Try.func74, Try.ntmps74
    go_wp2_with fail
    refine (HC.out).mono ?_
    rintro e w1 ⟨g1, g2, rfl, _, _, _, hb⟩
    have HB0 := Lib.hid hb
    clear hb
    go_wp2_with fail
    go_loopw [11] (fun vi wr => ∃ k : Nat, k ≤ n ∧ vi = .int .i64 k ∧ Hid (scanF (fun i => if hasB ds (i : Int) = true then none else findO n (spanL ps) s d (ds ++ [(i : Int)])) k = none) ∧ Below w.heap.size w wr) (fun vi _ => n - (intOf vi).toNat)
    case atStart => exact ⟨0, Nat.zero_le _, rfl, (show Hid _ from rfl), HB0.out⟩
    case round =>
      obtain ⟨k, hk, rfl, HS, hb⟩ := hrel
      have Hb := Lib.hid hb
      clear hb
      by_cases hlt : k < n
      · have hk0 : (0 : Int) ≤ (k : Int) := by omega
        have hk1 : (k : Int) < (n : Int) := by omega
        have hkd : decide ((k : Int) < (n : Int)) = true := decide_eq_true hk1
        have hhas := fun W h => l00Has_any (some ⟨g0, 0, none⟩) m q ds (k : Int) W h
        have R1 := Lib.hid (Rd.of_own (own_below HO.out Hb.out))
        have H1 := Lib.hid (H.out.below Hb.out)
        have hs1 := Hb.out.size
        cases hh : hasB ds (k : Int) with
        | true =>
          rw [hh] at hhas
          have HH := Lib.hid hhas
          have HHB := Lib.hid hh
          clear hhas hh
          go_wp2_with fail
          refine (HH.out _ R1.out).mono ?_
          rintro e w1 ⟨rfl, rfl⟩
          go_wp2
          go_roundw
          case rel => exact ⟨k + 1, by omega, by go_num, Lib.hid (by rw [scanF_next HS.out, HHB.out]; rfl), Hb.out⟩
          case measure => simp [intOf]; omega
        | false =>
          rw [hh] at hhas
          have HH := Lib.hid hhas
          have HHB := Lib.hid hh
          clear hhas hh
          have hnext := scanF_next HS.out
          rw [HHB.out, if_neg (by simp)] at hnext
          have hhit := fun l (hr : findO n (spanL ps) s d (ds ++ [(k : Int)]) = some l) => scanF_hit (n := n) HS.out (show (if hasB ds (k : Int) = true then none else findO n (spanL ps) s d (ds ++ [(k : Int)])) = some l by rw [HHB.out, if_neg (by simp)]; exact hr) hlt
          obtain ⟨V, hV⟩ : ∃ V, findO n (spanL ps) s d (ds ++ [(k : Int)]) = V := ⟨_, rfl⟩
          have hih := fun B q W h ho hb2 => HI.out B (m + 1) q (ds ++ [(k : Int)]) base W h ho hb2 (by omega) (snoc_in HN.out hlt)
          rw [hV] at hnext hhit hih
          have HNX := Lib.hid hnext
          have HHT := Lib.hid hhit
          have HIH := Lib.hid hih
          clear hnext hhit hih hV HHB HS
          go_wp2_with fail
          refine (HH.out _ R1.out).mono ?_
          rintro e w1 ⟨rfl, rfl⟩
          go_wp2_with fail
          refine (l00Own_any g0 0 m q ds _ R1.out (by omega)).mono ?_
          rintro e w2 ⟨gX, e2, rfl, ho2, hb2⟩
          have HO2 := Lib.hid (own_base ho2 (show base ≤ wr.heap.size by omega))
          have Hb2 := Lib.hid (Hb.out.trans (hb2.mono hs1))
          have hs2 := Hb2.out.size
          have HOB2 := Lib.hid (own_block ho2)
          clear ho2 hb2
          go_wp2_with (at_builtin; refine wpList_append_own _ rfl (.tmp 42) (.tmp 44) 34 rfl base 2 i0 (.int .i64 0) 1 8 Try.underlying34 hi hz0 hz1 hz2 rfl (by decide) (Value.slice (some ⟨gX, 0, none⟩) m e2) _ _ rfl (HO2.out.alloc _) ⟨_, 0, none⟩ 1 1 [.int .i64 k] rfl rfl (cell_one_new _ _ _) (by intro u hu; simp at hu; subst hu; rfl) (by unfold maxLen; omega) (by omega) (by simp; omega) ?_; intro v' wa hown' hga hdel; clear hdel)
          have hal : Below w2.heap.size w2 (w2.alloc (.cells #[.int .i64 k] 2)) := (by go_grown)
          obtain ⟨g3, d3, hv, _, _⟩ := own_form hown' (by omega)
          have b3 : Below w.heap.size w wa := (Hb2.out.trans (hal.mono hs2)).grown hga (by simp; omega) (fun j hj => by have := (HOB2.out j hj).1; omega)
          rw [ints_snoc] at hown'
          subst hv
          have H3 := Lib.hid (H.out.below b3)
          have HO3 := Lib.hid hown'
          have HB3 := Lib.hid b3
          have hs3 := b3.size
          clear hown' hga hal b3 HO2 Hb2 HOB2
          cases V with
          | none =>
            refine (HIH.out _ _ _ H3.out HO3.out (by omega)).mono ?_
            rintro e w4 ⟨hb4, A4, k4, c4, rfl⟩
            have HB4 := Lib.hid (HB3.out.trans (hb4.mono hs3))
            clear hb4
            go_wp2
            go_roundw
            case rel => exact ⟨k + 1, by omega, by go_num, HNX, HB4.out⟩
            case measure => simp [intOf]; omega
          | some l =>
            refine (HIH.out _ _ _ H3.out HO3.out (by omega)).mono ?_
            rintro e w4 ⟨hb4, A4, c4, rfl, ho4⟩
            have HB4 := Lib.hid (HB3.out.trans (hb4.mono hs3))
            have HO4 := Lib.hid ho4
            clear hb4 ho4
            go_wp2
            go_ret2
            exact find_some (by rw [← HRR.out]; exact HEN.out _ <| HHT.out l rfl) HB4.out HO4.out
      · have : k = n := by omega
        subst this
        go_wp2
        go_ret2
        exact find_none (by rw [← HRR.out]; exact HEN.out _ <| HS.out) Hb.out

/-- The least span. -/
def leastS (ps : List (Int × Int)) (n : Nat) : Int := spanL ps (ruleL ps n)
def shortL (ps : List (Int × Int)) (n : Nat) : List Int := (firstO n (fun os => decide (spanL ps os = leastS ps n)) n []).getD []
def shortZ (ps : List (Int × Int)) : List Int × Int := if jobsB ps = true then (shortL ps ps.length, 0) else ([], 1)
theorem least_le {ps : List (Int × Int)} {n : Nat} {os : List Int} (h : os.Perm (upto n)) : leastS ps n ≤ spanL ps os := by
  have hru : ruleL ps n = sortK (fun i j => beforeJ (jobF ps i) (jobF ps j)) (upto n) n := by unfold ruleL sortA; rw [upto_len]
  unfold leastS spanL
  rw [hru]
  exact rule_least (jobF ps) (0, 0) n h
theorem short_some (ps : List (Int × Int)) (n : Nat) : firstO n (fun os => decide (spanL ps os = leastS ps n)) n [] = some (shortL ps n) := by
  have h := firstO_some (P := fun os => decide (spanL ps os = leastS ps n)) (rule_perm ps n) (decide_eq_true rfl) n (b := []) (c := ruleL ps n) (by rw [(rule_perm ps n).length_eq, upto_len]) (by simp)
  unfold shortL
  cases hf : firstO n (fun os => decide (spanL ps os = leastS ps n)) n [] with
  | none => exact absurd hf h
  | some l => rfl
theorem short_perm (ps : List (Int × Int)) (n : Nat) : (shortL ps n).Perm (upto n) := firstO_perm n (by simp) (by simp) (by simp) (short_some ps n)
theorem short_span (ps : List (Int × Int)) (n : Nat) : spanL ps (shortL ps n) = leastS ps n := of_decide_eq_true (firstO_sat n (short_some ps n)).1
theorem short_len {ps : List (Int × Int)} : (shortZ ps).1.length ≤ ps.length := by
  unfold shortZ
  split
  · rw [(short_perm ps _).length_eq, upto_len]; exact Nat.le_refl _
  · simp
theorem tim_least {ps : List (Int × Int)} {n : Nat} (hl : ps.length = n) : (timK ps (ruleL ps n) n).b = leastS ps n := by
  obtain ⟨hon, hin⟩ := perm_in (rule_perm ps n)
  have := tim_span (ps := ps) (os := ruleL ps n) (fun j i hi => by have := hin j i hi; omega)
  rw [hon] at this
  exact this
theorem find_short {ps : List (Int × Int)} {n : Nat} (hj : JOk ps) : findO n (spanL ps) (leastS ps n) n [] = some (shortL ps n) := by
  rw [find_first (fun b c => spanL_grow (fun p hp => by obtain ⟨j, hj'⟩ := List.getElem?_of_mem hp; have := (hj.job j p hj').2; omega) b c) (fun os h => least_le h) n (by simp) (by simp) (by simp)]
  exact short_some ps n

set_option maxRecDepth 100000 in
set_option maxHeartbeats 4000000 in
theorem implShortestOrder_any (b o n c : Nat) (ps : List (Int × Int)) (w : World) (h : Rd w 2 (some ⟨b, o, none⟩) n c (pr ps)) :
    Calls Try.prog 28 #[.slice (some ⟨b, o, none⟩) n c] w (IntPost w (shortZ ps).1 (shortZ ps).2) := by
  have hl := h.plen
  have hcall := fun W h => implValidJobs_any (some ⟨b, o, none⟩) n c ps W h
  unfold shortZ
  cases hz : jobsB ps with
  | false =>
    rw [hz] at hcall
    rw [if_neg (by simp)]
    have HC := Lib.hid hcall
    have H := Lib.hid h
    clear hcall h hz hl
    go_enter Try.func28, Try.ntmps28
    go_wp2_with fail
    refine (HC.out _ H.out).mono ?_
    rintro e w1 ⟨rfl, hb1⟩
    go_wp2
    go_ret2
    exact intPost_nil (hb1)
  | true =>
    rw [hz] at hcall
    rw [if_pos rfl]
    have hj := jok hz
    have hn7 := hj.len
    have hn7' : n ≤ 7 := by omega
    rw [hl]
    have hfo := fun W h hs => firstOrder_any b o n c ps (leastS ps n) hj hn7' n none 0 0 [] w.heap.size W h (World.ownsRow_nil _ _ _ _) hs (by omega) (fun j i hi => by simp at hi)
    rw [short_some ps n] at hfo
    have htl := tim_least hl
    have hp := rule_perm ps n
    obtain ⟨hon, hin⟩ := perm_in hp
    have hf := fun W h => ruleOrder_any b o n c ps W h hn7'
    have hsp := fun W B d h hB => spanOf_any (some ⟨b, o, none⟩) n c ps B n d (ruleL ps n) W h hB hj hn7' hin
    rw [htl] at hsp
    generalize ruleL ps n = os at *
    generalize leastS ps n = r at *
    generalize shortL ps n = L at *
    have HFO := Lib.hid hfo
    clear hfo htl
    have HF := Lib.hid hf
    have HSP := Lib.hid hsp
    clear hf hsp hp hon hin
    have HC := Lib.hid hcall
    have H := Lib.hid h
    clear hcall h hz hl hn7 hj
    go_enter Try.func28, Try.ntmps28
    go_wp2_with fail
    refine (HC.out _ H.out).mono ?_
    rintro e w1 ⟨rfl, hb1⟩
    have H1 := Lib.hid (H.out.below hb1)
    have Hb1 := Lib.hid hb1
    have hs1 := hb1.size
    clear hb1
    go_wp2_with fail
    refine (HF.out _ H1.out).mono ?_
    rintro e w2 ⟨g, d, rfl, ho, hb2⟩
    have H2 := Lib.hid (H1.out.below hb2)
    have HR := Lib.hid (Rd.of_own ho)
    have Hb2 := Lib.hid (Hb1.out.trans (hb2.mono hs1))
    clear ho hb2
    go_wp2_with fail
    refine (HSP.out _ _ _ H2.out HR.out).mono ?_
    rintro e w3 ⟨rfl, hb3⟩
    have H3 := Lib.hid (H2.out.below hb3)
    have Hb3 := Lib.hid (Hb2.out.trans (hb3.mono Hb2.out.size))
    clear hb3
    go_wp2_with fail
    refine (HFO.out w3 H3.out Hb3.out.size).mono ?_
    rintro e w4 ⟨hb4, A4, c4, rfl, ho4⟩
    have HO4 := Lib.hid ho4
    have Hb4 := Lib.hid (Hb3.out.trans (hb4.mono Hb3.out.size))
    clear hb4 ho4
    go_wp2
    go_ret2
    exact ⟨_, _, _, rfl, HO4.out, Hb4.out⟩

set_option maxRecDepth 100000 in
set_option maxHeartbeats 4000000 in
theorem specShortestOrder_any (b o n c : Nat) (ps : List (Int × Int)) (w : World) (h : Rd w 2 (some ⟨b, o, none⟩) n c (pr ps)) :
    Calls Try.prog 36 #[.slice (some ⟨b, o, none⟩) n c] w (IntPost w (shortZ ps).1 (shortZ ps).2) := by
  have hl := h.plen
  have hcall := fun W h => l14Ok_any (some ⟨b, o, none⟩) n c ps W h
  unfold shortZ
  cases hz : jobsB ps with
  | false =>
    rw [hz] at hcall
    rw [if_neg (by simp)]
    have HC := Lib.hid hcall
    have H := Lib.hid h
    clear hcall h hz hl
    go_enter Try.func36, Try.ntmps36
    go_wp2_with fail
    refine (HC.out _ H.out).mono ?_
    rintro e w1 ⟨rfl, rfl⟩
    go_wp2
    go_ret2
    exact intPost_nil (Below.refl _ _)
  | true =>
    rw [hz] at hcall
    rw [if_pos rfl]
    have hj := jok hz
    have hn7 := hj.len
    have hn7' : n ≤ 7 := by omega
    rw [hl]
    have hfi := fun g q W h ho hs => l14Find_any b o n c ps (leastS ps n) hj hn7' n g 0 q [] w.heap.size W h ho hs (by omega) (fun j i hi => by simp at hi)
    rw [find_short hj] at hfi
    have hf := fun W h => l14Least_any b o n c ps W h hj hn7'
    rw [tim_least hl] at hf
    generalize leastS ps n = r at *
    generalize shortL ps n = L at *
    have HF := Lib.hid hf
    have HFI := Lib.hid hfi
    clear hf hfi
    have HC := Lib.hid hcall
    have H := Lib.hid h
    clear hcall h hz hl hn7 hj
    go_enter Try.func36, Try.ntmps36
    go_wp2_with fail
    refine (HC.out _ H.out).mono ?_
    rintro e w1 ⟨rfl, rfl⟩
    have H1 := Lib.hid H.out
    have Hb1 := Lib.hid (Below.refl w.heap.size w)
    have hs1 := Nat.le_refl w.heap.size
    have hal : Below w.heap.size w (w.alloc (.cells #[] 2)) := (by go_grown)
    have ho0 : (w.alloc (.cells #[] 2)).ownsRow w.heap.size 2 1 (.slice (some ⟨w.heap.size, 0, none⟩) 0 0) 0 (ints []) := World.ownsRow_made w #[] 0 (Nat.le_refl _) (by unfold maxLen; omega) rfl
    have HA := Lib.hid hal
    have HO0 := Lib.hid ho0
    have H0 := Lib.hid (H.out.below hal)
    clear hal ho0
    go_wp2_with fail
    refine (HF.out _ H0.out).mono ?_
    rintro e w2 ⟨rfl, hb2⟩
    have H2 := Lib.hid (H0.out.below hb2)
    have HO2 := Lib.hid (own_below HO0.out hb2)
    have Hb2 := Lib.hid (HA.out.trans (hb2.mono HA.out.size))
    clear hb2
    go_wp2_with fail
    refine (HFI.out _ _ _ H2.out HO2.out Hb2.out.size).mono ?_
    rintro e w4 ⟨hb4, A4, c4, rfl, ho4⟩
    have HO4 := Lib.hid ho4
    have Hb4 := Lib.hid (Hb2.out.trans (hb4.mono Hb2.out.size))
    clear hb4 ho4
    go_wp2
    go_ret2
    exact ⟨_, _, _, rfl, HO4.out, Hb4.out⟩

set_option maxRecDepth 100000 in
set_option maxHeartbeats 8000000 in
theorem law_ShortestOrder (A : Option Addr) (n c : Nat) (ps : List (Int × Int)) (w : World) (hA : Rd w 2 A n c (pr ps)) :
    Calls Try.prog 8 #[.slice A n c] w fun e w' => e = .returned (.bool true) ∧ Below w.heap.size w w' := by
  have eA1 := hA.cap
  have eA2 := hA.max
  have lA := hA.plen
  have hsp := fun b o n c W h1 => specShortestOrder_any b o n c ps W h1
  have him := fun b o n c W h1 => implShortestOrder_any b o n c ps W h1
  have hlen := (show (shortZ ps).1.length ≤ n from by have := short_len (ps := ps); omega)
  generalize (shortZ ps).1 = R at *
  generalize (shortZ ps).2 = z at *
  have HA := Lib.hid hA
  have HSP := Lib.hid hsp
  have HIM := Lib.hid him
  clear hA hsp him lA
  by_cases gA : (1048576 : Int) < (n : Int)
  · go_enter Try.func8, Try.ntmps8
    go_wp2_with fail
    refine (szPrS_any _ _ _ _ _ (by omega) (by omega) (by omega)).mono ?_
    rw [if_pos (by omega)]
    rintro e w' ⟨rfl, rfl⟩
    go_wp2
    go_ret
    exact ⟨rfl, Below.refl _ _⟩
  have b0 : Below w.heap.size w w := Below.refl _ _
  go_enter Try.func8, Try.ntmps8
  go_wp2_with fail
  refine (szPrS_any _ _ _ _ _ (by omega) (by omega) (by omega)).mono ?_
  rw [if_neg (by omega)]
  rintro e w' ⟨rfl, rfl⟩
  have sA : ¬ 1048576 - (n : Int) < 0 := by omega
  go_wp2_with fail
  refine (toPrS_any A n c ps _ (HA.out.below b0) (by omega)).mono ?_
  rintro e w1 ⟨gt0, rfl, ho, hb1⟩
  have b1 : Below w.heap.size w w1 := b0.trans (hb1.mono b0.size)
  have s1 := hb1.size
  have Ot01 := Lib.hid (OwnIn.new ho)
  clear hb1 ho
  go_wp2_with fail
  refine (HSP.out _ _ _ _ _ Ot01.out.rd).mono ?_
  rintro e w2 ⟨Aw, nw, cw, rfl, ho, hb2⟩
  have b2 : Below w.heap.size w w2 := b1.trans (hb2.mono b1.size)
  have s2 := hb2.size
  have Ot02 := Lib.hid (Ot01.out.below hb2)
  have Ow2 := Lib.hid (OwnIn.new ho)
  clear hb2 Ot01 ho
  go_wp2_with fail
  refine (toPrS_any A n c ps _ (HA.out.below b2) (by omega)).mono ?_
  rintro e w3 ⟨gx0, rfl, ho, hb3⟩
  have b3 : Below w.heap.size w w3 := b2.trans (hb3.mono b2.size)
  have s3 := hb3.size
  have Ot03 := Lib.hid (Ot02.out.below hb3)
  have Ow3 := Lib.hid (Ow2.out.below hb3)
  have Ox03 := Lib.hid (OwnIn.new ho)
  clear hb3 Ot02 Ow2 ho
  go_wp2_with fail
  refine (HIM.out _ _ _ _ _ Ox03.out.rd).mono ?_
  rintro e w4 ⟨Ag, ng, cg, rfl, ho, hb4⟩
  have b4 : Below w.heap.size w w4 := b3.trans (hb4.mono b3.size)
  have s4 := hb4.size
  have Ot04 := Lib.hid (Ot03.out.below hb4)
  have Ow4 := Lib.hid (Ow3.out.below hb4)
  have Ox04 := Lib.hid (Ox03.out.below hb4)
  have Og4 := Lib.hid (OwnIn.new ho)
  clear hb4 Ot03 Ow3 Ox03 ho
  have lg := Og4.out.ilen
  go_wp2_with fail
  refine (eqInt64S_any _ _ _ R _ _ _ R _ Og4.out.rd Ow4.out.rd).mono ?_
  rw [eqL_self]
  rintro e w5 ⟨rfl, hb5⟩
  have b5 : Below w.heap.size w w5 := b4.trans (hb5.mono b4.size)
  have s5 := hb5.size
  have Ot05 := Lib.hid (Ot04.out.below hb5)
  have Ow5 := Lib.hid (Ow4.out.below hb5)
  have Ox05 := Lib.hid (Ox04.out.below hb5)
  have Og5 := Lib.hid (Og4.out.below hb5)
  clear hb5 Ot04 Ow4 Ox04 Og4
  go_wp2_with fail
  refine (toPrS_any A n c ps _ (HA.out.below b5) (by omega)).mono ?_
  rintro e w6 ⟨gy0, rfl, ho, hb6⟩
  have b6 : Below w.heap.size w w6 := b5.trans (hb6.mono b5.size)
  have s6 := hb6.size
  have Ot06 := Lib.hid (Ot05.out.below hb6)
  have Ow6 := Lib.hid (Ow5.out.below hb6)
  have Ox06 := Lib.hid (Ox05.out.below hb6)
  have Og6 := Lib.hid (Og5.out.below hb6)
  have Oy06 := Lib.hid (OwnIn.new ho)
  clear hb6 Ot05 Ow5 Ox05 Og5 ho
  go_wp2_with fail
  refine (eqPrS_any _ _ _ ps _ _ _ ps _ Ox06.out.rd Oy06.out.rd).mono ?_
  rw [eqG_self]
  rintro e w7 ⟨rfl, hb7⟩
  have b7 : Below w.heap.size w w7 := b6.trans (hb7.mono b6.size)
  have s7 := hb7.size
  have Ot07 := Lib.hid (Ot06.out.below hb7)
  have Ow7 := Lib.hid (Ow6.out.below hb7)
  have Ox07 := Lib.hid (Ox06.out.below hb7)
  have Og7 := Lib.hid (Og6.out.below hb7)
  have Oy07 := Lib.hid (Oy06.out.below hb7)
  clear hb7 Ot06 Ow6 Ox06 Og6 Oy06
  go_wp2_with fail
  refine (markPrS_any _ _ _ _ ps _ _ Ox07.out.own (by omega) (by omega)).mono ?_
  rintro e w8 ⟨rfl, ho, hg⟩
  have b8 : Below w.heap.size w w8 := Ox07.out.base b7 hg (by omega) (Nat.le_refl _)
  have s8 := hg.size
  have Ot08 := Lib.hid (Ot07.out.other Ox07.out hg (by omega))
  have Ow8 := Lib.hid (Ow7.out.other Ox07.out hg (by omega))
  have Ox08 := Lib.hid (Ox07.out.self ho hg)
  have Og8 := Lib.hid (Og7.out.other Ox07.out hg (by omega))
  have Oy08 := Lib.hid (Oy07.out.other Ox07.out hg (by omega))
  clear ho hg Ot07 Ow7 Ox07 Og7 Oy07
  go_wp2_with fail
  refine (eqInt64S_any _ _ _ R _ _ _ R _ Og8.out.rd Ow8.out.rd).mono ?_
  rw [eqL_self]
  rintro e w9 ⟨rfl, hb9⟩
  have b9 : Below w.heap.size w w9 := b8.trans (hb9.mono b8.size)
  have s9 := hb9.size
  have Ot09 := Lib.hid (Ot08.out.below hb9)
  have Ow9 := Lib.hid (Ow8.out.below hb9)
  have Ox09 := Lib.hid (Ox08.out.below hb9)
  have Og9 := Lib.hid (Og8.out.below hb9)
  have Oy09 := Lib.hid (Oy08.out.below hb9)
  clear hb9 Ot08 Ow8 Ox08 Og8 Oy08
  go_wp2_with fail
  refine (markInt64S_any _ _ _ _ R 1 _ Og9.out.own (by omega) (by omega)).mono ?_
  rintro e w10 ⟨rfl, ho, hg⟩
  have b10 : Below w.heap.size w w10 := Og9.out.base b9 hg (by omega) (Nat.le_refl _)
  have s10 := hg.size
  have Ot010 := Lib.hid (Ot09.out.other Og9.out hg (by omega))
  have Ow10 := Lib.hid (Ow9.out.other Og9.out hg (by omega))
  have Ox010 := Lib.hid (Ox09.out.other Og9.out hg (by omega))
  have Og10 := Lib.hid (Og9.out.self ho hg)
  have Oy010 := Lib.hid (Oy09.out.other Og9.out hg (by omega))
  clear ho hg Ot09 Ow9 Ox09 Og9 Oy09
  go_wp2_with fail
  refine (heldInt64S_any _ _ _ 1 _ Og10.out.rd (by omega) (by omega)).mono ?_
  rintro e wz ⟨rfl, rfl⟩
  go_wp2_with fail
  refine (toPrS_any A n c ps _ (HA.out.below b10) (by omega)).mono ?_
  rintro e w11 ⟨gz0, rfl, ho, hb11⟩
  have b11 : Below w.heap.size w w11 := b10.trans (hb11.mono b10.size)
  have s11 := hb11.size
  have Ot011 := Lib.hid (Ot010.out.below hb11)
  have Ow11 := Lib.hid (Ow10.out.below hb11)
  have Ox011 := Lib.hid (Ox010.out.below hb11)
  have Og11 := Lib.hid (Og10.out.below hb11)
  have Oy011 := Lib.hid (Oy010.out.below hb11)
  have Oz011 := Lib.hid (OwnIn.new ho)
  clear hb11 Ot010 Ow10 Ox010 Og10 Oy010 ho
  go_wp2_with fail
  refine (HIM.out _ _ _ _ _ Oz011.out.rd).mono ?_
  rintro e w12 ⟨Ah, nh, ch, rfl, ho, hb12⟩
  have b12 : Below w.heap.size w w12 := b11.trans (hb12.mono b11.size)
  have s12 := hb12.size
  have Ot012 := Lib.hid (Ot011.out.below hb12)
  have Ow12 := Lib.hid (Ow11.out.below hb12)
  have Ox012 := Lib.hid (Ox011.out.below hb12)
  have Og12 := Lib.hid (Og11.out.below hb12)
  have Oy012 := Lib.hid (Oy011.out.below hb12)
  have Oz012 := Lib.hid (Oz011.out.below hb12)
  have Oh12 := Lib.hid (OwnIn.new ho)
  clear hb12 Ot011 Ow11 Ox011 Og11 Oy011 Oz011 ho
  go_wp2_with fail
  refine (eqInt64S_any _ _ _ R _ _ _ R _ Oh12.out.rd Ow12.out.rd).mono ?_
  rw [eqL_self]
  rintro e w13 ⟨rfl, hb13⟩
  have b13 : Below w.heap.size w w13 := b12.trans (hb13.mono b12.size)
  have s13 := hb13.size
  have Ot013 := Lib.hid (Ot012.out.below hb13)
  have Ow13 := Lib.hid (Ow12.out.below hb13)
  have Ox013 := Lib.hid (Ox012.out.below hb13)
  have Og13 := Lib.hid (Og12.out.below hb13)
  have Oy013 := Lib.hid (Oy012.out.below hb13)
  have Oz013 := Lib.hid (Oz012.out.below hb13)
  have Oh13 := Lib.hid (Oh12.out.below hb13)
  clear hb13 Ot012 Ow12 Ox012 Og12 Oy012 Oz012 Oh12
  go_wp2_with fail
  refine (heldInt64S_any _ _ _ 1 _ Og13.out.rd (by omega) (by omega)).mono ?_
  rintro e wz ⟨rfl, rfl⟩
  go_wp2_with fail
  go_ret
  exact ⟨rfl, b13⟩

end Go.Proofs.Ytfjmohnlllbgmaa
