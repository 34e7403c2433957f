/- RunPulls of the reference. -/
import Derived.Test.YtdkklkpegnblnaaRun
import Derived.Test.YtdkklkpegnblnaaSt
namespace Go.Proofs.Ytdkklkpegnblnaa
open Go.RowKit Go.Shelf

theorem code0 (a c s m d len : Int) : codeZ a c s m d len 0 = if leatherB a c s m = false then 1 else if (inB d 0 4 && inB len 1 10000) = false then 2 else 0 := by
  unfold codeZ
  cases h : leatherB a c s m with
  | false => rfl
  | true =>
    have e : inB 0 0 1000 = true := by decide
    rw [e, tears0 (lok h), Bool.and_true]
    simp
theorem runZ_1 {a c s m d len : Int} {xs : List Int} (h : leatherB a c s m = false) : runZ a c s m d len xs = ([], 1) := by
  unfold runZ; rw [code0, if_pos h]; rfl
theorem code0_t {a c s m d len : Int} (h : leatherB a c s m = true) (h1 : (inB d 0 4 && inB len 1 10000) = true) : codeZ a c s m d len 0 = 0 := by rw [code0, h, h1]; rfl
theorem code0_f {a c s m d len : Int} (h : leatherB a c s m = true) (h1 : (inB d 0 4 && inB len 1 10000) = false) : codeZ a c s m d len 0 = 2 := by rw [code0, h, h1]; rfl
theorem runZ_2 {a c s m d len : Int} {xs : List Int} (h : leatherB a c s m = true) (h' : outB xs 0 1000 = true ∨ (inB d 0 4 && inB len 1 10000 && decide (xs.length ≤ 20)) = false) : runZ a c s m d len xs = ([], 2) := by
  unfold runZ
  cases h1 : (inB d 0 4 && inB len 1 10000) with
  | false => rw [code0_f h h1]; rfl
  | true =>
    rw [code0_t h h1, if_pos rfl, if_pos]
    rcases h' with h' | h'
    · rw [h']; simp
    · rw [h1, Bool.true_and] at h'
      simp at h' ⊢
      exact Or.inl h'
theorem runZ_0 {a c s m d len : Int} {xs : List Int} (h : leatherB a c s m = true) (h1 : outB xs 0 1000 = false) (h2 : (inB d 0 4 && inB len 1 10000 && decide (xs.length ≤ 20)) = true) :
    runZ a c s m d len xs = if xs.any (tearsB a c m d) = true then ([], 10) else runEnd (runA a c s d xs len []) := by
  rw [Bool.and_eq_true] at h2
  unfold runZ
  rw [code0_t h h2.1, if_pos rfl, if_neg]
  have := h2.2
  rw [h1]
  simp at this ⊢
  exact this
theorem all_step {xs : List Int} {p : Int → Bool} {v : Bool} {k : Nat} {x : Int} (h : ∀ j y, j < k → xs[j]? = some y → p y = v) (hx : xs[k]? = some x) (hp : p x = v) : Hid (∀ j y, j < k + 1 → xs[j]? = some y → p y = v) := by
  intro j y hj hy
  by_cases e : j = k
  · subst e
    rw [hx] at hy
    injection hy with hy
    rw [← hy]
    exact hp
  · exact h j y (by omega) hy
theorem any_none {xs : List Int} {p : Int → Bool} {n : Nat} (hl : xs.length = n) (h : ∀ j y, j < n → xs[j]? = some y → p y = false) : xs.any p = false := by
  rw [List.any_eq_false]
  intro x hx
  obtain ⟨j, hj, rfl⟩ := List.getElem_of_mem hx
  rw [h j _ (by omega) (List.getElem?_eq_getElem hj)]
  simp
theorem keep5 {V W w' : World} {g : Nat} {p : Addr} {v0 v1 v2 v3 u : Value} (e : (W.cell? ⟨g, 0, none⟩ = some v0 ∧ W.cell? ⟨g, 1, none⟩ = some v1 ∧ W.cell? ⟨g, 2, none⟩ = some v2 ∧ W.cell? ⟨g, 3, none⟩ = some v3) ∧ W.cell? p = some u ∧ Below V.heap.size V W) (hb : Below W.heap.size W w') :
    (w'.cell? ⟨g, 0, none⟩ = some v0 ∧ w'.cell? ⟨g, 1, none⟩ = some v1 ∧ w'.cell? ⟨g, 2, none⟩ = some v2 ∧ w'.cell? ⟨g, 3, none⟩ = some v3) ∧ w'.cell? p = some u ∧ Below V.heap.size V w' :=
  ⟨keep4 e.1 hb, cell_later hb e.2.1, e.2.2.trans (hb.mono e.2.2.size)⟩

set_option maxHeartbeats 1000000 in
theorem specRunPulls_1 (a c s m d len : Int) (A : Option Addr) (n cp : Nat) (xs : List Int) (w : World) (hl : leatherB a c s m = false) :
    Calls Try.prog 49 #[.agg #[.int .i64 a, .int .i64 c, .int .i64 s, .int .i64 m], .int .i64 d, .int .i64 len, .slice A n cp] w (RunPost w (runZ a c s m d len xs).1 (runZ a c s m d len xs).2) := by
  have b0 : Below w.heap.size w (w.alloc (.cells #[.int .i64 a, .int .i64 c, .int .i64 s, .int .i64 m] 25)) := (by go_grown)
  rw [runZ_1 hl]
  go_enter Try.func49, Try.ntmps49
  go_wp2_with fail
  refine (l12Ok_any _ _ _ _ _).mono ?_
  rintro e w1 ⟨rfl, hb1⟩
  have b1 := b0.trans (hb1.mono b0.size)
  go_wp2_with fail
  go_ret2
  exact runPost_nil b1

set_option maxHeartbeats 2000000 in
theorem specRunPulls_out (a c s m d len : Int) (A : Option Addr) (n cp : Nat) (xs : List Int) (w : World) (hl : leatherB a c s m = true) (ho : outB xs 0 1000 = true) (h : Rd w 1 A n cp (ints xs)) :
    Calls Try.prog 49 #[.agg #[.int .i64 a, .int .i64 c, .int .i64 s, .int .i64 m], .int .i64 d, .int .i64 len, .slice A n cp] w (RunPost w (runZ a c s m d len xs).1 (runZ a c s m d len xs).2) := by
  have b0 : Below w.heap.size w (w.alloc (.cells #[.int .i64 a, .int .i64 c, .int .i64 s, .int .i64 m] 25)) := (by go_grown)
  rw [runZ_2 hl (Or.inl ho)]
  have hlen := h.ilen
  have h1 := h.cap
  have h2 := h.max
  have H0 := Lib.hid (h.below b0)
  have HL := Lib.hid hlen
  have HO := Lib.hid ho
  clear h hlen ho
  go_enter Try.func49, Try.ntmps49
  go_wp2_with fail
  refine (l12Ok_any _ _ _ _ _).mono ?_
  rintro e w1 ⟨rfl, hb1⟩
  have b1 := b0.trans (hb1.mono b0.size)
  have H1 := Lib.hid (H0.out.below hb1)
  clear hb1 H0 b0
  go_wp2_with fail
  go_loop [10] (fun i => ∃ k : Nat, k ≤ n ∧ i = .int .i64 k ∧ Hid (∀ j y, j < k → xs[j]? = some y → inB y 0 1000 = true)) (fun i => n - (intOf i).toNat)
  case atStart => exact ⟨0, Nat.zero_le _, rfl, (show Hid _ from fun j _ hj => absurd hj (Nat.not_lt_zero _))⟩
  case round =>
    obtain ⟨k, hk, rfl, HB⟩ := hrel
    by_cases hlt : k < n
    · obtain ⟨b, o, x, hA, hbl, hx, hc⟩ := H1.out.int hlt
      subst hA
      have HX := Lib.hid hx
      clear hx
      cases hin : inB x 0 1000 with
      | false =>
        go_wp2_with (go_at_call 69; refine (l12Force_any _ _).mono ?_; rintro e w' ⟨rfl, rfl⟩)
        go_ret2
        exact runPost_nil b1
      | true =>
        have HI := Lib.hid hin
        go_wp2_with (go_at_call 69; refine (l12Force_any _ _).mono ?_; rintro e w' ⟨rfl, rfl⟩)
        go_round
        case rel => exact ⟨k + 1, by omega, by go_num, all_step HB.out HX.out HI.out⟩
        case measure => simp [intOf]; omega
    · exfalso
      have : k = n := by omega
      subst this
      have := all_in (lo := 0) (hi := 1000) (xs := xs) (by rw [HL.out]; exact HB.out)
      rw [HO.out] at this
      cases this

set_option maxHeartbeats 2000000 in
theorem specRunPulls_rng (a c s m d len : Int) (A : Option Addr) (n cp : Nat) (xs : List Int) (w : World) (hl : leatherB a c s m = true) (ho : outB xs 0 1000 = false) (hr : (inB d 0 4 && inB len 1 10000 && decide (xs.length ≤ 20)) = false) (h : Rd w 1 A n cp (ints xs)) :
    Calls Try.prog 49 #[.agg #[.int .i64 a, .int .i64 c, .int .i64 s, .int .i64 m], .int .i64 d, .int .i64 len, .slice A n cp] w (RunPost w (runZ a c s m d len xs).1 (runZ a c s m d len xs).2) := by
  have b0 : Below w.heap.size w (w.alloc (.cells #[.int .i64 a, .int .i64 c, .int .i64 s, .int .i64 m] 25)) := (by go_grown)
  have B0 := Box.new w #[.int .i64 a, .int .i64 c, .int .i64 s, .int .i64 m] 25
  rw [runZ_2 hl (Or.inr hr)]
  rw [h.ilen] at hr
  have hlen := h.ilen
  have h1 := h.cap
  have h2 := h.max
  have HOO := Lib.hid (fun k x (hx : xs[k]? = some x) => out_no ho hx)
  have H0 := Lib.hid (h.below b0)
  have HL := Lib.hid hlen
  have HR := Lib.hid hr
  clear h hlen ho hr
  go_enter Try.func49, Try.ntmps49
  go_wp2_with fail
  refine (l12Ok_any _ _ _ _ _).mono ?_
  rintro e w1 ⟨rfl, hb1⟩
  have b1 := b0.trans (hb1.mono b0.size)
  have B1 := B0.below hb1
  have H1 := Lib.hid (H0.out.below hb1)
  clear hb1 H0 b0 B0
  go_wp2_with fail
  go_loop [10] (fun i => ∃ k : Nat, k ≤ n ∧ i = .int .i64 k) (fun i => n - (intOf i).toNat)
  case atStart => exact ⟨0, Nat.zero_le _, rfl⟩
  case round =>
    obtain ⟨k, hk, rfl⟩ := hrel
    by_cases hlt : k < n
    · obtain ⟨b, o, x, hA, hbl, hx, hc⟩ := H1.out.int hlt
      subst hA
      have hin : inB x 0 1000 = true := inB_mk (HOO.out k x hx).1 (HOO.out k x hx).2
      clear hx
      go_wp2_with (go_at_call 69; refine (l12Force_any _ _).mono ?_; rintro e w' ⟨rfl, rfl⟩)
      go_round
      case rel => exact ⟨k + 1, by omega, by go_num⟩
      case measure => simp [intOf]; omega
    · have : k = n := by omega
      subst this
      have hr := HR.out
      by_cases hk20 : k ≤ 20
      · have hki : ¬ (20 : Int) < (k : Int) := by omega
        cases h3 : inB d 0 4 <;> cases h4 : inB len 1 10000 <;> simp [h3, h4, hk20] at hr
        all_goals
          go_wp2_with (first | (go_at_call 61; refine (l12Direction_any _ _).mono ?_; rintro e w' ⟨rfl, rfl⟩) | (go_at_call 80; refine (l12Length_any _ _).mono ?_; rintro e w' ⟨rfl, rfl⟩))
          go_ret2
          exact runPost_nil b1
      · have hki : (20 : Int) < (k : Int) := by omega
        clear hr
        cases h3 : inB d 0 4 <;> cases h4 : inB len 1 10000
        all_goals
          go_wp2_with (first | (go_at_call 61; refine (l12Direction_any _ _).mono ?_; rintro e w' ⟨rfl, rfl⟩) | (go_at_call 80; refine (l12Length_any _ _).mono ?_; rintro e w' ⟨rfl, rfl⟩))
          go_ret2
          exact runPost_nil b1

set_option maxHeartbeats 4000000 in
theorem specRunPulls_tear (a c s m d len : Int) (A : Option Addr) (n cp : Nat) (xs : List Int) (w : World) (hl : leatherB a c s m = true) (ho : outB xs 0 1000 = false) (hr : (inB d 0 4 && inB len 1 10000 && decide (xs.length ≤ 20)) = true) (ht : xs.any (tearsB a c m d) = true) (h : Rd w 1 A n cp (ints xs)) :
    Calls Try.prog 49 #[.agg #[.int .i64 a, .int .i64 c, .int .i64 s, .int .i64 m], .int .i64 d, .int .i64 len, .slice A n cp] w (RunPost w (runZ a c s m d len xs).1 (runZ a c s m d len xs).2) := by
  have b0 : Below w.heap.size w (w.alloc (.cells #[.int .i64 a, .int .i64 c, .int .i64 s, .int .i64 m] 25)) := (by go_grown)
  have B0 := Box.new w #[.int .i64 a, .int .i64 c, .int .i64 s, .int .i64 m] 25
  rw [runZ_0 hl ho hr, if_pos ht]
  rw [h.ilen] at hr
  simp only [Bool.and_eq_true] at hr
  have hlen := h.ilen
  have h1 := h.cap
  have h2 := h.max
  have HOO := Lib.hid (fun k x (hx : xs[k]? = some x) => out_no ho hx)
  have H0 := Lib.hid (h.below b0)
  have HL := Lib.hid hlen
  have HR := Lib.hid hr
  have HT := Lib.hid ht
  clear h hlen ho hr ht
  go_enter Try.func49, Try.ntmps49
  go_wp2_with fail
  refine (l12Ok_any _ _ _ _ _).mono ?_
  rintro e w1 ⟨rfl, hb1⟩
  have b1 := b0.trans (hb1.mono b0.size)
  have B1 := B0.below hb1
  have H1 := Lib.hid (H0.out.below hb1)
  clear hb1 H0 b0 B0
  go_wp2_with fail
  go_loop [10] (fun i => ∃ k : Nat, k ≤ n ∧ i = .int .i64 k) (fun i => n - (intOf i).toNat)
  case atStart => exact ⟨0, Nat.zero_le _, rfl⟩
  case round =>
    obtain ⟨k, hk, rfl⟩ := hrel
    by_cases hlt : k < n
    · obtain ⟨b, o, x, hA, hbl, hx, hc⟩ := H1.out.int hlt
      subst hA
      have hin : inB x 0 1000 = true := inB_mk (HOO.out k x hx).1 (HOO.out k x hx).2
      clear hx
      go_wp2_with (go_at_call 69; refine (l12Force_any _ _).mono ?_; rintro e w' ⟨rfl, rfl⟩)
      go_round
      case rel => exact ⟨k + 1, by omega, by go_num⟩
      case measure => simp [intOf]; omega
    · have : k = n := by omega
      subst this
      obtain ⟨⟨h3, h4⟩, h5⟩ := HR.out
      have hd := inB_true h3
      have hL := inB_true h4
      obtain ⟨hd0, hd1⟩ := hd
      obtain ⟨hl0, hl1⟩ := hL
      have hk20 : ¬ (20 : Int) < (k : Int) := by simp at h5; omega
      have hk20n : k ≤ 20 := by omega
      clear h5
      have hkk := lok hl
      have HK := Lib.hid hkk
      have m0 := hkk.m0
      have m1 := hkk.m1
      clear hkk
      go_wp2_with (first | (go_at_call 61; refine (l12Direction_any _ _).mono ?_; rintro e w' ⟨rfl, rfl⟩) | (go_at_call 80; refine (l12Length_any _ _).mono ?_; rintro e w' ⟨rfl, rfl⟩))
      go_loopw [11] (fun i wr => ∃ j : Nat, j ≤ k ∧ i = .int .i64 j ∧ Hid (∀ i y, i < j → xs[i]? = some y → tearsB a c m d y = false) ∧ Below w1.heap.size w1 wr) (fun i _ => k - (intOf i).toNat)
      case atStart => exact ⟨0, Nat.zero_le _, rfl, (show Hid _ from fun j _ hj => absurd hj (Nat.not_lt_zero _)), Below.refl _ _⟩
      case round =>
        obtain ⟨j, hj, rfl, HB, hb⟩ := hrel
        by_cases hlj : j < k
        · have hji : (j : Int) < (k : Int) := by omega
          have hj0 : (0 : Int) ≤ (j : Int) := by omega
          obtain ⟨b, o, x, hA, hbl, hx, hc⟩ := H1.out.int hlj
          subst hA
          have hcx : wr.cell? ⟨b, o + j, none⟩ = some (.int .i64 x) := (hb.cell (p := ⟨b, o + j, none⟩) hbl).trans hc
          have hxr := HOO.out j x hx
          have hB := B1.below hb
          have cB := hB.cell
          have hs := stretch_bd HK.out.a0 HK.out.a1 HK.out.c0 HK.out.c1 hd0 hd1 hxr.1 hxr.2
          have hcs := fun W => l12Stretch_any a c s m d x W HK.out hd0 hd1 hxr.1 hxr.2
          have hte : tearsB a c m d x = decide (40 * m < stretchZ a c d x) := rfl
          generalize stretchZ a c d x = y at *
          have HCS := Lib.hid hcs
          have HX := Lib.hid hx
          obtain ⟨hs0, hs1⟩ := hs
          clear hcs hx hc hxr
          have hb' := hb
          by_cases ht : 40 * m < y
          · clear hte
            go_wp2
            go_region_held3 (fun w' => (w'.cell? ⟨w.heap.size, 0, none⟩ = some (.int .i64 a) ∧ w'.cell? ⟨w.heap.size, 1, none⟩ = some (.int .i64 c) ∧ w'.cell? ⟨w.heap.size, 2, none⟩ = some (.int .i64 s) ∧ w'.cell? ⟨w.heap.size, 3, none⟩ = some (.int .i64 m)) ∧ w'.cell? ⟨b, o + j, none⟩ = some (.int .i64 x) ∧ Below wr.heap.size wr w') (first | exact ⟨⟨cB 0, cB 1, cB 2, cB 3⟩, hcx, (Below.refl _ _).drew⟩ | exact keep5 (by assumption) hb | go_keep)
              (first | (go_at_call 70; refine (HCS.out _).mono ?_; rintro e w' ⟨rfl, hb⟩))
            have hbb : Below wr.heap.size wr w' := (‹_ ∧ _ ∧ Below wr.heap.size wr w'›).2.2
            have b6 : Below w1.heap.size w1 w' := hb'.trans (hbb.mono hb'.size)
            rw [IntWalk.i64_in (40 * m) (by omega)]
            go_wp2
            go_ret2
            exact runPost_nil (b1.trans (b6.mono b1.size))
          · have htf : tearsB a c m d x = false := by rw [hte]; simpa using ht
            have HTF := Lib.hid htf
            clear hte htf
            go_wp2
            go_region_held3 (fun w' => (w'.cell? ⟨w.heap.size, 0, none⟩ = some (.int .i64 a) ∧ w'.cell? ⟨w.heap.size, 1, none⟩ = some (.int .i64 c) ∧ w'.cell? ⟨w.heap.size, 2, none⟩ = some (.int .i64 s) ∧ w'.cell? ⟨w.heap.size, 3, none⟩ = some (.int .i64 m)) ∧ w'.cell? ⟨b, o + j, none⟩ = some (.int .i64 x) ∧ Below wr.heap.size wr w') (first | exact ⟨⟨cB 0, cB 1, cB 2, cB 3⟩, hcx, (Below.refl _ _).drew⟩ | exact keep5 (by assumption) hb | go_keep)
              (first | (go_at_call 70; refine (HCS.out _).mono ?_; rintro e w' ⟨rfl, hb⟩))
            have hbb : Below wr.heap.size wr w' := (‹_ ∧ _ ∧ Below wr.heap.size wr w'›).2.2
            have b6 : Below w1.heap.size w1 w' := hb'.trans (hbb.mono hb'.size)
            rw [IntWalk.i64_in (40 * m) (by omega)]
            go_wp2
            go_roundw
            case rel => exact ⟨j + 1, by omega, by go_num, all_step HB.out HX.out HTF.out, b6⟩
            case measure => simp [intOf]; omega
        · exfalso
          have : j = k := by omega
          subst this
          have := any_none HL.out HB.out
          rw [HT.out] at this
          cases this

set_option maxHeartbeats 8000000 in
theorem specRunPulls_ok (a c s m d len : Int) (A : Option Addr) (n cp : Nat) (xs : List Int) (w : World) (hl : leatherB a c s m = true) (ho : outB xs 0 1000 = false) (hr : (inB d 0 4 && inB len 1 10000 && decide (xs.length ≤ 20)) = true) (ht : xs.any (tearsB a c m d) = false) (h : Rd w 1 A n cp (ints xs)) :
    Calls Try.prog 49 #[.agg #[.int .i64 a, .int .i64 c, .int .i64 s, .int .i64 m], .int .i64 d, .int .i64 len, .slice A n cp] w (RunPost w (runZ a c s m d len xs).1 (runZ a c s m d len xs).2) := by
  have b0 : Below w.heap.size w (w.alloc (.cells #[.int .i64 a, .int .i64 c, .int .i64 s, .int .i64 m] 25)) := (by go_grown)
  have B0 := Box.new w #[.int .i64 a, .int .i64 c, .int .i64 s, .int .i64 m] 25
  obtain ⟨i0, hi, hz0, hz1, hz2⟩ := info_parts info_i64'
  obtain ⟨R, hR⟩ : ∃ R, runA a c s d xs len [] = R := ⟨_, rfl⟩
  rw [runZ_0 hl ho hr, if_neg (by rw [ht]; simp), hR]
  rw [h.ilen] at hr
  simp only [Bool.and_eq_true] at hr
  have hlen := h.ilen
  have h1 := h.cap
  have h2 := h.max
  have HOO := Lib.hid (fun k x (hx : xs[k]? = some x) => out_no ho hx)
  have H0 := Lib.hid (h.below b0)
  have HL := Lib.hid hlen
  have HR := Lib.hid hr
  have HT := Lib.hid ht
  have HRA := Lib.hid hR
  clear h hlen ho hr ht hR
  go_enter Try.func49, Try.ntmps49
  go_wp2_with fail
  refine (l12Ok_any _ _ _ _ _).mono ?_
  rintro e w1 ⟨rfl, hb1⟩
  have b1 := b0.trans (hb1.mono b0.size)
  have B1 := B0.below hb1
  have H1 := Lib.hid (H0.out.below hb1)
  clear hb1 H0 b0 B0
  go_wp2_with fail
  go_loop [10] (fun i => ∃ k : Nat, k ≤ n ∧ i = .int .i64 k) (fun i => n - (intOf i).toNat)
  case atStart => exact ⟨0, Nat.zero_le _, rfl⟩
  case round =>
    obtain ⟨k, hk, rfl⟩ := hrel
    by_cases hlt : k < n
    · obtain ⟨b, o, x, hA, hbl, hx, hc⟩ := H1.out.int hlt
      subst hA
      have hin : inB x 0 1000 = true := inB_mk (HOO.out k x hx).1 (HOO.out k x hx).2
      clear hx
      go_wp2_with (go_at_call 69; refine (l12Force_any _ _).mono ?_; rintro e w' ⟨rfl, rfl⟩)
      go_round
      case rel => exact ⟨k + 1, by omega, by go_num⟩
      case measure => simp [intOf]; omega
    · have : k = n := by omega
      subst this
      obtain ⟨⟨h3, h4⟩, h5⟩ := HR.out
      have hd := inB_true h3
      have hL := inB_true h4
      obtain ⟨hd0, hd1⟩ := hd
      obtain ⟨hl0, hl1⟩ := hL
      have hk20 : ¬ (20 : Int) < (k : Int) := by simp at h5; omega
      have hk20n : k ≤ 20 := by omega
      clear h5
      have hkk := lok hl
      have HK := Lib.hid hkk
      have m0 := hkk.m0
      have m1 := hkk.m1
      clear hkk
      go_wp2_with (first | (go_at_call 61; refine (l12Direction_any _ _).mono ?_; rintro e w' ⟨rfl, rfl⟩) | (go_at_call 80; refine (l12Length_any _ _).mono ?_; rintro e w' ⟨rfl, rfl⟩))
      go_loopw [11] (fun i wr => ∃ j : Nat, j ≤ k ∧ i = .int .i64 j ∧ Below w1.heap.size w1 wr) (fun i _ => k - (intOf i).toNat)
      case atStart => exact ⟨0, Nat.zero_le _, rfl, Below.refl _ _⟩
      case round =>
        obtain ⟨j, hj, rfl, hb⟩ := hrel
        by_cases hlj : j < k
        · have hji : (j : Int) < (k : Int) := by omega
          have hj0 : (0 : Int) ≤ (j : Int) := by omega
          obtain ⟨b, o, x, hA, hbl, hx, hc⟩ := H1.out.int hlj
          subst hA
          have hcx : wr.cell? ⟨b, o + j, none⟩ = some (.int .i64 x) := (hb.cell (p := ⟨b, o + j, none⟩) hbl).trans hc
          have hxr := HOO.out j x hx
          have hB := B1.below hb
          have cB := hB.cell
          have hs := stretch_bd HK.out.a0 HK.out.a1 HK.out.c0 HK.out.c1 hd0 hd1 hxr.1 hxr.2
          have hcs := fun W => l12Stretch_any a c s m d x W HK.out hd0 hd1 hxr.1 hxr.2
          have ht : ¬ 40 * m < stretchZ a c d x := by
            have := List.any_eq_false.1 HT.out x (List.mem_of_getElem? hx)
            unfold tearsB at this
            simpa using this
          generalize stretchZ a c d x = y at *
          have HCS := Lib.hid hcs
          have HX := Lib.hid hx
          obtain ⟨hs0, hs1⟩ := hs
          clear hcs hx hc hxr
          have hb' := hb
          go_wp2
          go_region_held3 (fun w' => (w'.cell? ⟨w.heap.size, 0, none⟩ = some (.int .i64 a) ∧ w'.cell? ⟨w.heap.size, 1, none⟩ = some (.int .i64 c) ∧ w'.cell? ⟨w.heap.size, 2, none⟩ = some (.int .i64 s) ∧ w'.cell? ⟨w.heap.size, 3, none⟩ = some (.int .i64 m)) ∧ w'.cell? ⟨b, o + j, none⟩ = some (.int .i64 x) ∧ Below wr.heap.size wr w') (first | exact ⟨⟨cB 0, cB 1, cB 2, cB 3⟩, hcx, (Below.refl _ _).drew⟩ | exact keep5 (by assumption) hb | go_keep)
            (first | (go_at_call 70; refine (HCS.out _).mono ?_; rintro e w' ⟨rfl, hb⟩))
          have hbb : Below wr.heap.size wr w' := (‹_ ∧ _ ∧ Below wr.heap.size wr w'›).2.2
          have b6 : Below w1.heap.size w1 w' := hb'.trans (hbb.mono hb'.size)
          rw [IntWalk.i64_in (40 * m) (by omega)]
          go_wp2
          go_roundw
          case rel => exact ⟨j + 1, by omega, by go_num, b6⟩
          case measure => simp [intOf]; omega
        · have : j = k := by omega
          subst this
          have b3 : Below w.heap.size w wr := b1.trans (hb.mono b1.size)
          have H3 := Lib.hid (H1.out.below hb)
          have B3 := B1.below hb
          obtain ⟨w3, rfl⟩ : ∃ w3 : World, w3 = wr := ⟨_, rfl⟩
          clear hb
          go_wp2_with fail
          have hown0 : (w3.alloc (.cells #[] 2)).ownsRow w3.heap.size 2 1 (.slice (some ⟨w3.heap.size, 0, none⟩) 0 0) 0 (ints []) := World.ownsRow_made w3 #[] 0 (Nat.le_refl _) (by unfold maxLen; omega) rfl
          go_loopw [2, 12, 13] (fun vl vo vi wr => ∃ (k : Nat) (L : Int) (acc : List Int) (O : Option Addr) (oc : Nat), k ≤ j ∧ vi = .int .i64 k ∧ vl = .int .i64 L ∧ 1 ≤ L ∧ L ≤ 10000 ∧ vo = .slice O k oc ∧ Hid (acc.length = k) ∧ Hid (runA a c s d (xs.drop k) L acc = R) ∧ wr.ownsRow w3.heap.size 2 1 (.slice O k oc) k (ints acc) ∧ Below w3.heap.size w3 wr) (fun _ _ vi _ => j - (intOf vi).toNat)
          case atStart => exact ⟨0, len, [], _, _, Nat.zero_le _, rfl, rfl, hl0, hl1, rfl, (show Hid _ from rfl), HRA, hown0, (Below.refl _ _).alloc (Nat.le_refl _) _⟩
          case round =>
            obtain ⟨k, L, acc, O, oc, hk, rfl, rfl, hL0, hL1, rfl, HA, HP, hown, hb⟩ := hrel
            by_cases hlt : k < j
            · have hki : (k : Int) < (j : Int) := by omega
              have hk0 : (0 : Int) ≤ (k : Int) := by omega
              obtain ⟨b, o, x, hA, hbl, hx, hc⟩ := H3.out.int hlt
              subst hA
              have hcx : wr.cell? ⟨b, o + k, none⟩ = some (.int .i64 x) := (hb.cell (p := ⟨b, o + k, none⟩) hbl).trans hc
              have hxr := HOO.out k x hx
              have hge := after_ge HK.out ⟨hd0, hd1⟩ ⟨hL0, hL1⟩ hxr
              have hca := fun W => specafter_any a c s m d L x W HK.out ⟨hd0, hd1⟩ ⟨hL0, hL1⟩ hxr
              have hP := HP.out
              rw [drop_cons hx] at hP
              unfold runA at hP
              generalize afterZ a c s d L x = y at *
              have HCA := Lib.hid hca
              have hB := B3.below hb
              have cB := hB.cell
              have hb' := hb
              have HOWN := Lib.hid hown
              clear hca hx hc hxr hown
              by_cases hy : 10000 < y
              · rw [if_pos hy] at hP
                subst hP
                go_wp2
                go_region_held3 (fun w' => (w'.cell? ⟨w.heap.size, 0, none⟩ = some (.int .i64 a) ∧ w'.cell? ⟨w.heap.size, 1, none⟩ = some (.int .i64 c) ∧ w'.cell? ⟨w.heap.size, 2, none⟩ = some (.int .i64 s) ∧ w'.cell? ⟨w.heap.size, 3, none⟩ = some (.int .i64 m)) ∧ w'.cell? ⟨b, o + k, none⟩ = some (.int .i64 x) ∧ Below wr.heap.size wr w') (first | exact ⟨⟨cB 0, cB 1, cB 2, cB 3⟩, hcx, (Below.refl _ _).drew⟩ | exact keep5 (by assumption) hb | go_keep)
                  (first | (go_at_call 81; refine (HCA.out _).mono ?_; rintro e w' ⟨rfl, hb⟩))
                have hbb : Below wr.heap.size wr w' := (‹_ ∧ _ ∧ Below wr.heap.size wr w'›).2.2
                have b6 : Below w3.heap.size w3 w' := hb'.trans (hbb.mono hb'.size)
                go_wp2
                go_ret2
                exact runPost_nil (b3.trans (b6.mono b3.size))
              · rw [if_neg hy] at hP
                have HP' := Lib.hid hP
                clear hP HP
                go_wp2
                go_region_held3 (fun w' => (w'.cell? ⟨w.heap.size, 0, none⟩ = some (.int .i64 a) ∧ w'.cell? ⟨w.heap.size, 1, none⟩ = some (.int .i64 c) ∧ w'.cell? ⟨w.heap.size, 2, none⟩ = some (.int .i64 s) ∧ w'.cell? ⟨w.heap.size, 3, none⟩ = some (.int .i64 m)) ∧ w'.cell? ⟨b, o + k, none⟩ = some (.int .i64 x) ∧ Below wr.heap.size wr w') (first | exact ⟨⟨cB 0, cB 1, cB 2, cB 3⟩, hcx, (Below.refl _ _).drew⟩ | exact keep5 (by assumption) hb | go_keep)
                  (first | (go_at_call 81; refine (HCA.out _).mono ?_; rintro e w' ⟨rfl, hb⟩))
                have hbb : Below wr.heap.size wr w' := (‹_ ∧ _ ∧ Below wr.heap.size wr w'›).2.2
                have b6 : Below w3.heap.size w3 w' := hb'.trans (hbb.mono hb'.size)
                have hown5 := own_below HOWN.out hbb
                have hs5 := b6.size
                have HO5 := Lib.hid (own_block hown5)
                go_wp2_with (at_builtin; refine wpList_append_own _ rfl (.tmp 76) (.tmp 78) 31 rfl w3.heap.size 2 i0 (.int .i64 0) 1 8 Try.underlying31 hi hz0 hz1 hz2 rfl (by decide) (Value.slice O k oc) _ _ rfl (hown5.alloc _) ⟨_, 0, none⟩ 1 1 [.int .i64 y] rfl rfl (cell_one_new _ _ _) (by intro u hu; simp at hu; subst hu; rfl) (by unfold maxLen; omega) (by omega) (by simp; omega) ?_; intro v' wa hown' hga hdel; clear hdel)
                have b7 : Below w3.heap.size w3 wa := (b6.alloc hs5 _).grown hga (by simp; omega) (fun j hj => (HO5.out j hj).1)
                rw [set_app] at hown'
                obtain ⟨g, oc', hv, _, _⟩ := own_form hown' (by omega)
                subst hv
                clear hga
                go_roundw
                case rel => exact ⟨k + 1, y, acc ++ [y], _, _, by omega, by go_num, rfl, by omega, by omega, rfl, (show Hid _ from by rw [List.length_append, HA.out]; rfl), HP'.out, hown', b7⟩
                case measure => simp [intOf]; omega
            · have : k = j := by omega
              subst this
              have hP := HP.out
              rw [List.drop_of_length_le (by rw [HL.out]; exact Nat.le_refl _)] at hP
              unfold runA at hP
              subst hP
              have b4 : Below w.heap.size w wr := b3.trans (hb.mono b3.size)
              have hown4 := own_base hown b3.size
              have HO4 := Lib.hid hown4
              clear hown hown4
              go_wp2
              go_ret2
              exact ⟨_, _, _, rfl, HO4.out, b4⟩

theorem specRunPulls_any (a c s m d len : Int) (A : Option Addr) (n cp : Nat) (xs : List Int) (w : World) (h : Rd w 1 A n cp (ints xs)) :
    Calls Try.prog 49 #[.agg #[.int .i64 a, .int .i64 c, .int .i64 s, .int .i64 m], .int .i64 d, .int .i64 len, .slice A n cp] w (RunPost w (runZ a c s m d len xs).1 (runZ a c s m d len xs).2) := by
  cases hl : leatherB a c s m with
  | false => exact specRunPulls_1 a c s m d len A n cp xs w hl
  | true =>
    cases ho : outB xs 0 1000 with
    | true => exact specRunPulls_out a c s m d len A n cp xs w hl ho h
    | false =>
      cases hr : (inB d 0 4 && inB len 1 10000 && decide (xs.length ≤ 20)) with
      | false => exact specRunPulls_rng a c s m d len A n cp xs w hl ho hr h
      | true =>
        cases ht : xs.any (tearsB a c m d) with
        | true => exact specRunPulls_tear a c s m d len A n cp xs w hl ho hr ht h
        | false => exact specRunPulls_ok a c s m d len A n cp xs w hl ho hr ht h
theorem implRunPulls_any (a c s m d len : Int) (A : Option Addr) (n cp : Nat) (xs : List Int) (w : World) (h : Rd w 1 A n cp (ints xs)) :
    Calls Try.prog 46 #[.agg #[.int .i64 a, .int .i64 c, .int .i64 s, .int .i64 m], .int .i64 d, .int .i64 len, .slice A n cp] w (RunPost w (runZ a c s m d len xs).1 (runZ a c s m d len xs).2) := by
  by_cases hz : codeZ a c s m d len 0 = 0
  · exact implRunPulls_ok a c s m d len A n cp xs w hz h
  · exact implRunPulls_bad a c s m d len A n cp xs w hz
end Go.Proofs.Ytdkklkpegnblnaa
