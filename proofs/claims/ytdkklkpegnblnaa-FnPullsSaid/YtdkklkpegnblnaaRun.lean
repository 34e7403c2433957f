/- RunPulls (program and reference). -/
import Derived.Test.YtdkklkpegnblnaaLea3
import Derived.Test.YtdkklkpegnblnaaSl
namespace Go.Proofs.Ytdkklkpegnblnaa
open Go.RowKit Go.Shelf

/-- The lengths after each force, put behind acc; none if one is too long. -/
def runA (a c s d : Int) : List Int → Int → List Int → Option (List Int)
  | [], _, acc => some acc
  | f :: fs, len, acc => if 10000 < afterZ a c s d len f then none else runA a c s d fs (afterZ a c s d len f) (acc ++ [afterZ a c s d len f])
def runEnd : Option (List Int) → List Int × Int
  | none => ([], 5)
  | some l => (l, 0)
def runZ (a c s m d len : Int) (fs : List Int) : List Int × Int :=
  if codeZ a c s m d len 0 = 0 then
    (if (decide (20 < fs.length) || outB fs 0 1000) = true then ([], 2) else if fs.any (tearsB a c m d) = true then ([], 10) else runEnd (runA a c s d fs len []))
  else ([], codeZ a c s m d len 0)
theorem after_ge {a c s m d len f : Int} (hk : LOk a c s m) (hd : 0 ≤ d ∧ d ≤ 4) (hlen : 1 ≤ len ∧ len ≤ 10000) (hf : 0 ≤ f ∧ f ≤ 1000) : len ≤ afterZ a c s d len f := by
  obtain ⟨⟨h1, _⟩, _, _⟩ := after_bd hk hd hlen hf
  unfold afterZ roundZ
  rw [Int.le_ediv_iff_mul_le (by omega)]
  have : len * 40000000 ≤ len * (40000000 + stretchZ a c d f * s) := Int.mul_le_mul_of_nonneg_left (by omega) (by omega)
  omega
theorem out_no {xs : List Int} {k : Nat} {x lo hi : Int} (h : outB xs lo hi = false) (hx : xs[k]? = some x) : lo ≤ x ∧ x ≤ hi := by
  unfold outB at h
  rw [List.any_eq_false] at h
  have := h x (List.mem_of_getElem? hx)
  exact inB_true (by simpa using this)
theorem drop_cons {xs : List Int} {k : Nat} {x : Int} (hx : xs[k]? = some x) : xs.drop k = x :: xs.drop (k + 1) := by
  obtain ⟨hk, rfl⟩ := List.getElem?_eq_some_iff.1 hx
  exact List.drop_eq_getElem_cons hk

set_option maxHeartbeats 1000000 in
theorem runPulls_pred (a c s m d : Int) (b1 b2 : Nat) (w : World) (hk : LOk a c s m) (hd : 0 ≤ d ∧ d ≤ 4) (hB : Box w b1 #[.int .i64 a, .int .i64 c, .int .i64 s, .int .i64 m]) (h2 : w.cell? ⟨b2, 0, none⟩ = some (.int .i64 d)) (W : World) (x : Int) (hb : Below w.heap.size w W) (hx : 0 ≤ x ∧ x ≤ 1000) :
    Calls Try.prog 84 #[.int .i64 x, .pointer (some ⟨b1, 0, none⟩), .pointer (some ⟨b2, 0, none⟩)] W fun e w' => e = .returned (.bool (tearsB a c m d x)) ∧ Below W.heap.size W w' := by
  have hl2 := World.block_lt_of_cell? _ _ h2
  have c1 := (hB.below hb).cell
  have c2 : W.cell? ⟨b2, 0, none⟩ = some (.int .i64 d) := (hb.cell (p := ⟨b2, 0, none⟩) hl2).trans h2
  clear h2 hb hB
  go_enter Try.func84, Try.ntmps84
  go_wp2_with fail
  refine (tears_any _ _ _ _ _ _ _ hk hd.1 hd.2 hx.1 hx.2).mono ?_
  rintro e w' ⟨rfl, hb⟩
  go_wp2_with fail
  go_ret
  exact ⟨rfl, hb⟩

theorem info_i64' : (Try.prog.info? 2).map (fun i => (i.zero, i.size, i.bytes)) = some (some (.int .i64 0), 1, 8) := by kernel_rfl
/-- What RunPulls hands back: a slice of its own that reads as xs, and a code. -/
def RunPost (w : World) (xs : List Int) (z : Int) (e : Ending) (w' : World) : Prop :=
  ∃ A n c, e = .returned (.tuple #[.slice A n c, .int .i64 z]) ∧ w'.ownsRow w.heap.size 2 1 (.slice A n c) n (ints xs) ∧ Below w.heap.size w w'
theorem runPost_nil {w w' : World} {z : Int} (hb : Below w.heap.size w w') : RunPost w [] z (.returned (.tuple #[.slice none 0 0, .int .i64 z])) w' :=
  ⟨none, 0, 0, rfl, World.ownsRow_nil _ _ _ _, hb⟩
theorem set_app (acc : List Int) (x : Int) : ints acc ++ [.int .i64 x] = ints (acc ++ [x]) := by simp [ints]

set_option maxHeartbeats 2000000 in
theorem implRunPulls_bad (a c s m d len : Int) (A : Option Addr) (n cp : Nat) (xs : List Int) (w : World) (hz : codeZ a c s m d len 0 ≠ 0) :
    Calls Try.prog 46 #[.agg #[.int .i64 a, .int .i64 c, .int .i64 s, .int .i64 m], .int .i64 d, .int .i64 len, .slice A n cp] w (RunPost w (runZ a c s m d len xs).1 (runZ a c s m d len xs).2) := by
  have b0 : Below w.heap.size w ((w.alloc (.cells #[.int .i64 a, .int .i64 c, .int .i64 s, .int .i64 m] 25)).alloc (.cells #[.int .i64 d] 2)) := (by go_grown)
  have hne : (codeZ a c s m d len 0 != 0) = true := by simpa using hz
  have e1 : runZ a c s m d len xs = ([], codeZ a c s m d len 0) := by unfold runZ; rw [if_neg hz]
  rw [e1]
  have hcall := fun W => leatherCode_any a c s m d len 0 W
  clear e1 hz
  generalize codeZ a c s m d len 0 = z at *
  have HC := Lib.hid hcall
  clear hcall
  go_enter Try.func46, Try.ntmps46
  go_wp2_with fail
  refine (HC.out _).mono ?_
  rintro e w1 ⟨rfl, hb1⟩
  have b1 := b0.trans (hb1.mono b0.size)
  go_wp2_with fail
  go_ret2
  exact runPost_nil b1

theorem tears0 {a c s m d : Int} (hk : LOk a c s m) : tearsB a c m d 0 = false := by
  have := hk.m0
  simp [tearsB, stretchZ]
  omega

set_option maxHeartbeats 4000000 in
theorem implRunPulls_ok (a c s m d len : Int) (A : Option Addr) (n cp : Nat) (xs : List Int) (w : World) (hz : codeZ a c s m d len 0 = 0) (h : Rd w 1 A n cp (ints xs)) :
    Calls Try.prog 46 #[.agg #[.int .i64 a, .int .i64 c, .int .i64 s, .int .i64 m], .int .i64 d, .int .i64 len, .slice A n cp] w (RunPost w (runZ a c s m d len xs).1 (runZ a c s m d len xs).2) := by
  obtain ⟨hk, hd, hlen, _, _⟩ := code_ok hz
  obtain ⟨i0, hi, hz0, hz1, hz2⟩ := info_parts info_i64'
  have b0 : Below w.heap.size w ((w.alloc (.cells #[.int .i64 a, .int .i64 c, .int .i64 s, .int .i64 m] 25)).alloc (.cells #[.int .i64 d] 2)) := (by go_grown)
  have B0 := (Box.new w #[.int .i64 a, .int .i64 c, .int .i64 s, .int .i64 m] 25).alloc (.cells #[.int .i64 d] 2)
  have D0 : Box ((w.alloc (.cells #[.int .i64 a, .int .i64 c, .int .i64 s, .int .i64 m] 25)).alloc (.cells #[.int .i64 d] 2)) (w.heap.size + 1) #[.int .i64 d] := by
    have := Box.new (w.alloc (.cells #[.int .i64 a, .int .i64 c, .int .i64 s, .int .i64 m] 25)) #[.int .i64 d] 2
    simpa using this
  have hl := h.ilen
  have h1 := h.cap
  have h2 := h.max
  have hcall := fun W => leatherCode_any a c s m d len 0 W
  rw [hz] at hcall
  have HC := Lib.hid hcall
  have H0 := Lib.hid (h.below b0)
  have HL := Lib.hid hl
  have HZ := Lib.hid hz
  have HK := Lib.hid hk
  clear hcall h hl hz
  obtain ⟨hd0, hd1⟩ := hd
  obtain ⟨hl0, hl1⟩ := hlen
  by_cases hn : 20 < n
  · have e1 : runZ a c s m d len xs = ([], 2) := by unfold runZ; rw [if_pos HZ.out, if_pos (by rw [HL.out]; simp [hn])]
    rw [e1]
    clear e1
    have hni : (20 : Int) < (n : Int) := by omega
    go_enter Try.func46, Try.ntmps46
    go_wp2_with fail
    refine (HC.out _).mono ?_
    rintro e w1 ⟨rfl, hb1⟩
    have b1 := b0.trans (hb1.mono b0.size)
    go_wp2_with fail
    go_ret2
    exact runPost_nil b1
  · have hni : ¬ (20 : Int) < (n : Int) := by omega
    have hnd : decide ((20 : Int) < (n : Int)) = false := by simpa using hni
    cases ho : outB xs 0 1000 with
    | true =>
      have e1 : runZ a c s m d len xs = ([], 2) := by unfold runZ; rw [if_pos HZ.out, if_pos (by rw [ho]; simp)]
      rw [e1]
      have HO := Lib.hid ho
      clear e1 ho
      go_enter Try.func46, Try.ntmps46
      go_wp2_with fail
      refine (HC.out _).mono ?_
      rintro e w1 ⟨rfl, hb1⟩
      have b1 := b0.trans (hb1.mono b0.size)
      have H1 := Lib.hid (H0.out.below hb1)
      go_wp2_with fail
      refine (outside_any A n cp xs 0 1000 _ H1.out).mono ?_
      rw [HO.out]
      rintro e w2 ⟨rfl, hb2⟩
      have b2 := b1.trans (hb2.mono b1.size)
      go_wp2_with fail
      go_ret2
      exact runPost_nil b2
    | false =>
      have hoo := fun k x (hx : xs[k]? = some x) => out_no ho hx
      have HOO := Lib.hid hoo
      have HO := Lib.hid ho
      clear hoo ho
      have eg : ∀ args w, (callFunc 84 args).run Try.prog w = .ok (.enter 84 args) w := enters_of Try.func84 (by kernel_rfl) rfl
      have HEG := Lib.hid eg
      clear eg
      have hcf := fun (W : World) (hB : Box W w.heap.size #[.int .i64 a, .int .i64 c, .int .i64 s, .int .i64 m]) (hD : Box W (w.heap.size + 1) #[.int .i64 d]) (hR : Rd W 1 A n cp (ints xs)) =>
        containsFunc_i64 84 #[.pointer (some ⟨w.heap.size, 0, none⟩), .pointer (some ⟨w.heap.size + 1, 0, none⟩)] HEG.out (tearsB a c m d) A n cp xs W hR
          (fun W' x hx hb => by
            obtain ⟨k, hk'⟩ := List.getElem?_of_mem hx
            exact runPulls_pred a c s m d w.heap.size (w.heap.size + 1) W HK.out ⟨hd0, hd1⟩ hB (hD.cell 0) W' x hb (HOO.out k x hk'))
      have HCF := Lib.hid hcf
      clear hcf
      cases ht : xs.any (tearsB a c m d) with
      | true =>
        have e1 : runZ a c s m d len xs = ([], 10) := by unfold runZ; rw [if_pos HZ.out, if_neg (by rw [HO.out, HL.out]; simp; omega), if_pos ht]
        rw [e1]
        have HT := Lib.hid ht
        clear e1 ht
        go_enter Try.func46, Try.ntmps46
        go_wp2_with fail
        refine (HC.out _).mono ?_
        rintro e w1 ⟨rfl, hb1⟩
        have b1 := b0.trans (hb1.mono b0.size)
        have B1 := B0.below hb1
        have D1 := D0.below hb1
        have H1 := Lib.hid (H0.out.below hb1)
        clear hb1 b0 B0 D0
        go_wp2_with fail
        refine (outside_any A n cp xs 0 1000 _ H1.out).mono ?_
        rw [HO.out]
        rintro e w2 ⟨rfl, hb2⟩
        have b2 := b1.trans (hb2.mono b1.size)
        have B2 := B1.below hb2
        have D2 := D1.below hb2
        have H2 := Lib.hid (H1.out.below hb2)
        clear hb2 b1 B1 D1 H1
        go_wp2_with fail
        refine (HCF.out _ B2 D2 H2.out).mono ?_
        rw [HT.out]
        rintro e w3 ⟨rfl, hb3⟩
        have b3 := b2.trans (hb3.mono b2.size)
        go_wp2_with fail
        go_ret2
        exact runPost_nil b3
      | false =>
        obtain ⟨R, hR⟩ : ∃ R, runA a c s d xs len [] = R := ⟨_, rfl⟩
        have e1 : runZ a c s m d len xs = runEnd R := by unfold runZ; rw [if_pos HZ.out, if_neg (by rw [HO.out, HL.out]; simp; omega), if_neg (by rw [ht]; simp), hR]
        rw [e1]
        have HR := Lib.hid hR
        have HT := Lib.hid ht
        clear e1 ht hR
        go_enter Try.func46, Try.ntmps46
        go_wp2_with fail
        refine (HC.out _).mono ?_
        rintro e w1 ⟨rfl, hb1⟩
        have b1 := b0.trans (hb1.mono b0.size)
        have B1 := B0.below hb1
        have D1 := D0.below hb1
        have H1 := Lib.hid (H0.out.below hb1)
        clear hb1 b0 B0 D0
        go_wp2_with fail
        refine (outside_any A n cp xs 0 1000 _ H1.out).mono ?_
        rw [HO.out]
        rintro e w2 ⟨rfl, hb2⟩
        have b2 := b1.trans (hb2.mono b1.size)
        have B2 := B1.below hb2
        have D2 := D1.below hb2
        have H2 := Lib.hid (H1.out.below hb2)
        clear hb2 b1 B1 D1 H1
        go_wp2_with fail
        refine (HCF.out _ B2 D2 H2.out).mono ?_
        rw [HT.out]
        rintro e w3 ⟨rfl, hb3⟩
        have b3 := b2.trans (hb3.mono b2.size)
        have B3 := B2.below hb3
        have D3 := D2.below hb3
        have H3 := Lib.hid (H2.out.below hb3)
        clear hb3 b2 B2 D2 H2 HCF HC
        go_wp2_with fail
        have hown0 : (w3.alloc (.cells #[] 2)).ownsRow w3.heap.size 2 1 (.slice (some ⟨w3.heap.size, 0, none⟩) 0 0) 0 (ints []) := World.ownsRow_made w3 #[] 0 (Nat.le_refl _) (by unfold maxLen; omega) rfl
        go_loopw [2, 11, 37] (fun vl vo vi wr => ∃ (k : Nat) (L : Int) (acc : List Int) (O : Option Addr) (oc : Nat), k ≤ n ∧ vi = .int .i64 k ∧ vl = .int .i64 L ∧ 1 ≤ L ∧ L ≤ 10000 ∧ vo = .slice O k oc ∧ Hid (acc.length = k) ∧ Hid (runA a c s d (xs.drop k) L acc = R) ∧ wr.ownsRow w3.heap.size 2 1 (.slice O k oc) k (ints acc) ∧ Below w3.heap.size w3 wr) (fun _ _ vi _ => n - (intOf vi).toNat)
        case atStart => exact ⟨0, len, [], _, _, Nat.zero_le _, rfl, rfl, hl0, hl1, rfl, (show Hid _ from rfl), HR, hown0, (Below.refl _ _).alloc (Nat.le_refl _) _⟩
        case round =>
          obtain ⟨k, L, acc, O, oc, hk, rfl, rfl, hL0, hL1, rfl, HA, HP, hown, hb⟩ := hrel
          by_cases hlt : k < n
          · have hki : (k : Int) < (n : Int) := by omega
            obtain ⟨b, o, x, hA, hbl, hx, hc⟩ := H3.out.int hlt
            subst hA
            have hcx : wr.cell? ⟨b, o + k, none⟩ = some (.int .i64 x) := (hb.cell (p := ⟨b, o + k, none⟩) hbl).trans hc
            have hxr := HOO.out k x hx
            have hge := after_ge HK.out ⟨hd0, hd1⟩ ⟨hL0, hL1⟩ hxr
            have hca := fun W => implafter_any a c s m d L x W HK.out ⟨hd0, hd1⟩ ⟨hL0, hL1⟩ hxr
            have hP := HP.out
            rw [drop_cons hx] at hP
            unfold runA at hP
            generalize afterZ a c s d L x = y at *
            have HCA := Lib.hid hca
            have hB := B3.below hb
            have hD := D3.below hb
            have cB := hB.cell
            have cD := hD.cell
            have hbs := hb.size
            clear hca hx hc hxr
            by_cases hy : 10000 < y
            · rw [if_pos hy] at hP
              subst hP
              go_wp2_with fail
              refine (HCA.out _).mono ?_
              rintro e w5 ⟨rfl, hb5⟩
              have b5 : Below w.heap.size w w5 := b3.trans ((hb.trans (hb5.mono hb.size)).mono b3.size)
              go_wp2_with fail
              go_ret2
              exact runPost_nil b5
            · rw [if_neg hy] at hP
              have HP' := Lib.hid hP
              clear hP HP
              go_wp2_with fail
              refine (HCA.out _).mono ?_
              rintro e w5 ⟨rfl, hb5⟩
              have b5 : Below w3.heap.size w3 w5 := hb.trans (hb5.mono hb.size)
              have hown5 := own_below hown hb5
              have hs5 := b5.size
              clear hb5 hown hb hB hD cB cD
              have HO5 := Lib.hid (own_block hown5)
              go_wp2_with (at_builtin; refine wpList_append_own _ rfl (.tmp 48) (.tmp 50) 31 rfl w3.heap.size 2 i0 (.int .i64 0) 1 8 Try.underlying31 hi hz0 hz1 hz2 rfl (by decide) (Value.slice O k oc) _ _ rfl (hown5.alloc _) ⟨_, 0, none⟩ 1 1 [.int .i64 y] rfl rfl (cell_one_new _ _ _) (by intro u hu; simp at hu; subst hu; rfl) (by unfold maxLen; omega) (by omega) (by simp; omega) ?_; intro v' wa hown' hga hdel; clear hdel)
              have b6 : Below w3.heap.size w3 wa := (b5.alloc hs5 _).grown hga (by simp; omega) (fun j hj => (HO5.out j hj).1)
              rw [set_app] at hown'
              obtain ⟨g, oc', hv, _, _⟩ := own_form hown' (by omega)
              subst hv
              clear hga
              go_roundw
              case rel => exact ⟨k + 1, y, acc ++ [y], _, _, by omega, by go_num, rfl, by omega, by omega, rfl, (show Hid _ from by rw [List.length_append, HA.out]; rfl), HP'.out, hown', b6⟩
              case measure => simp [intOf]; omega
          · have : k = n := by omega
            subst this
            have hP := HP.out
            rw [List.drop_of_length_le (by rw [HL.out]; exact Nat.le_refl _)] at hP
            unfold runA at hP
            subst hP
            have b4 : Below w.heap.size w wr := b3.trans (hb.mono b3.size)
            have hown4 := own_base hown b3.size
            have HO4 := Lib.hid hown4
            clear hown hown4
            go_wp2
            go_ret2
            exact ⟨_, _, _, rfl, HO4.out, b4⟩
end Go.Proofs.Ytdkklkpegnblnaa
