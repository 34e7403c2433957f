/- Valid pieces; all places of a piece; PlacesOf (program, reference). Printed by mkpc.py. -/
import Derived.Test.YtiibhejjeijdaaaDoorFt
import Derived.Test.YtiibhejjeijdaaaDoorWd
namespace Go.Proofs.YtiibhejjeijdaaaDoor
open Go.RowKit

/-- The first k numbers of which p holds. -/
def fil (p : Nat → Bool) : Nat → List Int
  | 0 => []
  | k + 1 => if p k = true then fil p k ++ [(k : Int)] else fil p k
theorem fil_yes {p : Nat → Bool} {k : Nat} (h : p k = true) : fil p (k + 1) = fil p k ++ [(k : Int)] := by
  show (if p k = true then _ else _) = _
  rw [if_pos h]
theorem fil_no {p : Nat → Bool} {k : Nat} (h : p k = false) : fil p (k + 1) = fil p k := by
  show (if p k = true then _ else _) = _
  rw [if_neg (by rw [h]; simp)]
theorem fil_len (p : Nat → Bool) : ∀ k, (fil p k).length ≤ k
  | 0 => Nat.le_refl _
  | k + 1 => by
    have := fil_len p k
    cases h : p k with
    | true => rw [fil_yes h]; simp; omega
    | false => rw [fil_no h]; omega
/-- The piece is valid. -/
def cutB (c : CutV) : Bool := inB c.wd 1 6 && (inB c.ht 1 6 && (inB c.ql 1 3 && inB c.wo 0 1000))
theorem cutB_true {c : CutV} (h : cutB c = true) : (1 ≤ c.wd ∧ c.wd ≤ 6) ∧ (1 ≤ c.ht ∧ c.ht ≤ 6) ∧ (1 ≤ c.ql ∧ c.ql ≤ 3) ∧ (0 ≤ c.wo ∧ c.wo ≤ 1000) := by
  unfold cutB at h
  rw [Bool.and_eq_true, Bool.and_eq_true, Bool.and_eq_true] at h
  exact ⟨inB_true h.1, inB_true h.2.1, inB_true h.2.2.1, inB_true h.2.2.2⟩
set_option maxRecDepth 100000 in
set_option maxHeartbeats 2000000 in
theorem validCut_any (c : CutV) (w : World) :
    Calls Tryd.prog 54 #[.agg #[.int .i64 c.wd, .int .i64 c.ht, .int .i64 c.ql, .int .i64 c.wo]] w fun e w' => e = .returned (.bool (cutB c)) ∧ Below w.heap.size w w' := by
  cases h1 : inB c.wd 1 6 with
  | false =>
    go_enter Tryd.func54, Tryd.ntmps54
    go_wp2_with (go_at_call 57; refine (within_any _ _ _ _).mono ?_; rintro e w' ⟨rfl, rfl⟩)
    go_ret
    exact ⟨by simp [cutB, *], (by go_grown)⟩
  | true =>
    cases h2 : inB c.ht 1 6 with
    | false =>
      go_enter Tryd.func54, Tryd.ntmps54
      go_wp2_with (go_at_call 57; refine (within_any _ _ _ _).mono ?_; rintro e w' ⟨rfl, rfl⟩)
      go_ret
      exact ⟨by simp [cutB, *], (by go_grown)⟩
    | true =>
      cases h3 : inB c.ql 1 3 with
      | false =>
        go_enter Tryd.func54, Tryd.ntmps54
        go_wp2_with (go_at_call 57; refine (within_any _ _ _ _).mono ?_; rintro e w' ⟨rfl, rfl⟩)
        go_ret
        exact ⟨by simp [cutB, *], (by go_grown)⟩
      | true =>
        cases h4 : inB c.wo 0 1000 with
        | false =>
          go_enter Tryd.func54, Tryd.ntmps54
          go_wp2_with (go_at_call 57; refine (within_any _ _ _ _).mono ?_; rintro e w' ⟨rfl, rfl⟩)
          go_ret
          exact ⟨by simp [cutB, *], (by go_grown)⟩
        | true =>
          go_enter Tryd.func54, Tryd.ntmps54
          go_wp2_with (go_at_call 57; refine (within_any _ _ _ _).mono ?_; rintro e w' ⟨rfl, rfl⟩)
          go_ret
          exact ⟨by simp [cutB, *], (by go_grown)⟩
set_option maxRecDepth 100000 in
set_option maxHeartbeats 2000000 in
theorem l10One_any (c : CutV) (w : World) :
    Calls Tryd.prog 61 #[.agg #[.int .i64 c.wd, .int .i64 c.ht, .int .i64 c.ql, .int .i64 c.wo]] w fun e w' => e = .returned (.bool (cutB c)) ∧ Below w.heap.size w w' := by
  cases h1 : inB c.wd 1 6 with
  | false =>
    go_enter Tryd.func61, Tryd.ntmps61
    go_wp2_with (go_at_call 59; refine (l00In_any _ _ _ _).mono ?_; rintro e w' ⟨rfl, rfl⟩)
    go_ret
    exact ⟨by simp [cutB, *], (by go_grown)⟩
  | true =>
    cases h2 : inB c.ht 1 6 with
    | false =>
      go_enter Tryd.func61, Tryd.ntmps61
      go_wp2_with (go_at_call 59; refine (l00In_any _ _ _ _).mono ?_; rintro e w' ⟨rfl, rfl⟩)
      go_ret
      exact ⟨by simp [cutB, *], (by go_grown)⟩
    | true =>
      cases h3 : inB c.ql 1 3 with
      | false =>
        go_enter Tryd.func61, Tryd.ntmps61
        go_wp2_with (go_at_call 59; refine (l00In_any _ _ _ _).mono ?_; rintro e w' ⟨rfl, rfl⟩)
        go_ret
        exact ⟨by simp [cutB, *], (by go_grown)⟩
      | true =>
        cases h4 : inB c.wo 0 1000 with
        | false =>
          go_enter Tryd.func61, Tryd.ntmps61
          go_wp2_with (go_at_call 59; refine (l00In_any _ _ _ _).mono ?_; rintro e w' ⟨rfl, rfl⟩)
          go_ret
          exact ⟨by simp [cutB, *], (by go_grown)⟩
        | true =>
          go_enter Tryd.func61, Tryd.ntmps61
          go_wp2_with (go_at_call 59; refine (l00In_any _ _ _ _).mono ?_; rintro e w' ⟨rfl, rfl⟩)
          go_ret
          exact ⟨by simp [cutB, *], (by go_grown)⟩

/-- All places of a piece. -/
noncomputable def plL (rs : List ByteArray) (n m H W : Nat) (ql : Int) : List Int := fil (fun f => fitB rs n m H W ql f) (n * m)
def PlPost (n : Nat) (L : List Int) (w : World) (e : Ending) (w' : World) : Prop := ∃ g c, n = L.length ∧ e = .returned (.slice (some ⟨g, 0, none⟩) n c) ∧ w'.ownsRow w.heap.size 2 1 (.slice (some ⟨g, 0, none⟩) n c) n (ints L) ∧ Below w.heap.size w w'
theorem prod36 {n m : Nat} (hn : n ≤ 6) (hm : m ≤ 6) : n * m ≤ 36 := Nat.mul_le_mul hn hm
set_option maxRecDepth 100000 in
set_option maxHeartbeats 4000000 in
theorem placesOf_any (A : Option Addr) (n c m W H : Nat) (ql wo : Int) (rs : List ByteArray) (w : World) (h : Rd w 1 A n c (txs rs)) (hg : Grid rs n m) (hW : W ≤ 6) (hH : H ≤ 6) :
    Calls Tryd.prog 55 #[.slice A n c, .agg #[.int .i64 W, .int .i64 H, .int .i64 ql, .int .i64 wo]] w (PlPost (plL rs n m H W ql).length (plL rs n m H W ql) w) := by
  obtain ⟨i0, hi, hz0, hz1, hz2⟩ := info_parts info_i64
  have h1 := h.cap
  have h2 := h.max
  have hbn := hg.bn
  have hbm := hg.bm
  have hp := prod36 hbn.2 hbm.2
  have hcall := fun f W0 (hf : f < n * m) (hh : Rd W0 1 A n c (txs rs)) => fieldsOf_any A n c m f W H ql wo rs W0 hh hg hf hW hH
  have hb0 : Below w.heap.size w (w.alloc (.cells #[.int .i64 W, .int .i64 H, .int .i64 ql, .int .i64 wo] 35)) := (Below.refl _ _).alloc (Nat.le_refl _) _
  have HX := Lib.hid (Box.new w #[.int .i64 W, .int .i64 H, .int .i64 ql, .int .i64 wo] 35)
  unfold plL
  have hfy := fun k h => fil_yes (p := fun f => fitB rs n m H W ql f) (k := k) h
  have hfn := fun k h => fil_no (p := fun f => fitB rs n m H W ql f) (k := k) h
  have hfl := fil_len (fun f => fitB rs n m H W ql f)
  have hpI0 : (n : Int) * (m : Int) = ((n * m : Nat) : Int) := by rw [Int.natCast_mul]
  have HSO := Lib.hid (sizeOf_any A n c m rs _ (h.below hb0) hg)
  obtain ⟨N, hN⟩ : ∃ N, n * m = N := ⟨_, rfl⟩
  rw [hN] at hcall hp hpI0
  rw [hN]
  generalize hPq : (fun f => fitB rs n m H W ql f) = P at *
  have hPf : ∀ f, fitB rs n m H W ql f = P f := fun f => by rw [← hPq]
  simp only [hPf] at hcall hfy hfn
  have HC := Lib.hid hcall
  have HFY := Lib.hid hfy
  have HFN := Lib.hid hfn
  have HFL := Lib.hid hfl
  have HH := Lib.hid h
  have HPI := Lib.hid hpI0
  clear h hg hcall hfy hfn hfl hPq hPf hN hpI0
  have HB0 := Lib.hid hb0
  clear hb0
  go_enter Tryd.func55, Tryd.ntmps55
  go_wp2_with fail
  refine (HSO.out).mono ?_
  rintro e w1 ⟨rfl, hb1⟩
  have HX1 := Lib.hid (HX.out.below hb1)
  have HB1 := Lib.hid (HB0.out.trans (hb1.mono HB0.out.size))
  have hs1 := HB1.out.size
  have ha : Below w1.heap.size w1 (w1.alloc (.cells #[] 2)) := (Below.refl _ _).alloc (Nat.le_refl _) _
  have ho0 : (w1.alloc (.cells #[] 2)).ownsRow w.heap.size 2 1 (.slice (some ⟨w1.heap.size, 0, none⟩) 0 0) 0 (ints []) := World.ownsRow_made w1 #[] 0 hs1 (by unfold maxLen; omega) rfl
  have HX2 := Lib.hid (HX1.out.below ha)
  have HB2 := Lib.hid (HB1.out.trans (ha.mono hs1))
  have HO2 := Lib.hid ho0
  have hne : w1.heap.size ≠ w.heap.size := by have := hb1.size; simp at this; omega
  clear hb1 ha ho0 HX HX1 HB1
  have hpI := HPI.out
  go_wp2
  go_loopw [7, 20] (fun vo vk wr => ∃ (k go co : Nat) (L : List Int), k ≤ N ∧ vk = .int .i64 k ∧ vo = .slice (some ⟨go, 0, none⟩) L.length co ∧ go ≠ w.heap.size ∧ Hid (fil P k = L) ∧ Hid (wr.ownsRow w.heap.size 2 1 (.slice (some ⟨go, 0, none⟩) L.length co) L.length (ints L)) ∧ Hid (Box wr w.heap.size #[.int .i64 W, .int .i64 H, .int .i64 ql, .int .i64 wo]) ∧ Hid (Below w.heap.size w wr)) (fun _ vk _ => N - (intOf vk).toNat)
  case atStart => exact ⟨0, _, _, [], Nat.zero_le _, rfl, rfl, hne, Lib.hid rfl, HO2, HX2, HB2⟩
  case round =>
    clear HO2 HX2 HB2
    obtain ⟨k, go, co, L, hk, rfl, rfl, hgo, HE, HO, HX, HB⟩ := hrel
    have hgb := (own_block HO.out go rfl)
    have hcap := (Rd.of_own HO.out).cap
    have hmax := (Rd.of_own HO.out).max
    have hs := HB.out.size
    have hfk := HFL.out k
    rw [HE.out] at hfk
    by_cases hlt : k < N
    · have hk0 : (0 : Int) ≤ (k : Int) := by omega
      have hk1 : (k : Int) < (N : Int) := by omega
      have hyes := HFY.out k
      have hno := HFN.out k
      rw [HE.out] at hyes hno
      generalize hL2q : fil P (k + 1) = L2 at *
      have HE2 := Lib.hid hL2q
      clear hL2q
      have hcl := HC.out k wr hlt (HH.out.below HB.out)
      have k0 := HX.out.cell 0
      have k1 := HX.out.cell 1
      have k2 := HX.out.cell 2
      have k3 := HX.out.cell 3
      simp at k0 k1 k2 k3
      generalize P k = q at *
      have HYS := Lib.hid hyes
      have HNO := Lib.hid hno
      have HCL := Lib.hid hcl
      clear hyes hno hcl
      cases q with
      | false =>
        have hL := HNO.out (by trivial)
        subst hL
        go_wp2_with fail
        refine (HCL.out).mono ?_
        rintro e w3 ⟨S, rfl, _, _, hb3⟩
        have HO3 := Lib.hid (own_below HO.out hb3)
        have HX3 := Lib.hid (HX.out.below hb3)
        have HB3 := Lib.hid (HB.out.trans (hb3.mono hs))
        clear hb3
        go_wp2
        go_roundw
        case rel => exact ⟨k + 1, go, co, _, by omega, by go_num, rfl, hgo, HE2, HO3, HX3, HB3⟩
        case measure => simp [intOf]; omega
      | true =>
        have hL := HYS.out (by trivial)
        have hL1 : L2.length = L.length + 1 := by rw [hL]; simp
        have hL2 : ints L ++ [.int .i64 (k : Int)] = ints L2 := by rw [hL, ints_snoc]
        have HL1 := Lib.hid hL1
        have HL2 := Lib.hid hL2
        clear hL
        go_wp2_with fail
        refine (HCL.out).mono ?_
        rintro e w3 ⟨S, rfl, _, _, hb3⟩
        have HO3 := Lib.hid (own_below HO.out hb3)
        have HX3 := Lib.hid (HX.out.below hb3)
        have HB3 := Lib.hid (HB.out.trans (hb3.mono hs))
        have hs3 := HB3.out.size
        have hgo3 := (own_block HO3.out go rfl)
        have hxl := HX3.out.lt
        clear hb3
        go_wp2_with (at_builtin; refine wpList_append_own_at _ rfl (.tmp 31) (.tmp 33) 36 rfl w.heap.size 2 i0 (.int .i64 0) 1 8 Tryd.underlying36 hi hz0 hz1 hz2 rfl (by decide) (Value.slice (some ⟨go, 0, none⟩) L.length co) _ _ rfl (HO3.out.alloc _) ⟨_, 0, none⟩ 1 1 [.int .i64 k] rfl rfl (cell_one_new _ _ _) (by intro u hu; simp at hu; subst hu; rfl) (by unfold maxLen; omega) (by omega) (by simp; omega) ?_; intro v' wa hown' hga hdel hblk; clear hdel)
        have hal : Below w3.heap.size w3 (w3.alloc (.cells #[.int .i64 k] 2)) := (Below.refl _ _).alloc (Nat.le_refl _) _
        obtain ⟨g3, d3, hv, hg3, _⟩ := own_form hown' (by omega)
        have hgo4 : g3 ≠ w.heap.size := by
          rw [hv] at hblk
          rcases hblk with e | e
          · simp [Value.ownBlock] at e; omega
          · simp [Value.ownBlock] at e; omega
        have b3 : Below w.heap.size w wa := (HB3.out.trans (hal.mono hs3)).grown hga (by simp; omega) (fun j hj => by simp [Value.ownBlock] at hj; omega)
        have hx4 : Box wa w.heap.size #[.int .i64 W, .int .i64 H, .int .i64 ql, .int .i64 wo] := by
          have hX := HX3.out.below hal
          refine ⟨fun k => ?_, fun k => ?_, Nat.lt_of_lt_of_le hX.lt hga.size⟩
          · exact (World.cell?_of_block (hga.block w.heap.size hX.lt (by simp [Value.ownBlock]; exact fun e => hgo e.symm))).trans (hX.cell k)
          · exact (World.frozen?_of_block (hga.block w.heap.size hX.lt (by simp [Value.ownBlock]; exact fun e => hgo e.symm))).trans (hX.froz k)
        rw [HL2.out] at hown'
        subst hv
        have HO4 := Lib.hid hown'
        have HB4 := Lib.hid b3
        have HX4 := Lib.hid hx4
        clear hown' hga hal b3 hx4 hblk
        go_wp2
        go_roundw
        case rel => exact ⟨k + 1, g3, d3, L2, by omega, by go_num, by rw [HL1.out], hgo4, HE2, (by rw [HL1.out]; exact HO4), HX4, HB4⟩
        case measure => simp [intOf]; omega
    · have hkn : N = k := by omega
      subst hkn
      have hE := HE.out
      subst hE
      go_wp2
      go_ret
      exact ⟨_, _, rfl, rfl, HO.out, HB.out⟩

set_option maxRecDepth 100000 in
set_option maxHeartbeats 4000000 in
theorem l10Places_any (A : Option Addr) (n c m W H : Nat) (ql wo : Int) (rs : List ByteArray) (w : World) (h : Rd w 1 A n c (txs rs)) (hg : Grid rs n m) (hW : W ≤ 6) (hH : H ≤ 6) :
    Calls Tryd.prog 60 #[.slice A n c, .agg #[.int .i64 W, .int .i64 H, .int .i64 ql, .int .i64 wo]] w (PlPost (plL rs n m H W ql).length (plL rs n m H W ql) w) := by
  obtain ⟨i0, hi, hz0, hz1, hz2⟩ := info_parts info_i64
  have h1 := h.cap
  have h2 := h.max
  have hbn := hg.bn
  have hbm := hg.bm
  have hp := prod36 hbn.2 hbm.2
  have hcall := fun f W0 (hf : f < n * m) (hh : Rd W0 1 A n c (txs rs)) => l10Fits_any A n c m f W H ql wo rs W0 hh hg hf hW hH
  have hb0 : Below w.heap.size w (w.alloc (.cells #[.int .i64 W, .int .i64 H, .int .i64 ql, .int .i64 wo] 35)) := (Below.refl _ _).alloc (Nat.le_refl _) _
  have HX := Lib.hid (Box.new w #[.int .i64 W, .int .i64 H, .int .i64 ql, .int .i64 wo] 35)
  unfold plL
  have hfy := fun k h => fil_yes (p := fun f => fitB rs n m H W ql f) (k := k) h
  have hfn := fun k h => fil_no (p := fun f => fitB rs n m H W ql f) (k := k) h
  have hfl := fil_len (fun f => fitB rs n m H W ql f)
  have hpI0 : (n : Int) * (m : Int) = ((n * m : Nat) : Int) := by rw [Int.natCast_mul]
  have hn0 : 0 < n := by omega
  have hn0I : (0 : Int) < (n : Int) := by omega
  obtain ⟨b0, o0, r0, hA0, hbl0, hx0, cc0⟩ := h.txt hn0
  rw [Nat.add_zero] at cc0
  have hsz0 := hg.sz 0 r0 hx0
  have hsI : (r0.size : Int) = (m : Int) := by omega
  have hpI2 : (n : Int) * (r0.size : Int) = ((n * m : Nat) : Int) := by rw [hsI]; exact hpI0
  obtain ⟨N, hN⟩ : ∃ N, n * m = N := ⟨_, rfl⟩
  rw [hN] at hcall hp hpI0
  rw [hN]
  rw [hN] at hpI2
  subst hA0
  generalize hPq : (fun f => fitB rs n m H W ql f) = P at *
  have hPf : ∀ f, fitB rs n m H W ql f = P f := fun f => by rw [← hPq]
  simp only [hPf] at hcall hfy hfn
  have HC := Lib.hid hcall
  have HFY := Lib.hid hfy
  have HFN := Lib.hid hfn
  have HFL := Lib.hid hfl
  have HH := Lib.hid h
  have HPI := Lib.hid hpI0
  clear h hg hcall hfy hfn hfl hPq hPf hN hpI0 hx0 hsz0 hsI
  have hw1 : (w.alloc (.cells #[.int .i64 W, .int .i64 H, .int .i64 ql, .int .i64 wo] 35)).heap.size = w.heap.size + 1 := by simp
  have ha : Below (w.alloc (.cells #[.int .i64 W, .int .i64 H, .int .i64 ql, .int .i64 wo] 35)).heap.size (w.alloc (.cells #[.int .i64 W, .int .i64 H, .int .i64 ql, .int .i64 wo] 35)) ((w.alloc (.cells #[.int .i64 W, .int .i64 H, .int .i64 ql, .int .i64 wo] 35)).alloc (.cells #[] 2)) := (Below.refl _ _).alloc (Nat.le_refl _) _
  have ho0 := World.ownsRow_made (base := w.heap.size) (e := 2) (size := 1) (w.alloc (.cells #[.int .i64 W, .int .i64 H, .int .i64 ql, .int .i64 wo] 35)) #[] 0 (by simp) (by unfold maxLen; omega) rfl
  rw [hw1] at ho0
  have HX2 := Lib.hid (HX.out.below ha)
  have HB2 := Lib.hid (hb0.trans (ha.mono hb0.size))
  have HO2 : Hid (World.ownsRow _ w.heap.size 2 1 (.slice (some ⟨w.heap.size + 1, 0, none⟩) 0 0) 0 (ints [])) := Lib.hid ho0
  have C0 := Lib.hid cc0
  have HP2 := Lib.hid hpI2
  clear hb0 ha ho0 HX hw1 cc0 hpI2
  go_enter Tryd.func60, Tryd.ntmps60
  go_wp2
  go_loopw [5, 6] (fun vo vk wr => ∃ (k go co : Nat) (L : List Int), k ≤ N ∧ vk = .int .i64 k ∧ vo = .slice (some ⟨go, 0, none⟩) L.length co ∧ go ≠ w.heap.size ∧ Hid (fil P k = L) ∧ Hid (wr.ownsRow w.heap.size 2 1 (.slice (some ⟨go, 0, none⟩) L.length co) L.length (ints L)) ∧ Hid (Box wr w.heap.size #[.int .i64 W, .int .i64 H, .int .i64 ql, .int .i64 wo]) ∧ Hid (Below w.heap.size w wr)) (fun _ vk _ => N - (intOf vk).toNat)
  case atStart => exact ⟨0, _, _, [], Nat.zero_le _, rfl, rfl, by omega, Lib.hid rfl, HO2, HX2, HB2⟩
  case round =>
    clear HO2 HX2 HB2
    obtain ⟨k, go, co, L, hk, rfl, rfl, hgo, HE, HO, HX, HB⟩ := hrel
    have hgb := (own_block HO.out go rfl)
    have hcap := (Rd.of_own HO.out).cap
    have hmax := (Rd.of_own HO.out).max
    have hs := HB.out.size
    have hfk := HFL.out k
    rw [HE.out] at hfk
    have c00 := cell_belT C0.out HB.out
    have hpI2 := HP2.out
    by_cases hlt : k < N
    · have hk0 : (0 : Int) ≤ (k : Int) := by omega
      have hk1 : (k : Int) < (N : Int) := by omega
      have hyes := HFY.out k
      have hno := HFN.out k
      rw [HE.out] at hyes hno
      generalize hL2q : fil P (k + 1) = L2 at *
      have HE2 := Lib.hid hL2q
      clear hL2q
      have hcl := HC.out k wr hlt (HH.out.below HB.out)
      have k0 := HX.out.cell 0
      have k1 := HX.out.cell 1
      have k2 := HX.out.cell 2
      have k3 := HX.out.cell 3
      simp at k0 k1 k2 k3
      generalize P k = q at *
      have HYS := Lib.hid hyes
      have HNO := Lib.hid hno
      have HCL := Lib.hid hcl
      clear hyes hno hcl
      cases q with
      | false =>
        have hL := HNO.out (by trivial)
        subst hL
        go_wp2_with fail
        refine (HCL.out).mono ?_
        rintro e w3 ⟨rfl, hb3⟩
        have HO3 := Lib.hid (own_below HO.out hb3)
        have HX3 := Lib.hid (HX.out.below hb3)
        have HB3 := Lib.hid (HB.out.trans (hb3.mono hs))
        clear hb3
        go_wp2
        go_roundw
        case rel => exact ⟨k + 1, go, co, _, by omega, by go_num, rfl, hgo, HE2, HO3, HX3, HB3⟩
        case measure => simp [intOf]; omega
      | true =>
        have hL := HYS.out (by trivial)
        have hL1 : L2.length = L.length + 1 := by rw [hL]; simp
        have hL2 : ints L ++ [.int .i64 (k : Int)] = ints L2 := by rw [hL, ints_snoc]
        have HL1 := Lib.hid hL1
        have HL2 := Lib.hid hL2
        clear hL
        go_wp2_with fail
        refine (HCL.out).mono ?_
        rintro e w3 ⟨rfl, hb3⟩
        have HO3 := Lib.hid (own_below HO.out hb3)
        have HX3 := Lib.hid (HX.out.below hb3)
        have HB3 := Lib.hid (HB.out.trans (hb3.mono hs))
        have hs3 := HB3.out.size
        have hgo3 := (own_block HO3.out go rfl)
        have hxl := HX3.out.lt
        clear hb3
        go_wp2_with (at_builtin; refine wpList_append_own_at _ rfl (.tmp 23) (.tmp 25) 36 rfl w.heap.size 2 i0 (.int .i64 0) 1 8 Tryd.underlying36 hi hz0 hz1 hz2 rfl (by decide) (Value.slice (some ⟨go, 0, none⟩) L.length co) _ _ rfl (HO3.out.alloc _) ⟨_, 0, none⟩ 1 1 [.int .i64 k] rfl rfl (cell_one_new _ _ _) (by intro u hu; simp at hu; subst hu; rfl) (by unfold maxLen; omega) (by omega) (by simp; omega) ?_; intro v' wa hown' hga hdel hblk; clear hdel)
        have hal : Below w3.heap.size w3 (w3.alloc (.cells #[.int .i64 k] 2)) := (Below.refl _ _).alloc (Nat.le_refl _) _
        obtain ⟨g3, d3, hv, hg3, _⟩ := own_form hown' (by omega)
        have hgo4 : g3 ≠ w.heap.size := by
          rw [hv] at hblk
          rcases hblk with e | e
          · simp [Value.ownBlock] at e; omega
          · simp [Value.ownBlock] at e; omega
        have b3 : Below w.heap.size w wa := (HB3.out.trans (hal.mono hs3)).grown hga (by simp; omega) (fun j hj => by simp [Value.ownBlock] at hj; omega)
        have hx4 : Box wa w.heap.size #[.int .i64 W, .int .i64 H, .int .i64 ql, .int .i64 wo] := by
          have hX := HX3.out.below hal
          refine ⟨fun k => ?_, fun k => ?_, Nat.lt_of_lt_of_le hX.lt hga.size⟩
          · exact (World.cell?_of_block (hga.block w.heap.size hX.lt (by simp [Value.ownBlock]; exact fun e => hgo e.symm))).trans (hX.cell k)
          · exact (World.frozen?_of_block (hga.block w.heap.size hX.lt (by simp [Value.ownBlock]; exact fun e => hgo e.symm))).trans (hX.froz k)
        rw [HL2.out] at hown'
        subst hv
        have HO4 := Lib.hid hown'
        have HB4 := Lib.hid b3
        have HX4 := Lib.hid hx4
        clear hown' hga hal b3 hx4 hblk
        go_wp2
        go_roundw
        case rel => exact ⟨k + 1, g3, d3, L2, by omega, by go_num, by rw [HL1.out], hgo4, HE2, (by rw [HL1.out]; exact HO4), HX4, HB4⟩
        case measure => simp [intOf]; omega
    · have hkn : N = k := by omega
      subst hkn
      have hE := HE.out
      subst hE
      go_wp2
      go_ret
      exact ⟨_, _, rfl, rfl, HO.out, HB.out⟩

end Go.Proofs.YtiibhejjeijdaaaDoor
