/- OpText (program and reference), and its law. -/
import Derived.Test.YtgghjieeckkpbaaDoorOt
import Derived.Test.YtgghjieeckkpbaaDoorLaw
import Derived.Test.YtgghjieeckkpbaaDoorOpB
namespace Go.Proofs.YtgghjieeckkpbaaDoor
open Go.RowKit Go.Shelf

theorem keepOP {w0 wr w' : World} {p q : Addr} {x y : Value} (hh : wr.cell? p = some x ∧ wr.cell? q = some y ∧ Below w0.heap.size w0 wr) (hb : Below wr.heap.size wr w') : w'.cell? p = some x ∧ w'.cell? q = some y ∧ Below w0.heap.size w0 w' :=
  ⟨(hb.cell (p := p) (World.block_lt_of_cell? _ _ hh.1)).trans hh.1, (hb.cell (p := q) (World.block_lt_of_cell? _ _ hh.2.1)).trans hh.2.1, hh.2.2.trans (hb.mono hh.2.2.size)⟩
/-- The text while it grows. -/
structure TxR (ops : List OpV) (p : OpV) (m n : Nat) (R : Nat → ByteArray) : Prop where
  at0 : R 0 = ((p.nm ++ ⟨#[32]⟩) ++ dk p.mn) ++ ⟨#[109, 105, 110]⟩
  atn : R m = opBody ops p
  s0 : ∀ (x : Nat) (q : OpV), p.bf[0]? = some (x : Int) → ops[x]? = some q → R 1 = (R 0 ++ ⟨#[32, 97, 102, 116, 101, 114, 32]⟩) ++ q.nm
  s1 : ∀ (j x : Nat) (q : OpV), 0 < j → p.bf[j]? = some (x : Int) → ops[x]? = some q → R (j + 1) = (R j ++ ⟨#[44]⟩) ++ q.nm
  sz : ∀ j, (R j).size ≤ 211
  nm : ∀ (x : Nat) (q : OpV), ops[x]? = some q → q.nm.size ≤ 12
  inn : ∀ (j : Nat) (x : Int), p.bf[j]? = some x → 0 ≤ x ∧ x < n
theorem txR {ops : List OpV} {n k m : Nat} {p : OpV} (h : OOk ops) (hl : ops.length = n) (hp : ops[k]? = some p) (hm : p.bf.length = m) : ∃ R, TxR ops p m n R := by
  have hat : ∀ {x : Nat} {q : OpV}, ops[x]? = some q → ops[((x : Int)).toNat]? = some q := fun h => h
  refine ⟨fun j => tlT (opBase p) ((p.bf.take j).map (nmAt ops)), ⟨rfl, ?_, fun x q hx hq => ?_, fun j x q hj hx hq => ?_, fun j => tail_size h hp j, fun x q hq => nm_len h hq, fun j x hx => by have := bfx_at h hp hx; omega⟩⟩
  · show tlT (opBase p) ((p.bf.take m).map (nmAt ops)) = _
    rw [List.take_of_length_le (by omega)]
    rfl
  · show tlT (opBase p) ((p.bf.take (0 + 1)).map (nmAt ops)) = _
    rw [names_take hx (hat hq)]
    exact tlT_first _ _
  · show tlT (opBase p) ((p.bf.take (j + 1)).map (nmAt ops)) = _
    rw [names_take hx (hat hq)]
    refine tlT_next _ _ (fun e => ?_)
    have h1 := congrArg List.length e
    have h2 := (List.getElem?_eq_some_iff.1 hx).1
    rw [List.length_map, List.length_take, List.length_nil] at h1
    omega

set_option maxRecDepth 100000 in
set_option maxHeartbeats 8000000 in
theorem specOpText_any (A : Option Addr) (n c : Nat) (ops : List OpV) (z : Int) (w : World) (h : RdO w A n c ops) :
    Calls Tryd.prog 6 #[.slice A n c, .int .i64 z] w fun e w' => e = .returned (.string (opT ops z)) ∧ Below w.heap.size w w' := by
  have hl := h.len
  have h1 := h.cap
  have h2 := h.max
  have hcall := l13Ok_any A n c ops w h
  by_cases hq : okO ops = true
  · have hok := okO_true hq
    have hn14 := hok.len
    rw [hl] at hn14
    rw [hq] at hcall
    have HC := Lib.hid hcall
    cases hz : inB z 0 ((n : Int) - 1) with
    | false =>
      have hin := fun W => l00In_any z 0 ((n : Int) - 1) W
      rw [hz] at hin
      have HI := Lib.hid hin
      rw [opT_no2 hq (by rw [hl]; exact hz)]
      clear hcall h hq hok hl hz hin
      go_enter Tryd.func6, Tryd.ntmps6
      go_wp2_with fail
      refine (HC.out).mono ?_
      rintro e w1 ⟨rfl, hb1⟩
      go_wp2_with (go_at_call 32; refine (HI.out _).mono ?_; rintro e w' ⟨rfl, rfl⟩)
      go_ret
      exact ⟨rfl, hb1⟩
    | true =>
      have hzb := inB_true hz
      obtain ⟨k, rfl⟩ := Int.eq_ofNat_of_zero_le hzb.1
      have hkn : k < n := by omega
      have hin := fun W => l00In_any (k : Int) 0 ((n : Int) - 1) W
      rw [hz] at hin
      obtain ⟨p, b, o, B, m, d, hp, hps, hA, hbl, c0, c1, c2, hr⟩ := h.op hkn
      subst hA
      rw [opT_yes (k := (k : Int)) hq (by rw [hl]; exact hz) hp]
      have hrl := hr.ilen
      have hmn := mn_le hok hp
      have hnm := nm_len hok hp
      have hdk := dk_size (z := p.mn) (by omega)
      obtain ⟨R, hR⟩ := txR hok hl hp hrl
      rw [← hR.atn]
      have hm1 := hr.cap
      have hm2 := hr.max
      have hR0 := hR.at0
      have hdec := fun W => decS_any p.mn W hmn.1 (by omega)
      have HDEC := Lib.hid hdec
      have HR := Lib.hid hR
      have HR0 := Lib.hid hR0
      have HI := Lib.hid hin
      have H := Lib.hid h
      have HB := Lib.hid hr
      have hk0 : (0 : Int) ≤ (k : Int) := by omega
      have hk1 : (k : Int) < (n : Int) := by omega
      have hq1 : ¬ 9223372036854775807 < p.nm.size + 1 := by omega
      have hq2 : ¬ 9223372036854775806 < p.nm.size := by omega
      have hq3 : ¬ 9223372036854775807 < p.nm.size + 1 + (dk p.mn).size := by omega
      have hq4 : ¬ 9223372036854775807 < p.nm.size + 1 + (dk p.mn).size + 3 := by omega
      have hq5 : ¬ 9223372036854775804 < p.nm.size + 1 + (dk p.mn).size := by omega
      clear hcall h hq hok hl hz hin hp hr hR hR0 hdec
      go_enter Tryd.func6, Tryd.ntmps6
      go_wp2_with fail
      refine (HC.out).mono ?_
      rintro e w1 ⟨rfl, hb1⟩
      have Hb1 := Lib.hid hb1
      have k0 := cell_bel c0 hb1
      have k1 := cell_bel c1 hb1
      have k2 := cell_bel c2 hb1
      have hs1 := hb1.size
      clear hb1 c0 c1 c2
      go_wp2_with (go_at_call 32; refine (HI.out _).mono ?_; rintro e w' ⟨rfl, rfl⟩)
      go_region_held3 (fun w' => w'.cell? ⟨b, o + k * 3, none⟩ = some (.string p.nm) ∧ w'.cell? ⟨b, o + k * 3 + 1, none⟩ = some (.int .i64 p.mn) ∧ Below w1.heap.size w1 w')
        (first | exact ⟨k0, k1, (Below.refl _ _).drew⟩ | exact keepOP (by assumption) hb | go_keep)
        (first | (go_at_call 33; refine (HDEC.out _).mono ?_; rintro e w' ⟨rfl, hb⟩))
      have hbb : Below w1.heap.size w1 w' := (‹_ ∧ _ ∧ Below w1.heap.size w1 w'›).2.2
      have b3 := Lib.hid (Hb1.out.trans (hbb.mono hs1))
      have k3 := cell_bel k2 hbb
      clear k0 k1 k2 hq1 hq2 hq3 hq4 hq5 HDEC hnm hdk hmn hps hbb hb
      clear ‹_ ∧ _ ∧ Below w1.heap.size w1 w'›
      go_wp2
      rw [← HR0.out]
      go_loopw [5, 7] (fun vs vi wr => ∃ j : Nat, j ≤ m ∧ vi = .int .i64 j ∧ vs = .string (R j) ∧ w' = wr) (fun _ vi _ => m - (intOf vi).toNat)
      case atStart => exact ⟨0, Nat.zero_le _, rfl, rfl, rfl⟩
      case round =>
        obtain ⟨j, hj, rfl, rfl, hwe⟩ := hrel
        subst hwe
        clear k3
        by_cases hlt : j < m
        · obtain ⟨b2, o2, x, hB2, hbl2, hx, hcx⟩ := (HB.out.below b3.out).int hlt
          subst hB2
          have hxi := HR.out.inn j x hx
          obtain ⟨x, rfl⟩ := Int.eq_ofNat_of_zero_le hxi.1
          have hxn : x < n := by omega
          obtain ⟨q, b4, o4, _, _, _, hq, _, hA4, _, d0, _, _, _⟩ := (H.out.below b3.out).op hxn
          injection hA4 with hA4
          injection hA4 with e1 e2
          subst e1
          subst e2
          have hqn := HR.out.nm x q hq
          have hsz := HR.out.sz j
          have hx0 : (0 : Int) ≤ (x : Int) := by omega
          have hx1 : (x : Int) < (n : Int) := by omega
          have hj0 : (0 : Int) ≤ (j : Int) := by omega
          have hj1 : (j : Int) < (m : Int) := by omega
          by_cases hz : j = 0
          · subst hz
            have hst := HR.out.s0 x q hx hq
            generalize R 0 = R0 at *
            rw [Nat.add_zero] at hcx
            have hm0 : (0 : Int) < (m : Int) := by omega
            have hq1 : ¬ 9223372036854775807 < R0.size + 7 := by omega
            have hq2 : ¬ 9223372036854775800 < R0.size := by omega
            have hq3 : ¬ 9223372036854775807 < R0.size + 7 + q.nm.size := by omega
            clear hx hq HR0
            go_wp2
            rw [← hst]
            go_roundw
            case rel => exact ⟨1, by omega, by go_num, rfl, by first | trivial | rfl⟩
            case measure => simp [intOf]; omega
          · have hst := HR.out.s1 j x q (by omega) hx hq
            generalize R j = R0 at *
            have hd1 : ((j : Int) == 0) = false := by simp; omega
            have hq1 : ¬ 9223372036854775807 < R0.size + 1 := by omega
            have hq2 : ¬ 9223372036854775806 < R0.size := by omega
            have hq3 : ¬ 9223372036854775807 < R0.size + 1 + q.nm.size := by omega
            clear hx hq HR0
            go_wp2
            rw [← hst]
            go_roundw
            case rel => exact ⟨j + 1, by omega, by go_num, rfl, by first | trivial | rfl⟩
            case measure => simp [intOf]; omega
        · obtain rfl : j = m := by omega
          go_wp2
          go_ret
          exact ⟨rfl, b3.out⟩
  · have hq' : okO ops = false := by simpa using hq
    rw [opT_no1 hq']
    rw [hq'] at hcall
    have HC := Lib.hid hcall
    clear hcall h hq hq' hl
    go_enter Tryd.func6, Tryd.ntmps6
    go_wp2_with fail
    refine (HC.out).mono ?_
    rintro e w1 ⟨rfl, hb1⟩
    go_wp2
    go_ret
    exact ⟨rfl, hb1⟩

/-- The names of the first j. -/
def nmL (ops : List OpV) (p : OpV) (j : Nat) : List ByteArray := (p.bf.take j).map (nmAt ops)
theorem nmL_step {ops : List OpV} {p : OpV} {j x : Nat} {q : OpV} (hx : p.bf[j]? = some (x : Int)) (hq : ops[x]? = some q) : txs (nmL ops p j) ++ [.string q.nm] = txs (nmL ops p (j + 1)) := by
  unfold nmL
  rw [names_take hx (show ops[((x : Int)).toNat]? = some q from hq), txs_append]
  rfl
theorem nmL_all {ops : List OpV} {p : OpV} {m : Nat} (hm : p.bf.length = m) : nmL ops p m = p.bf.map (nmAt ops) := by
  unfold nmL
  rw [List.take_of_length_le (by omega)]
set_option maxRecDepth 100000 in
set_option maxHeartbeats 8000000 in
theorem implOpText_any (A : Option Addr) (n c : Nat) (ops : List OpV) (z : Int) (w : World) (h : RdO w A n c ops) (B0 : Nat) (ht : PowT B0 w) (hB0 : B0 ≤ w.heap.size) :
    Calls Tryd.prog 8 #[.slice A n c, .int .i64 z] w fun e w' => e = .returned (.string (opT ops z)) ∧ Below w.heap.size w w' := by
  have hl := h.len
  have h1 := h.cap
  have h2 := h.max
  have hcall := implValidOps_any A n c ops w h
  by_cases hq : okO ops = true
  · have hok := okO_true hq
    have hn14 := hok.len
    rw [hl] at hn14
    rw [hq] at hcall
    have HC := Lib.hid hcall
    cases hz : inB z 0 ((n : Int) - 1) with
    | false =>
      have hin := fun W => within_any z 0 ((n : Int) - 1) W
      rw [hz] at hin
      have HI := Lib.hid hin
      rw [opT_no2 hq (by rw [hl]; exact hz)]
      clear hcall h hq hok hl hz hin ht
      go_enter Tryd.func8, Tryd.ntmps8
      go_wp2_with fail
      refine (HC.out).mono ?_
      rintro e w1 ⟨rfl, hb1⟩
      go_wp2_with (go_at_call 35; refine (HI.out _).mono ?_; rintro e w' ⟨rfl, rfl⟩)
      go_ret
      exact ⟨rfl, hb1⟩
    | true =>
      obtain ⟨i0, hi, hz0, hz1, hz2⟩ := info_parts info_str
      have hzb := inB_true hz
      obtain ⟨k, rfl⟩ := Int.eq_ofNat_of_zero_le hzb.1
      have hkn : k < n := by omega
      have hin := fun W => within_any (k : Int) 0 ((n : Int) - 1) W
      rw [hz] at hin
      obtain ⟨p, b, o, B, m, d, hp, hps, hA, hbl, c0, c1, c2, hr⟩ := h.op hkn
      subst hA
      rw [opT_yes (k := (k : Int)) hq (by rw [hl]; exact hz) hp]
      have hrl := hr.ilen
      have hmn := mn_le hok hp
      have hnm := nm_len hok hp
      have hdk := dk_size (z := p.mn) (by omega)
      have hm1 := hr.cap
      have hm2 := hr.max
      have hm14 := bfx_le hok hp
      rw [hrl] at hm14
      have hts := tail_size hok hp m
      rw [List.take_of_length_le (by omega)] at hts
      have hbx := opBase_size hok hp
      have hj : ∀ (go co : Nat) (W : World), 0 < m → W.ownsRow w.heap.size 9 1 (.slice (some ⟨go, 0, none⟩) m co) m (txs (nmL ops p m)) → Calls Tryd.prog 37 #[.slice (some ⟨go, 0, none⟩) m co, .string ⟨#[44]⟩] W fun e w' => ∃ t : ByteArray, e = .returned (.string t) ∧ t.size ≤ 200 ∧ opBody ops p = ((((p.nm ++ ⟨#[32]⟩) ++ dk p.mn) ++ ⟨#[109, 105, 110]⟩)) ++ (⟨#[32, 97, 102, 116, 101, 114, 32]⟩ ++ t) ∧ Below W.heap.size W w' := fun go co W hm0 h => by
        rw [nmL_all hrl] at h
        have hjs := jnT_size (p.bf.map (nmAt ops)) comB 12 (names_size hok hp)
        have hcm : comB.size = 1 := rfl
        rw [hcm, List.length_map] at hjs
        refine (joinS_any (some ⟨go, 0, none⟩) m co _ comB W (Rd.of_own h) (by omega) (by omega)).mono ?_
        rintro e w' ⟨rfl, hb⟩
        refine ⟨_, rfl, by omega, ?_, hb⟩
        refine tlT_some _ (fun e => ?_)
        have := congrArg List.length e
        rw [List.length_map, List.length_nil] at this
        omega
      have hz0' : m = 0 → opBody ops p = ((((p.nm ++ ⟨#[32]⟩) ++ dk p.mn) ++ ⟨#[109, 105, 110]⟩)) := fun e => by
        have : p.bf = [] := List.eq_nil_of_length_eq_zero (by omega)
        unfold opBody
        rw [this]
        rfl
      have hstep : ∀ (j x : Nat) (q : OpV), p.bf[j]? = some (x : Int) → ops[x]? = some q → txs (nmL ops p j) ++ [.string q.nm] = txs (nmL ops p (j + 1)) := fun j x q hx hq => nmL_step hx hq
      have hinn : ∀ (j : Nat) (x : Int), p.bf[j]? = some x → 0 ≤ x ∧ x < n := fun j x hx => by have := bfx_at hok hp hx; omega
      have hn0 : txs (nmL ops p 0) = [] := rfl
      have HNL := Lib.hid (fun x q (h : ops[x]? = some q) => nm_len hok h)
      have hdec := fun W ht => decI_any p.mn W hmn.1 (by omega) B0 ht
      have HDEC := Lib.hid hdec
      have HJ := Lib.hid hj
      have HZ := Lib.hid hz0'
      have HST := Lib.hid hstep
      have HIN := Lib.hid hinn
      have HN0 := Lib.hid hn0
      have HI := Lib.hid hin
      have H := Lib.hid h
      have HB := Lib.hid hr
      have HT := Lib.hid ht
      have HRL := Lib.hid hrl
      have hk0 : (0 : Int) ≤ (k : Int) := by omega
      have hk1 : (k : Int) < (n : Int) := by omega
      generalize nmL ops p = F at *
      generalize opBody ops p = RB at *
      clear hcall h hq hok hl hz hin hp hr hdec hj hz0' hstep hinn hn0 ht hts hrl
      go_enter Tryd.func8, Tryd.ntmps8
      go_wp2_with fail
      refine (HC.out).mono ?_
      rintro e w1 ⟨rfl, hb1⟩
      have Hb1 := Lib.hid hb1
      have k0 := cell_bel c0 hb1
      have k1 := cell_bel c1 hb1
      have k2 := cell_bel c2 hb1
      have hs1 := hb1.size
      clear hb1 c0 c1 c2
      go_wp2_with (go_at_call 35; refine (HI.out _).mono ?_; rintro e w' ⟨rfl, rfl⟩)
      have hba : Below w1.heap.size w1 ((w1.alloc (Obj.cells #[] 9)).alloc (Obj.cells #[Value.string p.nm, Value.int IntKind.i64 p.mn, Value.slice B m d] 53)) := (by go_grown)
      have HO0 := Lib.hid (show ((w1.alloc (Obj.cells #[] 9)).alloc (Obj.cells #[Value.string p.nm, Value.int IntKind.i64 p.mn, Value.slice B m d] 53)).ownsRow w.heap.size 9 1 (.slice (some ⟨w1.heap.size, 0, none⟩) 0 0) 0 (txs (F 0)) from by
        rw [HN0.out]
        exact own_below (World.ownsRow_made w1 #[] 0 hs1 (by unfold maxLen; omega) rfl) ((Below.refl _ _).alloc (Nat.le_refl _) _))
      have hX := Box.new (w1.alloc (Obj.cells #[] 9)) #[Value.string p.nm, Value.int IntKind.i64 p.mn, Value.slice B m d] 53
      have hsz : (w1.alloc (Obj.cells #[] 9)).heap.size = w1.heap.size + 1 := by simp
      rw [hsz] at hX
      have HX0 := Lib.hid hX
      have HB0 := Lib.hid (Hb1.out.trans (hba.mono hs1))
      clear hba hX hsz
      go_wp2
      clear k0 k1 k2
      go_loopw [6, 8, 29] (fun vo _ vi wr => ∃ j go co : Nat, j ≤ m ∧ vi = .int .i64 j ∧ vo = .slice (some ⟨go, 0, none⟩) j co ∧ go ≠ w1.heap.size + 1 ∧ Hid (wr.ownsRow w.heap.size 9 1 (.slice (some ⟨go, 0, none⟩) j co) j (txs (F j))) ∧ Hid (Box wr (w1.heap.size + 1) #[Value.string p.nm, Value.int IntKind.i64 p.mn, Value.slice B m d]) ∧ Hid (Below w.heap.size w wr)) (fun _ _ vi _ => m - (intOf vi).toNat)
      case atStart => exact ⟨0, _, 0, Nat.zero_le _, rfl, rfl, by omega, HO0, HX0, HB0⟩
      case round =>
        clear HO0 HX0 HB0
        obtain ⟨j, go, co, hjm, rfl, rfl, hgo, HO, HX, HW⟩ := hrel
        have hcap2 := (Rd.of_own HO.out).cap
        have hmax2 := (Rd.of_own HO.out).max
        have hs := HW.out.size
        by_cases hlt : j < m
        · obtain ⟨b2, o2, x, hB2, hbl2, hx, hcx⟩ := (HB.out.below HW.out).int hlt
          subst hB2
          have hxi := HIN.out j x hx
          obtain ⟨x, rfl⟩ := Int.eq_ofNat_of_zero_le hxi.1
          have hxn : x < n := by omega
          obtain ⟨q, b4, o4, _, _, _, hq, _, hA4, _, d0, _, _, _⟩ := (H.out.below HW.out).op hxn
          injection hA4 with hA4
          injection hA4 with e1 e2
          subst e1
          subst e2
          have hqn := HNL.out x q hq
          have HS1 := Lib.hid (HST.out j x q hx hq)
          have hx0 : (0 : Int) ≤ (x : Int) := by omega
          have hx1 : (x : Int) < (n : Int) := by omega
          have hj0 : (0 : Int) ≤ (j : Int) := by omega
          have hj1 : (j : Int) < (m : Int) := by omega
          have hgl := own_block HO.out go rfl
          clear hx hq
          go_wp2_with (at_builtin; refine wpList_append_own_at _ rfl (.tmp 33) (.tmp 39) 56 rfl w.heap.size 9 i0 (.string ByteArray.empty) 1 16 Tryd.underlying56 hi hz0 hz1 hz2 rfl (by decide) (Value.slice (some ⟨go, 0, none⟩) j co) _ _ rfl (HO.out.alloc _) ⟨_, 0, none⟩ 1 1 [.string q.nm] rfl rfl (cell_one_new _ _ _) (by intro u hu; simp at hu; subst hu; rfl) (by unfold maxLen; omega) (by omega) (by simp; omega) ?_; intro v' wa hown' hga hdel hblk; clear hdel)
          have hal : Below wr.heap.size wr (wr.alloc (.cells #[.string q.nm] 9)) := (Below.refl _ _).alloc (Nat.le_refl _) _
          obtain ⟨g3, d3, hv, hg3, _⟩ := own_form hown' (by omega)
          have b4 : Below w.heap.size w wa := (HW.out.trans (hal.mono hs)).grown hga (by simp; omega) (fun y hy => by simp [Value.ownBlock] at hy; omega)
          have hX4 := HX.out.below hal
          have hxl := HX.out.lt
          have hX5 : Box wa (w1.heap.size + 1) #[Value.string p.nm, Value.int IntKind.i64 p.mn, Value.slice (some ⟨b2, o2, none⟩) m d] := by
            have hbk := hga.block _ hX4.lt (by simp [Value.ownBlock]; omega)
            exact ⟨fun i => (World.cell?_of_block hbk).trans (hX4.cell i), fun i => (World.frozen?_of_block hbk).trans (hX4.froz i), Nat.lt_of_lt_of_le hX4.lt hga.size⟩
          have hg3n : g3 ≠ w1.heap.size + 1 := by
            rw [hv] at hblk
            rcases hblk with e | e
            · simp [Value.ownBlock] at e; omega
            · simp [Value.ownBlock] at e; omega
          rw [HS1.out] at hown'
          subst hv
          have HO4 := Lib.hid hown'
          have HX6 := Lib.hid hX5
          have HW4 := Lib.hid b4
          clear hown' hga hal b4 hblk hX4 hX5 HO HX HW
          go_wp2
          go_roundw
          case rel => exact ⟨j + 1, g3, d3, by omega, by go_num, rfl, hg3n, HO4, HX6, HW4⟩
          case measure => simp [intOf]; omega
        · obtain rfl : j = m := by omega
          have k0 : wr.cell? ⟨w1.heap.size + 1, 0, none⟩ = some (.string p.nm) := HX.out.cell 0
          have k1 : wr.cell? ⟨w1.heap.size + 1, 1, none⟩ = some (.int .i64 p.mn) := HX.out.cell 1
          have hq1 : ¬ 9223372036854775807 < p.nm.size + 1 := by omega
          have hq2 : ¬ 9223372036854775806 < p.nm.size := by omega
          have hq3 : ¬ 9223372036854775807 < p.nm.size + 1 + (dk p.mn).size := by omega
          have hq4 : ¬ 9223372036854775807 < p.nm.size + 1 + (dk p.mn).size + 3 := by omega
          have hq5 : ¬ 9223372036854775804 < p.nm.size + 1 + (dk p.mn).size := by omega
          go_wp2
          go_region_held3 (fun w' => w'.cell? ⟨w1.heap.size + 1, 0, none⟩ = some (.string p.nm) ∧ w'.cell? ⟨w1.heap.size + 1, 1, none⟩ = some (.int .i64 p.mn) ∧ Below wr.heap.size wr w')
            (first | exact ⟨k0, k1, (Below.refl _ _).drew⟩ | exact keepOP (by assumption) hb | go_keep)
            (first | (go_at_call 36; refine (HDEC.out _ (HT.out.on ((HW.out.trans ((by first | exact (‹_ ∧ _ ∧ Below wr.heap.size wr _›).2.2 | exact (Below.refl _ _).drew : Below wr.heap.size wr _).mono hs)).mono hB0))).mono ?_; rintro e w' ⟨rfl, hb⟩))
          have hbb : Below wr.heap.size wr w' := (‹_ ∧ _ ∧ Below wr.heap.size wr w'›).2.2
          have B3 := Lib.hid (HW.out.trans (hbb.mono hs))
          have HO3 := Lib.hid (own_below HO.out hbb)
          have hs3 := B3.out.size
          clear hbb hb k0 k1 HO HX HW HT HDEC HB H
          clear ‹_ ∧ _ ∧ Below wr.heap.size wr w'›
          by_cases hm0 : 0 < j
          · have hj2 : (0 : Int) < (j : Int) := by omega
            have HJ1 := Lib.hid (HJ.out go co w' hm0 HO3.out)
            clear HJ HO3 HZ
            go_wp2_with fail
            refine (HJ1.out).mono ?_
            rintro e w5 ⟨t, rfl, ht, hRB, hb5⟩
            have hq6 : ¬ 9223372036854775807 < 7 + t.size := by omega
            have hq7 : ¬ 9223372036854775807 < p.nm.size + 1 + (dk p.mn).size + 3 + (7 + t.size) := by omega
            have HRB := Lib.hid hRB
            have B5 := Lib.hid (B3.out.trans (hb5.mono hs3))
            clear hRB hb5
            go_wp2
            go_ret
            exact ⟨by rw [HRB.out]; rfl, B5.out⟩
          · obtain rfl : j = 0 := by omega
            go_wp2
            go_ret
            exact ⟨by rw [HZ.out (by first | trivial | rfl)]; rfl, B3.out⟩
  · have hq' : okO ops = false := by simpa using hq
    rw [opT_no1 hq']
    rw [hq'] at hcall
    have HC := Lib.hid hcall
    clear hcall h hq hq' hl
    go_enter Tryd.func8, Tryd.ntmps8
    go_wp2_with fail
    refine (HC.out).mono ?_
    rintro e w1 ⟨rfl, hb1⟩
    go_wp2
    go_ret
    exact ⟨rfl, hb1⟩

set_option maxRecDepth 100000 in
set_option maxHeartbeats 4000000 in
theorem law_OpText (A : Option Addr) (n c : Nat) (ops : List OpV) (k : Int) (w : World) (hA : RdO w A n c ops) (ht : PowT w.heap.size w) :
    Calls Tryd.prog 3 #[.slice A n c, .int .i64 k] w fun e w' => e = .returned (.bool true) ∧ Below w.heap.size w w' := by
  have H := Lib.hid hA
  have HT := Lib.hid ht
  have HB0 := Lib.hid (Below.refl w.heap.size w)
  clear hA ht
  go_enter Tryd.func3, Tryd.ntmps3
  go_wp2_with fail
  refine (szOpS_any _ _ _ ops _ _ H.out (by omega) (by omega)).mono ?_
  rintro e w1 ⟨z, rfl, hz, hb1⟩
  have HB1 := Lib.hid (HB0.out.trans (hb1.mono HB0.out.size))
  clear hb1 HB0
  rcases hz with rfl | ⟨hz0, hz1, hz2⟩
  · go_wp2
    go_ret
    exact ⟨rfl, HB1.out⟩
  have hzn : ¬ z < 0 := by omega
  have HSH := Lib.hid hz2
  clear hz0 hz1 hz2
  go_wp2_with fail
  refine (toOpS_any _ _ _ ops _ (H.out.below HB1.out) HSH.out).mono ?_
  rintro e w2 ⟨g2, cs2, G2, rfl, hr2, hm2, hb2⟩
  have HB2 := Lib.hid (HB1.out.trans (hb2.mono HB1.out.size))
  have R2 := Lib.hid hr2
  clear hr2 hm2 hb2 HB1
  go_wp2_with fail
  refine (specOpText_any _ _ _ ops k _ R2.out).mono ?_
  rintro e w3 ⟨rfl, hb3⟩
  have HB3 := Lib.hid (HB2.out.trans (hb3.mono HB2.out.size))
  clear hb3 HB2 R2
  go_wp2_with fail
  refine (toOpS_any _ _ _ ops _ (H.out.below HB3.out) HSH.out).mono ?_
  rintro e w4 ⟨g4, cs4, G4, rfl, hr4, hm4, hb4⟩
  have HB4 := Lib.hid (HB3.out.trans (hb4.mono HB3.out.size))
  have R4 := Lib.hid hr4
  clear hr4 hm4 hb4 HB3
  go_wp2_with fail
  refine (implOpText_any _ _ _ ops k _ R4.out w.heap.size (HT.out.on HB4.out) HB4.out.size).mono ?_
  rintro e w5 ⟨rfl, hb5⟩
  have HB5 := Lib.hid (HB4.out.trans (hb5.mono HB4.out.size))
  have R5 := Lib.hid (R4.out.below hb5)
  clear hb5 HB4 R4
  generalize opT ops k = t
  go_wp2_with fail
  refine (toOpS_any _ _ _ ops _ (H.out.below HB5.out) HSH.out).mono ?_
  rintro e w6 ⟨g6, cs6, G6, rfl, hr6, hm6, hb6⟩
  have HB6 := Lib.hid (HB5.out.trans (hb6.mono HB5.out.size))
  have R6 := Lib.hid hr6
  have R7 := Lib.hid (R5.out.below hb6)
  clear hr6 hm6 hb6 HB5 R5
  go_wp2_with fail
  refine (eqOpS_any _ _ _ _ _ ops _ R7.out R6.out).mono ?_
  rintro e w7 ⟨rfl, hb7⟩
  have HB7 := Lib.hid (HB6.out.trans (hb7.mono HB6.out.size))
  clear hb7 HB6
  go_wp2
  go_ret
  exact ⟨rfl, HB7.out⟩
end Go.Proofs.YtgghjieeckkpbaaDoor
