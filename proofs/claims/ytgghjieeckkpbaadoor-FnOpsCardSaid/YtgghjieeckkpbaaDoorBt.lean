/- Sets as bits: has. -/
import Derived.Test.YtgghjieeckkpbaaDoorOk
import Derived.Laws.BitsAllLaws
import Derived.Test.YtgghjieeckkpbaaDoorRc
namespace Go.Proofs.YtgghjieeckkpbaaDoor
open Go.RowKit

theorem ofInt64 (a : Nat) (ha : a < 18446744073709551616) : (BitVec.ofInt 64 (a : Int)).toNat = a := by
  rw [BitVec.ofInt_natCast, BitVec.toNat_ofNat]; exact Nat.mod_eq_of_lt (by omega)
theorem orI (a b : Nat) (ha : a < 4611686018427387904) (hb : b < 4611686018427387904) : bits .or .i64 (a : Int) (b : Int) = ((a ||| b : Nat) : Int) := by
  have hx : a ||| b < 2 ^ 62 := Nat.or_lt_two_pow (by omega) (by omega)
  show IntKind.i64.wrap ((BitVec.ofInt 64 (a : Int) ||| BitVec.ofInt 64 (b : Int)).toNat : Int) = _
  rw [BitVec.toNat_or, ofInt64 a (by omega), ofInt64 b (by omega)]
  exact IntWalk.i64_in _ (by omega)
theorem andI (a b : Nat) (ha : a < 4611686018427387904) (hb : b < 4611686018427387904) : bits .and .i64 (a : Int) (b : Int) = ((a &&& b : Nat) : Int) := by
  have hx : a &&& b < 2 ^ 62 := Nat.and_lt_two_pow _ (by omega)
  show IntKind.i64.wrap ((BitVec.ofInt 64 (a : Int) &&& BitVec.ofInt 64 (b : Int)).toNat : Int) = _
  rw [BitVec.toNat_and, ofInt64 a (by omega), ofInt64 b (by omega)]
  exact IntWalk.i64_in _ (by omega)
theorem pow_lt (k : Nat) (hk : k ≤ 61) : 2 ^ k < 4611686018427387904 := by
  have : 2 ^ k ≤ 2 ^ 61 := Nat.pow_le_pow_right (by omega) hk
  omega
theorem wrapP (k : Nat) (hk : k ≤ 61) : IntKind.i64.wrap (2 ^ k) = ((2 ^ k : Nat) : Int) := by
  have e : (2 : Int) ^ k = ((2 ^ k : Nat) : Int) := by rw [Int.natCast_pow]; rfl
  have h := pow_lt k hk
  rw [e]
  generalize 2 ^ k = y at *
  exact IntWalk.i64_in _ (by omega)
theorem bit_cut (x k : Nat) : (((x : Int) / 2 ^ k) % 2 == 1) = x.testBit k := by
  rw [Nat.testBit_eq_decide_div_mod_eq]
  have e : ((x : Int) / 2 ^ k) % 2 = ((x / 2 ^ k % 2 : Nat) : Int) := by
    rw [Int.natCast_emod, Int.natCast_ediv, Int.natCast_pow]; rfl
  rw [e]
  by_cases h : x / 2 ^ k % 2 = 1
  · simp [h]
  · simp [h]; omega

theorem has_bit (x k : Nat) (hx : x < 4611686018427387904) : (bits .and .i64 ((x : Int) / 2 ^ k) 1 == 1) = x.testBit k := by
  have e : (x : Int) / 2 ^ k = ((x / 2 ^ k : Nat) : Int) := by rw [Int.natCast_ediv, Int.natCast_pow]; rfl
  have hl : x / 2 ^ k ≤ x := Nat.div_le_self _ _
  rw [← bit_cut, e]
  have h1 := andI (x / 2 ^ k) 1 (by omega) (by omega)
  have h2 : bits .and .i64 ((x / 2 ^ k : Nat) : Int) 1 = ((x / 2 ^ k &&& 1 : Nat) : Int) := h1
  rw [h2, Nat.and_one_is_mod]
  simp

set_option maxRecDepth 100000 in
set_option maxHeartbeats 1000000 in
theorem has_any (x k : Nat) (w : World) (hx : x < 4611686018427387904) (hk : k ≤ 61) :
    Calls Tryd.prog 52 #[.int .i64 x, .int .i64 k] w fun e w' => e = .returned (.bool (x.testBit k)) ∧ w = w' := by
  have hk0 : (0 : Int) ≤ (k : Int) := by omega
  go_enter Tryd.func52, Tryd.ntmps52
  go_wp2
  go_ret
  exact ⟨ret_b (has_bit x k hx), rfl⟩

/-- What must be done before what. -/
structure BfsOk (bfs : List (List Int)) (n : Nat) : Prop where
  hl : bfs.length = n
  hb : ∀ (i : Nat) (x : Int), x ∈ bfs.getD i [] → 0 ≤ x ∧ x < n
  hn : n ≤ 14
def bfsO (ops : List OpV) : List (List Int) := ops.map OpV.bf
theorem bf_at {ops : List OpV} {k : Nat} {p : OpV} (h : ops[k]? = some p) : (bfsO ops).getD k [] = p.bf := by simp [bfsO, List.getD, h]
theorem bfs_ok {ops : List OpV} {n : Nat} (h : OOk ops) (hl : ops.length = n) : BfsOk (bfsO ops) n := by
  refine ⟨by simp [bfsO, hl], fun i x hx => ?_, by rw [← hl]; exact h.len⟩
  cases hp : ops[i]? with
  | none => simp [bfsO, List.getD, hp] at hx
  | some p =>
    rw [bf_at hp] at hx
    obtain ⟨j, hj⟩ := List.getElem?_of_mem hx
    have := (incB_at (h.op i p hp).2.2.1).1 j x hj
    omega
theorem BfsOk.eb {bfs : List (List Int)} {n : Nat} (h : BfsOk bfs n) : ∀ i k, Eb bfs i k → i < n ∧ k < n := eb_lt h.hl h.hb
theorem mask_sm {bfs : List (List Int)} {n : Nat} {M : List Nat} (h : BfsOk bfs n) (hs : SndM bfs M) (i : Nat) : mAt M i < 16384 := by
  have h1 := mask_lt h.eb hs i
  have h2 : 2 ^ n ≤ 2 ^ 14 := Nat.pow_le_pow_right (by omega) h.hn
  omega
/-- A list of sets as cells. -/
def nz (M : List Nat) : List Int := M.map fun x : Nat => (x : Int)
theorem nz_len (M : List Nat) : (nz M).length = M.length := by simp [nz]
theorem nz_at (M : List Nat) (i : Nat) : (nz M).getD i 0 = (mAt M i : Int) := by
  unfold nz mAt
  simp only [List.getD, List.getElem?_map]
  cases M[i]? <;> rfl
theorem nz_set (M : List Nat) (i k : Nat) : (nz M).set i ((mAt M i ||| (2 ^ k ||| mAt M k) : Nat) : Int) = nz (setM M i k) := by
  unfold nz setM
  rw [List.map_set]
theorem nz_zero (n : Nat) : nz (List.replicate n 0) = List.replicate n 0 := by simp [nz]
theorem snd0 (bfs : List (List Int)) (n : Nat) : SndM bfs (List.replicate n 0) := by
  intro a b h
  unfold mAt at h
  simp only [List.getD, List.getElem?_replicate] at h
  split at h <;> simp at h
/-- The sets are just what lies before. -/
def AllM (bfs : List (List Int)) (n : Nat) (M : List Nat) : Prop := M.length = n ∧ SndM bfs M ∧ CmpM bfs n M
theorem AllM.iff {bfs : List (List Int)} {n : Nat} {M : List Nat} (h : AllM bfs n M) (hb : BfsOk bfs n) (i k : Nat) : (mAt M i).testBit k = true ↔ Rch (Eb bfs) i k := all_done hb.eb h.2.1 h.2.2 i k

set_option maxRecDepth 100000 in
set_option maxHeartbeats 4000000 in
theorem allBefore_any (A : Option Addr) (n c : Nat) (ops : List OpV) (w : World) (h : RdO w A n c ops) (hok : OOk ops) :
    Calls Tryd.prog 51 #[.slice A n c] w fun e w' => ∃ g M, e = .returned (.slice (some ⟨g, 0, none⟩) n n) ∧ w'.ownsRow w.heap.size 2 1 (.slice (some ⟨g, 0, none⟩) n n) n (ints (nz M)) ∧ AllM (bfsO ops) n M ∧ Below w.heap.size w w' := by
  have hl := h.len
  have h1 := h.cap
  have h2 := h.max
  have hbf := bfs_ok hok hl
  have hn14 := hbf.hn
  have hmk := mkn n (by omega) w
  have hown0 := ownn n (by omega) w w.heap.size (Nat.le_refl _)
  rw [← nz_zero] at hown0
  have hb0 : Below w.heap.size w (w.alloc (.cells (cn n) 2)) := (Below.refl _ _).alloc (Nat.le_refl _) _
  have H := Lib.hid h
  have HL := Lib.hid hl
  have HBF := Lib.hid hbf
  have HO0 := Lib.hid hown0
  have HB0 := Lib.hid hb0
  have HOK := Lib.hid hok
  clear h hl hbf hown0 hb0 hok
  go_enter Tryd.func51, Tryd.ntmps51
  go_wp2
  go_loopw [13] (fun vr wr => ∃ (r : Nat) (M : List Nat), r ≤ n ∧ vr = .int .i64 r ∧ Hid (M.length = n ∧ SndM (bfsO ops) M ∧ CmpM (bfsO ops) r M) ∧ wr.ownsRow w.heap.size 2 1 (.slice (some ⟨w.heap.size, 0, none⟩) n n) n (ints (nz M)) ∧ Below w.heap.size w wr) (fun vr _ => n - (intOf vr).toNat)
  case atStart => exact ⟨0, _, Nat.zero_le _, rfl, Lib.hid ⟨by simp, snd0 _ _, cmp0 _ _⟩, HO0.out, HB0.out⟩
  case round =>
    obtain ⟨r, M, hr, rfl, HM, hown, hb⟩ := hrel
    have HO := Lib.hid hown
    have HB := Lib.hid hb
    clear hown hb
    by_cases hlr : r < n
    · have hr1 : (r : Int) < (n : Int) := by omega
      go_wp2
      go_loopw [17] (fun vi wi => ∃ (i : Nat) (M : List Nat), i ≤ n ∧ vi = .int .i64 i ∧ Hid (M.length = n ∧ SndM (bfsO ops) M ∧ CmpM (bfsO ops) r M ∧ ∀ a, a < i → RowM (bfsO ops) r ((bfsO ops).getD a []) a M) ∧ wi.ownsRow w.heap.size 2 1 (.slice (some ⟨w.heap.size, 0, none⟩) n n) n (ints (nz M)) ∧ Below w.heap.size w wi) (fun vi _ => n - (intOf vi).toNat)
      case atStart => exact ⟨0, M, Nat.zero_le _, rfl, Lib.hid ⟨HM.out.1, HM.out.2.1, HM.out.2.2, fun a ha => absurd ha (Nat.not_lt_zero _)⟩, HO.out, HB.out⟩
      case round =>
        clear HM HO HB
        obtain ⟨i, M, hi, rfl, HM, hown, hb⟩ := hrel
        by_cases hli : i < n
        · have hi0 : (0 : Int) ≤ (i : Int) := by omega
          have hi1 : (i : Int) < (n : Int) := by omega
          obtain ⟨p, b, o, B, m, d, hp, hps, hA, hbl, e0, e1, e2, hrd⟩ := H.out.op hli
          subst hA
          have c0 := cell_bel e0 hb
          have c1 := cell_bel e1 hb
          have c2 := cell_bel e2 hb
          have hrl := hrd.ilen
          have hr2 := hrd.cap
          have hr3 := hrd.max
          have hbfp := bf_at hp
          have HBP := Lib.hid hbfp
          have HRL := Lib.hid hrl
          have HR := Lib.hid hrd
          have ha1 : Below wr.heap.size wr (wr.alloc (Obj.cells #[.string p.nm, .int .i64 p.mn, .slice B m d] 53)) := (by go_grown)
          have HO1 := Lib.hid (own_below hown ha1)
          have HB1 := Lib.hid (hb.trans (ha1.mono hb.size))
          clear e0 e1 e2 hp hbfp hrd hrl hown hb ha1
          go_wp2
          go_loopw [25] (fun vj wj => ∃ (j : Nat) (M : List Nat), j ≤ m ∧ vj = .int .i64 j ∧ Hid (M.length = n ∧ SndM (bfsO ops) M ∧ CmpM (bfsO ops) r M ∧ (∀ a, a < i → RowM (bfsO ops) r ((bfsO ops).getD a []) a M) ∧ RowM (bfsO ops) r (p.bf.take j) i M) ∧ wj.ownsRow w.heap.size 2 1 (.slice (some ⟨w.heap.size, 0, none⟩) n n) n (ints (nz M)) ∧ Below w.heap.size w wj) (fun vj _ => m - (intOf vj).toNat)
          case atStart => exact ⟨0, M, Nat.zero_le _, rfl, Lib.hid ⟨HM.out.1, HM.out.2.1, HM.out.2.2.1, HM.out.2.2.2, fun j k hj => by simp at hj⟩, HO1.out, HB1.out⟩
          case round =>
            clear HM HO1 HB1 c0 c1 c2
            obtain ⟨j, M, hj, rfl, HM, hown, hb⟩ := hrel
            by_cases hlj : j < m
            · obtain ⟨b3, o3, x, hB, hb3, hx, hc3⟩ := HR.out.int hlj
              subst hB
              have c3 := cell_bel hc3 hb
              have hxm := List.mem_of_getElem? hx
              have hxr := HBF.out.hb i x (by rw [HBP.out]; exact hxm)
              obtain ⟨q, rfl⟩ := Int.eq_ofNat_of_zero_le hxr.1
              have hq : q < n := by omega
              have hq0 : (0 : Int) ≤ (q : Int) := by omega
              have hq1 : (q : Int) < (n : Int) := by omega
              have hj0 : (0 : Int) ≤ (j : Int) := by omega
              have hj1 : (j : Int) < (m : Int) := by omega
              obtain ⟨hM1, hM2, hM3, hM4, hM5⟩ := HM.out
              have hEb : Eb (bfsO ops) i q := by unfold Eb; rw [HBP.out]; exact hxm
              have hmi := mask_sm HBF.out hM2 i
              have hmq := mask_sm HBF.out hM2 q
              have hpq := pow_lt q (by omega)
              have hpq14 : 2 ^ q ≤ 2 ^ 14 := Nat.pow_le_pow_right (by omega) (by omega)
              have hor1 := orI (2 ^ q) (mAt M q) (by omega) (by omega)
              have hlt1 : 2 ^ q ||| mAt M q < 2 ^ 15 := Nat.or_lt_two_pow (by omega) (by omega)
              have hor2 := orI (mAt M i) (2 ^ q ||| mAt M q) (by omega) (by omega)
              have hwr := wrapP q (by omega)
              have hval : bits .or .i64 ((mAt M i : Nat) : Int) (bits .or .i64 (2 ^ q) ((mAt M q : Nat) : Int)) = ((mAt M i ||| (2 ^ q ||| mAt M q) : Nat) : Int) := by
                have e : (2 : Int) ^ q = ((2 ^ q : Nat) : Int) := by rw [Int.natCast_pow]; rfl
                rw [e, hor1, hor2]
              have hq64 : (q : Int) ≤ 64 := by omega
              have ci := own_int hown hli (by rw [nz_len]; exact hM1)
              have cq := own_int hown hq (by rw [nz_len]; exact hM1)
              rw [nz_at] at ci cq
              have S := own_iset hown i ((mAt M i ||| (2 ^ q ||| mAt M q) : Nat) : Int)
              rw [nz_set] at S
              have hf := hown.frozenAt
              have HMN : Hid ((setM M i q).length = n ∧ SndM (bfsO ops) (setM M i q) ∧ CmpM (bfsO ops) r (setM M i q) ∧ (∀ a, a < i → RowM (bfsO ops) r ((bfsO ops).getD a []) a (setM M i q)) ∧ RowM (bfsO ops) r (p.bf.take (j + 1)) i (setM M i q)) := Lib.hid ⟨by rw [setM_len]; exact hM1, hM2.step (by omega) hEb, hM3.mono (mono_set M i q), fun a ha => (hM4 a ha).mono (mono_set M i q), by
                rw [List.take_add_one, hx]
                exact hM5.step hM3 (by omega)⟩
              generalize mAt M i = mi at *
              generalize mAt M q = mq at *
              have hne : b3 ≠ w.heap.size := by omega
              have HS := Lib.hid (own_drew S.1)
              have HB' := Lib.hid ((hb.grown S.2 hb.size (fun k e => by injection e with e; omega)).drew)
              have HV := Lib.hid hval
              clear hval hor1 hor2 S hown hb HM hM1 hM2 hM3 hM4 hM5 hc3 hx hxm hEb
              go_wp2
              go_region
              rw [HV.out]
              go_wp2
              go_roundw
              case rel => exact ⟨j + 1, _, by omega, by go_num, HMN, HS.out, HB'.out⟩
              case measure => simp [intOf]; omega
            · have hjm : j = m := by omega
              have HMN : Hid (M.length = n ∧ SndM (bfsO ops) M ∧ CmpM (bfsO ops) r M ∧ ∀ a, a < i + 1 → RowM (bfsO ops) r ((bfsO ops).getD a []) a M) := Lib.hid ⟨HM.out.1, HM.out.2.1, HM.out.2.2.1, fun a ha => by
                by_cases e : a = i
                · subst e
                  have h5 := HM.out.2.2.2.2
                  rw [List.take_of_length_le (by rw [HRL.out]; omega)] at h5
                  rw [HBP.out]
                  exact h5
                · exact HM.out.2.2.2.1 a (by omega)⟩
              have HO := Lib.hid hown
              have HB := Lib.hid hb
              clear hown hb HM
              go_wp2
              go_roundw
              case rel => exact ⟨i + 1, M, by omega, by go_num, HMN, HO.out, HB.out⟩
              case measure => simp [intOf]; omega
        · have hin : i = n := by omega
          have HMN : Hid (M.length = n ∧ SndM (bfsO ops) M ∧ CmpM (bfsO ops) (r + 1) M) := Lib.hid ⟨HM.out.1, HM.out.2.1, fun a k l hp hl => by
            have ha : a < n := by
              cases l with
              | nil => exact (HBF.out.eb _ _ hp).1
              | cons _ _ => exact (HBF.out.eb _ _ hp.1).1
            exact row_done (HM.out.2.2.2 a (by omega)) k l hp hl⟩
          have HO := Lib.hid hown
          have HB := Lib.hid hb
          clear hown hb HM
          go_wp2
          go_roundw
          case rel => exact ⟨r + 1, M, by omega, by go_num, HMN, HO.out, HB.out⟩
          case measure => simp [intOf]; omega
    · have hrn : r = n := by omega
      subst hrn
      go_wp2
      go_ret
      exact ⟨_, M, rfl, HO.out, ⟨HM.out.1, HM.out.2.1, HM.out.2.2⟩, HB.out⟩
end Go.Proofs.YtgghjieeckkpbaaDoor
