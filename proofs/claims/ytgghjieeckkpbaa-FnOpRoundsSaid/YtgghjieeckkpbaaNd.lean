/- NeedlessBefore: program, reference, law. Printed by mknd.py. -/
import Derived.Test.YtgghjieeckkpbaaAb
import Derived.Test.YtgghjieeckkpbaaCr
import Derived.Test.YtgghjieeckkpbaaSs
namespace Go.Proofs.Ytgghjieeckkpbaa
open Go.RowKit

/-- Must k be done before one of these? -/
noncomputable def ndB (bfs : List (List Int)) (l : List Int) (k : Nat) : Bool := l.any fun o => rchB bfs o.toNat k
theorem ndB_snoc {bfs : List (List Int)} {l : List Int} {j o k : Nat} (h : l[j]? = some (o : Int)) : ndB bfs (l.take (j + 1)) k = (ndB bfs (l.take j) k || rchB bfs o k) := by
  unfold ndB
  rw [List.take_add_one, h]
  simp
/-- The needless ones among the first of l, for the operation i whose list is b. -/
noncomputable def ndI (bfs : List (List Int)) (b : List Int) (i : Nat) (l : List Int) : List (List Int) := (l.filter fun x => ndB bfs b x.toNat).map fun x => [(i : Int), x]
theorem ndI_yes {bfs : List (List Int)} {b l : List Int} {i j x : Nat} (h : l[j]? = some (x : Int)) (hn : ndB bfs b x = true) : ndI bfs b i (l.take (j + 1)) = ndI bfs b i (l.take j) ++ [[(i : Int), (x : Int)]] := by
  unfold ndI
  rw [List.take_add_one, h]
  simp [List.filter_append, hn]
theorem ndI_no {bfs : List (List Int)} {b l : List Int} {i j x : Nat} (h : l[j]? = some (x : Int)) (hn : ndB bfs b x = false) : ndI bfs b i (l.take (j + 1)) = ndI bfs b i (l.take j) := by
  unfold ndI
  rw [List.take_add_one, h]
  simp [List.filter_append, hn]
theorem ndI_len (bfs : List (List Int)) (b : List Int) (i : Nat) (l : List Int) : (ndI bfs b i l).length ≤ l.length := by
  unfold ndI
  rw [List.length_map]
  exact List.length_filter_le _ _
noncomputable def ndO (bfs : List (List Int)) : Nat → List (List Int)
  | 0 => []
  | i + 1 => ndO bfs i ++ ndI bfs (bfs.getD i []) i (bfs.getD i [])
theorem ndO_len {bfs : List (List Int)} (h : ∀ i, (bfs.getD i []).length ≤ 14) : ∀ i, (ndO bfs i).length ≤ 14 * i
  | 0 => by simp [ndO]
  | i + 1 => by
    have h1 := ndO_len h i
    have h2 := ndI_len bfs (bfs.getD i []) i (bfs.getD i [])
    have h3 := h i
    simp only [ndO, List.length_append]
    omega
theorem ndI_tot (bfs : List (List Int)) (b : List Int) (i : Nat) (l : List Int) : totL (ndI bfs b i l) = 2 * (ndI bfs b i l).length := by
  unfold ndI
  generalize l.filter (fun x => ndB bfs b x.toNat) = m
  induction m with
  | nil => rfl
  | cons x m ih => simp only [List.map_cons, totL, ih, List.length_cons, List.length_map, List.length_nil]; omega
theorem totL_app : ∀ (a b : List (List Int)), totL (a ++ b) = totL a + totL b
  | [], b => by simp [totL]
  | x :: a, b => by simp only [List.cons_append, totL, totL_app a b]; omega
theorem ndO_tot (bfs : List (List Int)) : ∀ i, totL (ndO bfs i) = 2 * (ndO bfs i).length
  | 0 => rfl
  | i + 1 => by
    simp only [ndO, totL_app, ndO_tot bfs i, ndI_tot, List.length_append]
    omega
noncomputable def ndZ (ops : List OpV) : List (List Int) × Int := if codeO ops = 0 then (ndO (bfsO ops) ops.length, 0) else ([], codeO ops)
theorem ndZ_ok {ops : List OpV} {n : Nat} (h : codeO ops = 0) (hl : ops.length = n) : ndZ ops = (ndO (bfsO ops) n, 0) := by unfold ndZ; rw [if_pos h, hl]
theorem ndZ_no {ops : List OpV} (h : codeO ops ≠ 0) : ndZ ops = ([], codeO ops) := by unfold ndZ; rw [if_neg h]
theorem bf_len {ops : List OpV} (hok : OOk ops) (i : Nat) : ((bfsO ops).getD i []).length ≤ 14 := by
  cases hp : ops[i]? with
  | none => simp [bfsO, List.getD, hp]
  | some p =>
    rw [bf_at hp]
    have h1 := incB_len (hok.op i p hp).2.2.1
    have h2 := hok.len
    omega
theorem ndZ_tot (ops : List OpV) : totL (ndZ ops).1 ≤ 1048576 := by
  by_cases h : codeO ops = 0
  · obtain ⟨hok, _⟩ := codeO_ok h
    rw [ndZ_ok h rfl]
    show totL (ndO (bfsO ops) ops.length) ≤ _
    have h1 := ndO_len (bf_len hok) ops.length
    have h2 := hok.len
    rw [ndO_tot]
    omega
  · rw [ndZ_no h]; simp [totL]
/-- What is handed back: a slice of slices of its own that reads as L, and a code. -/
def SsPost (w : World) (L : List (List Int)) (z : Int) (e : Ending) (w' : World) : Prop :=
  ∃ A n c cs G, e = .returned (.tuple #[.slice A n c, .int .i64 z]) ∧ OwnL w' w.heap.size A n c cs L G ∧ Below w.heap.size w w'
theorem ssPost_nil {w w' : World} {z : Int} (hb : Below w.heap.size w w') : SsPost w [] z (.returned (.tuple #[.slice none 0 0, .int .i64 z])) w' :=
  ⟨none, 0, 0, [], _, rfl, ownL_nil _ _, hb⟩
theorem info_sl : (Try.prog.info? 28).map (fun i => (i.zero, i.size, i.bytes)) = some (some (.slice none 0 0), 1, 24) := by kernel_rfl

set_option maxHeartbeats 1000000 in
theorem needless_pred (xs : List Int) (n x ga b6 b10 : Nat) (bfs : List (List Int)) (M : List Nat) (base : Nat) (w : World) (hbf : BfsOk bfs n) (hM : AllM bfs n M) (hx : x < n) (hxs : ∀ b ∈ xs, 0 ≤ b ∧ b < n)
    (ho : w.ownsRow base 2 1 (.slice (some ⟨ga, 0, none⟩) n n) n (ints (nz M))) (h6 : w.cell? ⟨b6, 0, none⟩ = some (.slice (some ⟨ga, 0, none⟩) n n)) (h10 : w.cell? ⟨b10, 0, none⟩ = some (.int .i64 x)) :
    PredB Try.prog 67 #[.pointer (some ⟨b6, 0, none⟩), .pointer (some ⟨b10, 0, none⟩)] (Value.int .i64) (fun b => rchB bfs b.toNat x) xs w := fun W b hb hbel => by
  have c6 := cell_bel h6 hbel
  have c10 := cell_bel h10 hbel
  obtain ⟨h0, h1⟩ := hxs b hb
  obtain ⟨q, rfl⟩ := Int.eq_ofNat_of_zero_le h0
  have hqn : q < n := by omega
  have hn14 := hbf.hn
  have cq := own_int (own_below ho hbel) hqn (by rw [nz_len]; exact hM.1)
  rw [nz_at] at cq
  have hsm := mask_sm hbf hM.2.1 q
  have hhas := fun W => has_any (mAt M q) x W (by omega) (by omega)
  have hbit := hM.bit hbf q x
  show Calls Try.prog 67 #[.int .i64 q, .pointer (some ⟨b6, 0, none⟩), .pointer (some ⟨b10, 0, none⟩)] W fun e w' => e = .returned (.bool (rchB bfs q x)) ∧ Below W.heap.size W w'
  rw [← hbit]
  generalize mAt M q = mq at *
  generalize mq.testBit x = z at *
  have hq0 : (0 : Int) ≤ (q : Int) := by omega
  have hq1 : (q : Int) < (n : Int) := by omega
  have HH := Lib.hid hhas
  clear hhas hbel h6 h10 ho hM hbf hsm hbit hxs hb
  go_enter Try.func67, Try.ntmps67
  go_wp2
  go_quiet ((go_at_call 68; refine Calls.quiet_of_same ((HH.out _).mono fun _ _ h => ⟨h.1, h.2.symm⟩)))
  go_wp2
  go_ret
  exact ⟨rfl, below_drewN (Below.refl _ _) _⟩

set_option maxRecDepth 100000 in
set_option maxHeartbeats 8000000 in
theorem implNeedlessBefore_any (A : Option Addr) (n c : Nat) (ops : List OpV) (w : World) (h : RdO w A n c ops) :
    Calls Try.prog 23 #[.slice A n c] w (SsPost w (ndZ ops).1 (ndZ ops).2) := by
  obtain ⟨i0, hi, hz0, hz1, hz2⟩ := info_parts info_i64r
  obtain ⟨i1, hj, hy0, hy1, hy2⟩ := info_parts info_sl
  have hcall := opsCode_any A n c ops w h
  have hl := h.len
  have h1 := h.cap
  have h2 := h.max
  have H := Lib.hid h
  by_cases hz : codeO ops = 0
  · obtain ⟨hok, hcc⟩ := codeO_ok hz
    rw [ndZ_ok hz hl]
    rw [hz] at hcall
    have hn14 := hok.len
    rw [hl] at hn14
    have hbf := bfs_ok hok hl
    have hbl := bf_len hok
    have hol := ndO_len hbl
    have eg : ∀ args w, (callFunc 67 args).run Try.prog w = .ok (.enter 67 args) w := enters_of Try.func67 (by kernel_rfl) rfl
    have HAB := Lib.hid (fun W h => allBefore_any A n c ops W h hok)
    have HC := Lib.hid hcall
    have HBF := Lib.hid hbf
    have HBL := Lib.hid hbl
    have HOL := Lib.hid hol
    have EG := Lib.hid eg
    clear hcall h hok hcc hz hl hbf hbl hol eg
    go_enter Try.func23, Try.ntmps23
    go_wp2_with fail
    refine (HC.out).mono ?_
    rintro e w1 ⟨rfl, hb1⟩
    have hs1 := hb1.size
    have HL0 := Lib.hid (ownL_made w1 w.heap.size hs1)
    have hb2 : Below w.heap.size w (w1.alloc (.cells #[] 28)) := hb1.alloc hs1 _
    have HB2 := Lib.hid hb2
    clear hb1 hb2
    go_wp2_with fail
    refine (HAB.out _ (H.out.below HB2.out)).mono ?_
    rintro e w2 ⟨ga, M, rfl, hown, hM, hb3⟩
    have hga := own_block hown ga rfl
    have hs3 := hb3.size
    simp at hga hs3
    have hal : Below w2.heap.size w2 (w2.alloc (.cells #[.slice (some ⟨ga, 0, none⟩) n n] 28)) := (Below.refl _ _).alloc (Nat.le_refl _) _
    have HL3 := Lib.hid ((HL0.out.below hb3).below hal)
    have HM3 := Lib.hid (own_below (own_base (base' := w.heap.size) hown (by simp; omega)) hal)
    have HB3 := Lib.hid ((HB2.out.trans (hb3.mono (by simp; omega))).trans (hal.mono (by omega)))
    have HX3 := Lib.hid (Box.new w2 #[.slice (some ⟨ga, 0, none⟩) n n] 28)
    have HM := Lib.hid hM
    clear hown hM hb3 hal HL0
    go_wp2
    go_loopw [5, 21] (fun vo vi wr => ∃ (i go co : Nat) (cs : List Value) (L : List (List Int)) (G : Nat → Nat), i ≤ n ∧ vi = .int .i64 i ∧ vo = .slice (some ⟨go, 0, none⟩) L.length co ∧ Hid (ndO (bfsO ops) i = L) ∧ go ≠ ga ∧ go ≠ w2.heap.size ∧ w2.heap.size < wr.heap.size ∧ Hid (OwnL wr w.heap.size (some ⟨go, 0, none⟩) L.length co cs L G) ∧
        Hid (wr.ownsRow w.heap.size 2 1 (.slice (some ⟨ga, 0, none⟩) n n) n (ints (nz M))) ∧ wr.cell? ⟨w2.heap.size, 0, none⟩ = some (.slice (some ⟨ga, 0, none⟩) n n) ∧ Hid (Below w.heap.size w wr)) (fun _ vi _ => n - (intOf vi).toNat)
    case atStart => exact ⟨0, _, _, _, [], _, Nat.zero_le _, rfl, rfl, Lib.hid rfl, by omega, by omega, HX3.out.lt, HL3, HM3, by have := HX3.out.cell 0; exact this, HB3⟩
    case round =>
      clear HL3 HM3 HB3 HX3
      obtain ⟨i, go, co, cs, L, G, hin, rfl, rfl, HE, hgm, hg6, hlt6, HL, HO, c6, HB⟩ := hrel
      obtain ⟨wo, rfl⟩ : ∃ wo : World, wo = wr := ⟨_, rfl⟩
      have hcap := (Rd.of_own HL.out.own).cap
      have hmax := (Rd.of_own HL.out.own).max
      by_cases hlt : i < n
      · have hi0 : (0 : Int) ≤ (i : Int) := by omega
        have hi1 : (i : Int) < (n : Int) := by omega
        obtain ⟨p, b, o, B, m, d, hp, hps, hA, hbl, e0, e1, e2, hrd⟩ := H.out.op hlt
        subst hA
        have c0 := cell_bel e0 HB.out
        have c1 := cell_bel e1 HB.out
        have c2 := cell_bel e2 HB.out
        have hm14 := HBL.out i
        have hol := HOL.out i
        have hbp := bf_at hp
        have hrl := hrd.ilen
        rw [hbp, hrl] at hm14
        rw [HE.out] at hol
        have hrc := hrd.cap
        have hrm := hrd.max
        have hal : Below wo.heap.size wo (wo.alloc (.cells #[.string p.nm, .int .i64 p.mn, .slice B m d] 41)) := (Below.refl _ _).alloc (Nat.le_refl _) _
        have HX8 := Lib.hid (Box.new wo #[.string p.nm, .int .i64 p.mn, .slice B m d] 41)
        have HL2 := Lib.hid (HL.out.below hal)
        have HO2 := Lib.hid (own_below HO.out hal)
        have HB2 := Lib.hid (HB.out.trans (hal.mono HB.out.size))
        have C6 := Lib.hid (cell_bel c6 hal)
        have HRD := Lib.hid hrd
        have HRL := Lib.hid hrl
        have HBP := Lib.hid hbp
        have HE0 : Hid (ndO (bfsO ops) i ++ ndI (bfsO ops) p.bf i (p.bf.take 0) = L) := Lib.hid (by rw [HE.out]; simp [ndI])
        have hOb := own_block HL.out.own go rfl
        clear hal e0 e1 e2 hrd hrl hp hbp HL HO c6
        go_wp2
        go_loopw [5, 29] (fun vo vj wq => ∃ (j go co : Nat) (cs : List Value) (L : List (List Int)) (G : Nat → Nat), j ≤ m ∧ vj = .int .i64 j ∧ vo = .slice (some ⟨go, 0, none⟩) L.length co ∧ Hid (ndO (bfsO ops) i ++ ndI (bfsO ops) p.bf i (p.bf.take j) = L) ∧ L.length ≤ 14 * i + j ∧ go ≠ ga ∧ go ≠ w2.heap.size ∧ go ≠ wo.heap.size ∧ wo.heap.size < wq.heap.size ∧ Hid (OwnL wq w.heap.size (some ⟨go, 0, none⟩) L.length co cs L G) ∧
            Hid (wq.ownsRow w.heap.size 2 1 (.slice (some ⟨ga, 0, none⟩) n n) n (ints (nz M))) ∧ Hid (wq.cell? ⟨w2.heap.size, 0, none⟩ = some (.slice (some ⟨ga, 0, none⟩) n n)) ∧ Hid (Box wq wo.heap.size #[.string p.nm, .int .i64 p.mn, .slice B m d]) ∧ Hid (Below w.heap.size w wq)) (fun _ vj _ => m - (intOf vj).toNat)
        case atStart => exact ⟨0, go, co, cs, L, G, Nat.zero_le _, rfl, rfl, HE0, by omega, hgm, hg6, by omega, by simp, HL2, HO2, C6, HX8, HB2⟩
        case round =>
          clear HE HE0 HL2 HO2 C6 HX8 HB2 HB c0 c1 c2 hgm hg6 hcap hmax hOb
          obtain ⟨j, go, co, cs, L, G, hjm, rfl, rfl, HE, hll, hgm, hg6, hgb, hb8, HL, HO, C6, HX, HB⟩ := hrel
          have hcap := (Rd.of_own HL.out.own).cap
          have hmax := (Rd.of_own HL.out.own).max
          have hOb := own_block HL.out.own go rfl
          have hs := HB.out.size
          by_cases hlj : j < m
          · obtain ⟨b3, o3, x, hB, hb3, hx, hc3⟩ := HRD.out.int hlj
            subst hB
            have c3 := cell_bel hc3 HB.out
            have hxr := HBF.out.hb i x (by rw [HBP.out]; exact List.mem_of_getElem? hx)
            obtain ⟨v, rfl⟩ := Int.eq_ofNat_of_zero_le hxr.1
            have hv : v < n := by omega
            have hj0 : (0 : Int) ≤ (j : Int) := by omega
            have hj1 : (j : Int) < (m : Int) := by omega
            have hal : Below wr.heap.size wr (wr.alloc (.cells #[.int .i64 v] 2)) := (Below.refl _ _).alloc (Nat.le_refl _) _
            have hcf := containsFunc_i64 67 #[.pointer (some ⟨w2.heap.size, 0, none⟩), .pointer (some ⟨wr.heap.size, 0, none⟩)] EG.out (fun b => rchB (bfsO ops) b.toNat v) (some ⟨b3, o3, none⟩) m d p.bf (wr.alloc (.cells #[.int .i64 v] 2)) ((HRD.out.below HB.out).below hal)
              (needless_pred p.bf n v ga w2.heap.size wr.heap.size (bfsO ops) M w.heap.size _ HBF.out HM.out hv (fun y hy => HBF.out.hb i y (by rw [HBP.out]; exact hy)) (own_below HO.out hal) (cell_bel C6.out hal) (by simp))
            have hnd : (p.bf.any fun b => rchB (bfsO ops) b.toNat v) = ndB (bfsO ops) p.bf v := rfl
            rw [hnd] at hcf
            have hyes := ndI_yes (bfs := bfsO ops) (b := p.bf) (i := i) hx
            have hno := ndI_no (bfs := bfsO ops) (b := p.bf) (i := i) hx
            generalize ndB (bfsO ops) p.bf v = q at *
            have HCF := Lib.hid hcf
            have HYS := Lib.hid hyes
            have HNO := Lib.hid hno
            have x2 := (HX.out.below hal).cell 2
            have HAL := Lib.hid hal
            simp at x2
            clear hcf hyes hno hx hc3 hnd hal
            cases q with
            | false =>
              have HE2 : Hid (ndO (bfsO ops) i ++ ndI (bfsO ops) p.bf i (p.bf.take (j + 1)) = L) := Lib.hid (by rw [HNO.out (by trivial)]; exact HE.out)
              go_wp2_with fail
              refine (HCF.out).mono ?_
              rintro e w4 ⟨rfl, hb4⟩
              have hb5 := HAL.out.trans (hb4.mono HAL.out.size)
              have HL5 := Lib.hid (HL.out.below hb5)
              have HO5 := Lib.hid (own_below HO.out hb5)
              have C65 := Lib.hid (cell_bel C6.out hb5)
              have HX5 := Lib.hid (HX.out.below hb5)
              have HB5 := Lib.hid (HB.out.trans (hb5.mono hs))
              have hlt5 := HX5.out.lt
              clear hb4 hb5
              go_wp2
              go_roundw
              case rel => exact ⟨j + 1, go, co, cs, L, G, by omega, by go_num, rfl, HE2, by omega, hgm, hg6, hgb, hlt5, HL5, HO5, C65, HX5, HB5⟩
              case measure => simp [intOf]; omega
            | true =>
              have HE2 : Hid (ndO (bfsO ops) i ++ ndI (bfsO ops) p.bf i (p.bf.take (j + 1)) = L ++ [[(i : Int), (v : Int)]]) := Lib.hid (by rw [HYS.out (by trivial), ← List.append_assoc, HE.out])
              go_wp2_with fail
              refine (HCF.out).mono ?_
              rintro e w4 ⟨rfl, hb4⟩
              have hb5 := HAL.out.trans (hb4.mono HAL.out.size)
              have HL5 := Lib.hid (HL.out.below hb5)
              have HO5 := Lib.hid (own_below HO.out hb5)
              have C65 := Lib.hid (cell_bel C6.out hb5)
              have HX5 := Lib.hid (HX.out.below hb5)
              have HB5 := Lib.hid (HB.out.trans (hb5.mono hs))
              have hlt5 := HX5.out.lt
              have hs5 := hb5.size
              have hn4 := hb4.size
              simp at hn4
              have c10 : w4.cell? ⟨wr.heap.size, 0, none⟩ = some (.int .i64 v) := cell_bel (by simp) hb4
              have hOb5 := own_block HL5.out.own go rfl
              have hga5 := own_block HO5.out ga rfl
              have h2s := World.block_lt_of_cell? _ _ C65.out
              clear hb4 hb5
              have hlit := World.ownsRow_lit (e := 2) (size := 1) (base := w.heap.size) w4 #[.int .i64 i, .int .i64 v] 2 HB5.out.size (by unfold maxLen; omega) (by simp)
              have ha1 : Below w4.heap.size w4 (w4.alloc (.cells #[.int .i64 i, .int .i64 v] 2)) := (Below.refl _ _).alloc (Nat.le_refl _) _
              have hz1' : (w4.alloc (.cells #[.int .i64 i, .int .i64 v] 2)).heap.size = w4.heap.size + 1 := by simp
              have ha2 : Below w4.heap.size w4 ((w4.alloc (.cells #[.int .i64 i, .int .i64 v] 2)).alloc (.cells #[.slice (some ⟨w4.heap.size, 0, none⟩) 2 2] 28)) := ha1.alloc (by simp) _
              have ha3 : Below (w4.alloc (.cells #[.int .i64 i, .int .i64 v] 2)).heap.size (w4.alloc (.cells #[.int .i64 i, .int .i64 v] 2)) ((w4.alloc (.cells #[.int .i64 i, .int .i64 v] 2)).alloc (.cells #[.slice (some ⟨w4.heap.size, 0, none⟩) 2 2] 28)) := (Below.refl _ _).alloc (Nat.le_refl _) _
              have hlit2 := own_below hlit ha3
              have hsz2 : ((w4.alloc (.cells #[.int .i64 i, .int .i64 v] 2)).alloc (.cells #[.slice (some ⟨w4.heap.size, 0, none⟩) 2 2] 28)).heap.size = w4.heap.size + 2 := by simp
              have HA2 := Lib.hid ha2
              have HLI := Lib.hid hlit2
              have HZ1 := Lib.hid hz1'
              have HZ2 := Lib.hid hsz2
              clear hlit ha1 ha2 ha3 hlit2 hz1' hsz2
              go_wp2_with (at_builtin; refine wpList_append_own_at _ rfl (.tmp 37) (.tmp 41) 31 rfl w.heap.size 28 i1 (.slice none 0 0) 1 24 Try.underlying31 hj hy0 hy1 hy2 rfl (by decide) (Value.slice (some ⟨go, 0, none⟩) L.length co) _ _ rfl ((HL5.out.own.alloc _).alloc _) ⟨_, 0, none⟩ 1 1 [.slice (some ⟨w4.heap.size, 0, none⟩) 2 2] rfl rfl (by have := cell_one_new (w4.alloc (.cells #[.int .i64 i, .int .i64 v] 2)) (.slice (some ⟨w4.heap.size, 0, none⟩) 2 2) 28; rw [HZ1.out] at this; exact this) (by intro u hu; simp at hu; subst hu; rfl) (by unfold maxLen; omega) (by omega) (by rw [HZ2.out]; omega) ?_; intro v' wa hown' hga' hdel hblk; clear hdel)
              obtain ⟨g3, d3, hv', hg3, _⟩ := own_form hown' (by omega)
              subst hv'
              have hP := HL5.out.push (xs := [(i : Int), (v : Int)]) HA2.out (Nat.le_refl _) HLI.out hown' hga' hblk
              have hne3 : g3 ≠ ga ∧ g3 ≠ w2.heap.size ∧ g3 ≠ wo.heap.size := by
                rcases hblk with e | e
                · simp [Value.ownBlock] at e; subst e; exact ⟨hgm, hg6, hgb⟩
                · rw [HZ2.out] at e; simp [Value.ownBlock] at e; omega
              have b5 := (HB5.out.trans (HA2.out.mono HB5.out.size)).grown hga' (by rw [HZ2.out]; omega) (fun k hk => by simp [Value.ownBlock] at hk; omega)
              have ho5 := own_other (g' := go) (own_below HO5.out HA2.out) hga' (fun e => hgm e.symm)
              have c65 := cell_other (cell_bel C65.out HA2.out) hga' (fun e => hg6 e.symm)
              have hx5 : Box wa wo.heap.size #[.string p.nm, .int .i64 p.mn, .slice (some ⟨b3, o3, none⟩) m d] := by
                have hX := HX5.out.below HA2.out
                refine ⟨fun k => ?_, fun k => ?_, Nat.lt_of_lt_of_le hX.lt hga'.size⟩
                · exact (World.cell?_of_block (hga'.block wo.heap.size hX.lt (by simp [Value.ownBlock]; exact fun e => hgb e.symm))).trans (hX.cell k)
                · exact (World.frozen?_of_block (hga'.block wo.heap.size hX.lt (by simp [Value.ownBlock]; exact fun e => hgb e.symm))).trans (hX.froz k)
              have HP := Lib.hid hP
              have HB6 := Lib.hid b5
              have HO6 := Lib.hid ho5
              have C66 := Lib.hid c65
              have HX6 := Lib.hid hx5
              have hlt6 := hx5.lt
              have hln : (L ++ [[(i : Int), (v : Int)]]).length = L.length + 1 := by simp
              have HLN := Lib.hid hln
              clear hown' hga' hblk hP b5 ho5 c65 hx5 hln
              go_wp2
              go_roundw
              case rel => exact ⟨j + 1, g3, d3, _, _, _, by omega, by go_num, by rw [HLN.out], HE2, by rw [HLN.out]; omega, hne3.1, hne3.2.1, hne3.2.2, hlt6, by rw [HLN.out]; exact HP, HO6, C66, HX6, HB6⟩
              case measure => simp [intOf]; omega
          · have hjm' : j = m := by omega
            have HE2 : Hid (ndO (bfsO ops) (i + 1) = L) := Lib.hid (by
              have := HE.out
              rw [List.take_of_length_le (by rw [HRL.out]; omega)] at this
              rw [← this, ← HBP.out]
              rfl)
            have c6 := C6.out
            have h6s := World.block_lt_of_cell? _ _ C6.out
            go_wp2
            go_roundw
            case rel => exact ⟨i + 1, go, co, cs, L, G, by omega, by go_num, rfl, HE2, hgm, hg6, h6s, HL, HO, c6, HB⟩
            case measure => simp [intOf]; omega
      · have hin' : i = n := by omega
        subst hin'
        have hE := HE.out
        subst hE
        go_wp2
        go_ret2
        exact ⟨_, _, _, _, _, rfl, HL.out, HB.out⟩
  · rw [ndZ_no hz]
    generalize codeO ops = z at *
    have hne : (z != 0) = true := by simpa using hz
    have HC := Lib.hid hcall
    clear hcall h hl
    go_enter Try.func23, Try.ntmps23
    go_wp2_with fail
    refine (HC.out).mono ?_
    rintro e w1 ⟨rfl, hb1⟩
    go_wp2
    go_ret2
    exact ssPost_nil hb1

set_option maxRecDepth 100000 in
set_option maxHeartbeats 8000000 in
theorem specNeedlessBefore_any (A : Option Addr) (n c : Nat) (ops : List OpV) (w : World) (h : RdO w A n c ops) :
    Calls Try.prog 24 #[.slice A n c] w (SsPost w (ndZ ops).1 (ndZ ops).2) := by
  obtain ⟨i1, hj, hy0, hy1, hy2⟩ := info_parts info_sl
  have hcall := l13Code_any A n c ops w h
  have hl := h.len
  have h1 := h.cap
  have h2 := h.max
  have H := Lib.hid h
  by_cases hz : codeO ops = 0
  · obtain ⟨hok, hcc⟩ := codeO_ok hz
    rw [ndZ_ok hz hl]
    rw [hz] at hcall
    have hn14 := hok.len
    rw [hl] at hn14
    have hbf := bfs_ok hok hl
    have hbl := bf_len hok
    have hol := ndO_len hbl
    have HBE := Lib.hid (fun k W h hk => l13Before_any A n c ops k W h hok hk)
    have HC := Lib.hid hcall
    have HBF := Lib.hid hbf
    have HBL := Lib.hid hbl
    have HOL := Lib.hid hol
    clear hcall h hok hcc hz hl hbf hbl hol
    go_enter Try.func24, Try.ntmps24
    go_wp2_with fail
    refine (HC.out).mono ?_
    rintro e w1 ⟨rfl, hb1⟩
    have hs1 := hb1.size
    have HL0 := Lib.hid (ownL_made w1 w.heap.size hs1)
    have hb2 : Below w.heap.size w (w1.alloc (.cells #[] 28)) := hb1.alloc hs1 _
    have HB2 := Lib.hid hb2
    clear hb1 hb2
    go_wp2
    go_loopw [5, 6] (fun vo vi wr => ∃ (i go co : Nat) (cs : List Value) (L : List (List Int)) (G : Nat → Nat), i ≤ n ∧ vi = .int .i64 i ∧ vo = .slice (some ⟨go, 0, none⟩) L.length co ∧ Hid (ndO (bfsO ops) i = L) ∧ Hid (OwnL wr w.heap.size (some ⟨go, 0, none⟩) L.length co cs L G) ∧ Hid (Below w.heap.size w wr)) (fun _ vi _ => n - (intOf vi).toNat)
    case atStart => exact ⟨0, _, _, _, [], _, Nat.zero_le _, rfl, rfl, Lib.hid rfl, HL0, HB2⟩
    case round =>
      clear HL0 HB2
      obtain ⟨i, go, co, cs, L, G, hin, rfl, rfl, HE, HL, HB⟩ := hrel
      by_cases hlt : i < n
      · have hi0 : (0 : Int) ≤ (i : Int) := by omega
        have hi1 : (i : Int) < (n : Int) := by omega
        obtain ⟨p, b, o, B, m, d, hp, hps, hA, hbl, e0, e1, e2, hrd⟩ := H.out.op hlt
        subst hA
        have c2 := cell_bel e2 HB.out
        have hm14 := HBL.out i
        have hol := HOL.out i
        have hbp := bf_at hp
        have hrl := hrd.ilen
        rw [hbp, hrl] at hm14
        rw [HE.out] at hol
        have hrc := hrd.cap
        have hrm := hrd.max
        have HRD := Lib.hid hrd
        have HRL := Lib.hid hrl
        have HBP := Lib.hid hbp
        have HE0 : Hid (ndO (bfsO ops) i ++ ndI (bfsO ops) p.bf i (p.bf.take 0) = L) := Lib.hid (by rw [HE.out]; simp [ndI])
        clear e0 e1 e2 hrd hrl hp hbp
        go_wp2
        go_loopw [5, 8] (fun vo vj wq => ∃ (j go co : Nat) (cs : List Value) (L : List (List Int)) (G : Nat → Nat), j ≤ m ∧ vj = .int .i64 j ∧ vo = .slice (some ⟨go, 0, none⟩) L.length co ∧ Hid (ndO (bfsO ops) i ++ ndI (bfsO ops) p.bf i (p.bf.take j) = L) ∧ L.length ≤ 14 * i + j ∧ Hid (OwnL wq w.heap.size (some ⟨go, 0, none⟩) L.length co cs L G) ∧ Hid (Below w.heap.size w wq)) (fun _ vj _ => m - (intOf vj).toNat)
        case atStart => exact ⟨0, go, co, cs, L, G, Nat.zero_le _, rfl, rfl, HE0, by omega, HL, HB⟩
        case round =>
          clear HE HE0 HL HB c2
          obtain ⟨j, go, co, cs, L, G, hjm, rfl, rfl, HE, hll, HL, HB⟩ := hrel
          by_cases hlj : j < m
          · obtain ⟨b3, o3, x, hB, hb3, hx, hc3⟩ := HRD.out.int hlj
            subst hB
            have hxr := HBF.out.hb i x (by rw [HBP.out]; exact List.mem_of_getElem? hx)
            obtain ⟨v, rfl⟩ := Int.eq_ofNat_of_zero_le hxr.1
            have hv : v < n := by omega
            have hv0 : (0 : Int) ≤ (v : Int) := by omega
            have hv1 : (v : Int) < (n : Int) := by omega
            have hj0 : (0 : Int) ≤ (j : Int) := by omega
            have hj1 : (j : Int) < (m : Int) := by omega
            have hyes := ndI_yes (bfs := bfsO ops) (b := p.bf) (i := i) hx
            have hno := ndI_no (bfs := bfsO ops) (b := p.bf) (i := i) hx
            have HYS := Lib.hid hyes
            have HNO := Lib.hid hno
            have HC3 := Lib.hid hc3
            clear hyes hno hx hc3
            go_wp2
            go_loopw [9, 10] (fun vz vq wq => ∃ (q : Nat) (z : Bool), q ≤ m ∧ vq = .int .i64 q ∧ vz = .bool z ∧ Hid (ndB (bfsO ops) (p.bf.take q) v = z) ∧ Hid (OwnL wq w.heap.size (some ⟨go, 0, none⟩) L.length co cs L G) ∧ Hid (Below w.heap.size w wq)) (fun _ vq _ => m - (intOf vq).toNat)
            case atStart => exact ⟨0, false, Nat.zero_le _, rfl, rfl, Lib.hid (by simp [ndB]), HL, HB⟩
            case round =>
              clear HL HB
              obtain ⟨q, z, hqm, rfl, rfl, HZ, HL, HB⟩ := hrel
              have hs := HB.out.size
              have cx := cell_bel HC3.out HB.out
              by_cases hlq : q < m
              · obtain ⟨b4, o4, y, hB4, hb4', hy, hc4⟩ := HRD.out.int hlq
                injection hB4 with hB4
                injection hB4 with e4 e5
                subst e4
                subst e5
                have hyr := HBF.out.hb i y (by rw [HBP.out]; exact List.mem_of_getElem? hy)
                obtain ⟨u, rfl⟩ := Int.eq_ofNat_of_zero_le hyr.1
                have hu : u < n := by omega
                have cu := cell_bel hc4 HB.out
                have hq0 : (0 : Int) ≤ (q : Int) := by omega
                have hq1 : (q : Int) < (m : Int) := by omega
                have hsn := ndB_snoc (bfs := bfsO ops) (k := v) hy
                rw [HZ.out] at hsn
                have HSN := Lib.hid hsn
                clear hy hc4 hsn
                cases z with
                | true =>
                  have HZ2 : Hid (ndB (bfsO ops) (p.bf.take (q + 1)) v = true) := Lib.hid (by rw [HSN.out]; rfl)
                  go_wp2
                  go_quiet (fail)
                  have HL2 := Lib.hid (HL.out.below (below_drewN (Below.refl _ _) nq))
                  have HB2 := Lib.hid (below_drewN HB.out nq)
                  go_wp2
                  go_roundw
                  case rel => exact ⟨q + 1, true, by omega, by go_num, rfl, HZ2, HL2, HB2⟩
                  case measure => simp [intOf]; omega
                | false =>
                  have HBW := Lib.hid (fun W hb => HBE.out u W (H.out.below (HB.out.trans (Below.mono hb HB.out.size))) hu)
                  go_wp2
                  refine wp_region_noPanic ?_
                  refine wp_region_held_drew (S := (fun w' => w'.cell? ⟨b3, o3 + q, none⟩ = some (.int .i64 u) ∧ w'.cell? ⟨b3, o3 + j, none⟩ = some (.int .i64 v) ∧ Below wr.heap.size wr w')) (by kernel_rfl) ?_ (fun hHeld => ?_)
                  · exact ⟨cu, cx, (Below.refl _ _).drew⟩
                  refine wpAnyH_take (i := 0) (oi := { dst := some 40, op := Op.move (Operand.tmp 9), type := 4, pos := "l13_operations.go:197", after := #[], guard := none }) (v := ?_) rfl (by kernel_rfl) (by kernel_rfl) (by kernel_rfl) (fun _ _ _ h => h) (Or.inl ⟨by rfl, ?_⟩) (by assumption) ?_
                  rotate_left
                  · intro w hSw
                    (try dsimp only at hSw)
                    go_simp
                    try with_reducible rfl
                  try simp only [Act.put, List.setIfInBounds_toArray, List.set_cons_zero, List.set_cons_succ]
                  refine wpAnyH_take (i := 1) (oi := { dst := some 41, op := Op.move (Operand.tmp 40), type := 4, pos := "l13_operations.go:197", after := #[{ on := 0, ground := Ground.data }], guard := none }) (v := ?_) rfl (by kernel_rfl) (by kernel_rfl) (by kernel_rfl) (fun _ _ _ h => h) (Or.inl ⟨by rfl, ?_⟩) (by assumption) ?_
                  rotate_left
                  · intro w hSw
                    (try dsimp only at hSw)
                    go_simp
                    try with_reducible rfl
                  try simp only [Act.put, List.setIfInBounds_toArray, List.set_cons_zero, List.set_cons_succ]
                  refine wpAnyH_take (i := 2) (oi := { dst := some 42, op := Op.move (Operand.tmp 0), type := 24, pos := "l13_operations.go:197", after := #[{ on := 1, ground := Ground.guard }], guard := some (1, false) }) (v := ?_) rfl (by kernel_rfl) (by kernel_rfl) (by kernel_rfl) (fun _ _ _ h => h) (Or.inl ⟨by rfl, ?_⟩) (by assumption) ?_
                  rotate_left
                  · intro w hSw
                    (try dsimp only at hSw)
                    go_simp
                    try with_reducible rfl
                  try simp only [Act.put, List.setIfInBounds_toArray, List.set_cons_zero, List.set_cons_succ]
                  refine wpAnyH_take (i := 3) (oi := { dst := some 43, op := Op.move (Operand.tmp 7), type := 28, pos := "l13_operations.go:197", after := #[{ on := 1, ground := Ground.guard }], guard := some (1, false) }) (v := ?_) rfl (by kernel_rfl) (by kernel_rfl) (by kernel_rfl) (fun _ _ _ h => h) (Or.inl ⟨by rfl, ?_⟩) (by assumption) ?_
                  rotate_left
                  · intro w hSw
                    (try dsimp only at hSw)
                    go_simp
                    try with_reducible rfl
                  try simp only [Act.put, List.setIfInBounds_toArray, List.set_cons_zero, List.set_cons_succ]
                  refine wpAnyH_take (i := 4) (oi := { dst := some 44, op := Op.move (Operand.tmp 10), type := 3, pos := "l13_operations.go:197", after := #[{ on := 1, ground := Ground.guard }], guard := some (1, false) }) (v := ?_) rfl (by kernel_rfl) (by kernel_rfl) (by kernel_rfl) (fun _ _ _ h => h) (Or.inl ⟨by rfl, ?_⟩) (by assumption) ?_
                  rotate_left
                  · intro w hSw
                    (try dsimp only at hSw)
                    go_simp
                    try with_reducible rfl
                  try simp only [Act.put, List.setIfInBounds_toArray, List.set_cons_zero, List.set_cons_succ]
                  refine wpAnyH_take (i := 5) (oi := { dst := some 45, op := Op.indexAddr 28 (Operand.tmp 43) (Operand.tmp 44), type := 0, pos := "l13_operations.go:197", after := #[{ on := 3, ground := Ground.data }, { on := 4, ground := Ground.data }, { on := 1, ground := Ground.guard }], guard := some (1, false) }) (v := ?_) rfl (by kernel_rfl) (by kernel_rfl) (by kernel_rfl) (fun _ _ _ h => h) (Or.inl ⟨by rfl, ?_⟩) (by assumption) ?_
                  rotate_left
                  · intro w hSw
                    (try dsimp only at hSw)
                    go_simp
                    try with_reducible rfl
                  try simp only [Act.put, List.setIfInBounds_toArray, List.set_cons_zero, List.set_cons_succ]
                  refine wpAnyH_take (i := 6) (oi := { dst := some 46, op := Op.load 2 (Operand.tmp 45), type := 2, pos := "l13_operations.go:197", after := #[{ on := 5, ground := Ground.data }, { on := 1, ground := Ground.guard }], guard := some (1, false) }) (v := ?_) rfl (by kernel_rfl) (by kernel_rfl) (by kernel_rfl) (fun _ _ _ h => h) (Or.inl ⟨by rfl, ?_⟩) (by assumption) ?_
                  rotate_left
                  · intro w hSw
                    (try dsimp only at hSw)
                    go_simp
                    try with_reducible rfl
                  try simp only [Act.put, List.setIfInBounds_toArray, List.set_cons_zero, List.set_cons_succ]
                  refine wpAnyH_take (i := 8) (oi := { dst := some 48, op := Op.move (Operand.tmp 7), type := 28, pos := "l13_operations.go:197", after := #[{ on := 1, ground := Ground.guard }], guard := some (1, false) }) (v := ?_) rfl (by kernel_rfl) (by kernel_rfl) (by kernel_rfl) (fun _ _ _ h => h) (Or.inl ⟨by rfl, ?_⟩) (by assumption) ?_
                  rotate_left
                  · intro w hSw
                    (try dsimp only at hSw)
                    go_simp
                    try with_reducible rfl
                  try simp only [Act.put, List.setIfInBounds_toArray, List.set_cons_zero, List.set_cons_succ]
                  refine wpAnyH_take (i := 9) (oi := { dst := some 49, op := Op.move (Operand.tmp 8), type := 3, pos := "l13_operations.go:197", after := #[{ on := 1, ground := Ground.guard }], guard := some (1, false) }) (v := ?_) rfl (by kernel_rfl) (by kernel_rfl) (by kernel_rfl) (fun _ _ _ h => h) (Or.inl ⟨by rfl, ?_⟩) (by assumption) ?_
                  rotate_left
                  · intro w hSw
                    (try dsimp only at hSw)
                    go_simp
                    try with_reducible rfl
                  try simp only [Act.put, List.setIfInBounds_toArray, List.set_cons_zero, List.set_cons_succ]
                  refine wpAnyH_take (i := 10) (oi := { dst := some 50, op := Op.indexAddr 28 (Operand.tmp 48) (Operand.tmp 49), type := 0, pos := "l13_operations.go:197", after := #[{ on := 8, ground := Ground.data }, { on := 9, ground := Ground.data }, { on := 1, ground := Ground.guard }], guard := some (1, false) }) (v := ?_) rfl (by kernel_rfl) (by kernel_rfl) (by kernel_rfl) (fun _ _ _ h => h) (Or.inl ⟨by rfl, ?_⟩) (by assumption) ?_
                  rotate_left
                  · intro w hSw
                    (try dsimp only at hSw)
                    go_simp
                    try with_reducible rfl
                  try simp only [Act.put, List.setIfInBounds_toArray, List.set_cons_zero, List.set_cons_succ]
                  refine wpAnyH_take (i := 11) (oi := { dst := some 51, op := Op.load 2 (Operand.tmp 50), type := 2, pos := "l13_operations.go:197", after := #[{ on := 10, ground := Ground.data }, { on := 1, ground := Ground.guard }], guard := some (1, false) }) (v := ?_) rfl (by kernel_rfl) (by kernel_rfl) (by kernel_rfl) (fun _ _ _ h => h) (Or.inl ⟨by rfl, ?_⟩) (by assumption) ?_
                  rotate_left
                  · intro w hSw
                    (try dsimp only at hSw)
                    go_simp
                    try with_reducible rfl
                  try simp only [Act.put, List.setIfInBounds_toArray, List.set_cons_zero, List.set_cons_succ]
                  refine wpAnyH_ready (rs := [7]) (by kernel_rfl) (by simp) ?_
                  refine AllReadyH.cons (o := { dst := some 47, op := Op.call { callee := Callee.value (Operand.func 69), args := #[Operand.tmp 42, Operand.tmp 46], argTypes := #[24, 2] }, type := 65, pos := "l13_operations.go:197", after := #[{ on := 2, ground := Ground.data }, { on := 6, ground := Ground.data }, { on := 1, ground := Ground.chain }, { on := 1, ground := Ground.guard }], guard := some (1, false) }) rfl (fun K hK => ?_) ?_
                  rotate_left
                  · exact AllReadyH.nil
                  go_simp
                  (go_at_call 69; refine (HBW.out _ hHeld.2.2).mono ?_; rintro e w5 ⟨g, s, rfl, ho, hsl, hse, hb⟩; have cg := own_bool ho hv hsl; rw [seen_rch hse] at cg; clear ho hsl hse)
                  refine hK.out _ _ ?_ (fun hHeld => ?_)
                  · exact ⟨cell_bel hHeld.1 hb, cell_bel hHeld.2.1 hb, hHeld.2.2.trans (hb.mono hHeld.2.2.size)⟩
                  clear hK K
                  try simp only [Act.put, List.setIfInBounds_toArray, List.set_cons_zero, List.set_cons_succ]
                  refine wpAnyH_take (i := 12) (oi := { dst := some 52, op := Op.indexAddr 65 (Operand.tmp 47) (Operand.tmp 51), type := 0, pos := "l13_operations.go:197", after := #[{ on := 7, ground := Ground.data }, { on := 11, ground := Ground.data }, { on := 1, ground := Ground.guard }], guard := some (1, false) }) (v := ?_) rfl (by kernel_rfl) (by kernel_rfl) (by kernel_rfl) (fun _ _ _ h => h) (Or.inl ⟨by rfl, ?_⟩) (by assumption) ?_
                  rotate_left
                  · intro w hSw
                    (try dsimp only at hSw)
                    go_simp
                    try with_reducible rfl
                  try simp only [Act.put, List.setIfInBounds_toArray, List.set_cons_zero, List.set_cons_succ]
                  refine wpAnyH_ready (rs := [13]) (by kernel_rfl) (by simp) ?_
                  refine AllReadyH.cons (o := { dst := some 53, op := Op.load 4 (Operand.tmp 52), type := 4, pos := "l13_operations.go:197", after := #[{ on := 12, ground := Ground.data }, { on := 1, ground := Ground.guard }], guard := some (1, false) }) rfl (fun K hK => ?_) ?_
                  rotate_left
                  · exact AllReadyH.nil
                  go_simp
                  refine hK.out _ _ ?_ (fun hHeld => ?_)
                  · exact hHeld
                  clear hK K
                  try simp only [Act.put, List.setIfInBounds_toArray, List.set_cons_zero, List.set_cons_succ]
                  refine wpAnyH_take (i := 14) (oi := { dst := some 54, op := Op.pick (Operand.tmp 41) (Operand.const (Value.bool true)) (Operand.tmp 53), type := 4, pos := "l13_operations.go:197", after := #[{ on := 1, ground := Ground.data }, { on := 13, ground := Ground.data }], guard := none }) (v := ?_) rfl (by kernel_rfl) (by kernel_rfl) (by kernel_rfl) (fun _ _ _ h => h) (Or.inl ⟨by rfl, ?_⟩) (by assumption) ?_
                  rotate_left
                  · intro w hSw
                    (try dsimp only at hSw)
                    go_simp
                    try with_reducible rfl
                  try simp only [Act.put, List.setIfInBounds_toArray, List.set_cons_zero, List.set_cons_succ]
                  refine wpAnyH_take (i := 15) (oi := { dst := some 9, op := Op.assign (Operand.tmp 54), type := 4, pos := "l13_operations.go:197", after := #[{ on := 14, ground := Ground.data }, { on := 7, ground := Ground.chain }, { on := 0, ground := Ground.phase }, { on := 1, ground := Ground.phase }, { on := 2, ground := Ground.phase }, { on := 3, ground := Ground.phase }, { on := 4, ground := Ground.phase }, { on := 5, ground := Ground.phase }, { on := 6, ground := Ground.phase }, { on := 7, ground := Ground.phase }, { on := 8, ground := Ground.phase }, { on := 9, ground := Ground.phase }, { on := 10, ground := Ground.phase }, { on := 11, ground := Ground.phase }, { on := 12, ground := Ground.phase }, { on := 13, ground := Ground.phase }, { on := 14, ground := Ground.phase }], guard := none }) (v := ?_) rfl (by kernel_rfl) (by kernel_rfl) (by kernel_rfl) (fun _ _ _ h => h) (Or.inl ⟨by rfl, ?_⟩) (by assumption) ?_
                  rotate_left
                  · intro w hSw
                    (try dsimp only at hSw)
                    go_simp
                    try with_reducible rfl
                  try simp only [Act.put, List.setIfInBounds_toArray, List.set_cons_zero, List.set_cons_succ]
                  refine wpAnyH_done (by kernel_rfl) ?_ _
                  refine NoPanic.normal ?_
                  have hb6 := hHeld.2.2
                  have HL2 := Lib.hid (HL.out.below hb6)
                  have HB2 := Lib.hid (HB.out.trans (hb6.mono HB.out.size))
                  have HZ2 : Hid (ndB (bfsO ops) (p.bf.take (q + 1)) v = rchB (bfsO ops) u v) := Lib.hid (by rw [HSN.out]; rfl)
                  generalize rchB (bfsO ops) u v = z2 at *
                  clear hb6 hHeld
                  go_wp2
                  go_roundw
                  case rel => exact ⟨q + 1, z2, by omega, by go_num, rfl, HZ2, HL2, HB2⟩
                  case measure => simp [intOf]; omega
              · have hfull : ndB (bfsO ops) p.bf v = z := by
                  have := HZ.out
                  rw [List.take_of_length_le (by rw [HRL.out]; omega)] at this
                  exact this
                cases z with
                | false =>
                  have HE2 : Hid (ndO (bfsO ops) i ++ ndI (bfsO ops) p.bf i (p.bf.take (j + 1)) = L) := Lib.hid (by rw [HNO.out hfull]; exact HE.out)
                  clear hfull
                  go_wp2
                  go_roundw
                  case rel => exact ⟨j + 1, go, co, cs, L, G, by omega, by go_num, rfl, HE2, by omega, HL, HB⟩
                  case measure => simp [intOf]; omega
                | true =>
                  have HE2 : Hid (ndO (bfsO ops) i ++ ndI (bfsO ops) p.bf i (p.bf.take (j + 1)) = L ++ [[(i : Int), (v : Int)]]) := Lib.hid (by rw [HYS.out hfull, ← List.append_assoc, HE.out])
                  clear hfull
                  have hOb5 := own_block HL.out.own go rfl
                  have hcap := (Rd.of_own HL.out.own).cap
                  have hmax := (Rd.of_own HL.out.own).max
                  have hlit := World.ownsRow_lit (e := 2) (size := 1) (base := w.heap.size) wr #[.int .i64 i, .int .i64 v] 2 HB.out.size (by unfold maxLen; omega) (by simp)
                  have ha1 : Below wr.heap.size wr (wr.alloc (.cells #[.int .i64 i, .int .i64 v] 2)) := (Below.refl _ _).alloc (Nat.le_refl _) _
                  have hz1' : (wr.alloc (.cells #[.int .i64 i, .int .i64 v] 2)).heap.size = wr.heap.size + 1 := by simp
                  have ha2 : Below wr.heap.size wr ((wr.alloc (.cells #[.int .i64 i, .int .i64 v] 2)).alloc (.cells #[.slice (some ⟨wr.heap.size, 0, none⟩) 2 2] 28)) := ha1.alloc (by simp) _
                  have ha3 : Below (wr.alloc (.cells #[.int .i64 i, .int .i64 v] 2)).heap.size (wr.alloc (.cells #[.int .i64 i, .int .i64 v] 2)) ((wr.alloc (.cells #[.int .i64 i, .int .i64 v] 2)).alloc (.cells #[.slice (some ⟨wr.heap.size, 0, none⟩) 2 2] 28)) := (Below.refl _ _).alloc (Nat.le_refl _) _
                  have hlit2 := own_below hlit ha3
                  have hsz2 : ((wr.alloc (.cells #[.int .i64 i, .int .i64 v] 2)).alloc (.cells #[.slice (some ⟨wr.heap.size, 0, none⟩) 2 2] 28)).heap.size = wr.heap.size + 2 := by simp
                  have HA2 := Lib.hid ha2
                  have HLI := Lib.hid hlit2
                  have HZ1 := Lib.hid hz1'
                  have HZ2 := Lib.hid hsz2
                  clear hlit ha1 ha2 ha3 hlit2 hz1' hsz2
                  go_wp2_with (at_builtin; refine wpList_append_own_at _ rfl (.tmp 56) (.tmp 63) 31 rfl w.heap.size 28 i1 (.slice none 0 0) 1 24 Try.underlying31 hj hy0 hy1 hy2 rfl (by decide) (Value.slice (some ⟨go, 0, none⟩) L.length co) _ _ rfl ((HL.out.own.alloc _).alloc _) ⟨_, 0, none⟩ 1 1 [.slice (some ⟨wr.heap.size, 0, none⟩) 2 2] rfl rfl (by have := cell_one_new (wr.alloc (.cells #[.int .i64 i, .int .i64 v] 2)) (.slice (some ⟨wr.heap.size, 0, none⟩) 2 2) 28; rw [HZ1.out] at this; exact this) (by intro u hu; simp at hu; subst hu; rfl) (by unfold maxLen; omega) (by omega) (by rw [HZ2.out]; omega) ?_; intro v' wa hown' hga' hdel hblk; clear hdel)
                  obtain ⟨g3, d3, hv', hg3, _⟩ := own_form hown' (by omega)
                  subst hv'
                  have hP := HL.out.push (xs := [(i : Int), (v : Int)]) HA2.out (Nat.le_refl _) HLI.out hown' hga' hblk
                  have b5 := (HB.out.trans (HA2.out.mono HB.out.size)).grown hga' (by rw [HZ2.out]; omega) (fun k hk => by simp [Value.ownBlock] at hk; omega)
                  have HP := Lib.hid hP
                  have HB6 := Lib.hid b5
                  have hln : (L ++ [[(i : Int), (v : Int)]]).length = L.length + 1 := by simp
                  have HLN := Lib.hid hln
                  clear hown' hga' hblk hP b5 hln
                  go_wp2
                  go_roundw
                  case rel => exact ⟨j + 1, g3, d3, _, _, _, by omega, by go_num, by rw [HLN.out], HE2, by rw [HLN.out]; omega, by rw [HLN.out]; exact HP, HB6⟩
                  case measure => simp [intOf]; omega
          · have hjm' : j = m := by omega
            have HE2 : Hid (ndO (bfsO ops) (i + 1) = L) := Lib.hid (by
              have := HE.out
              rw [List.take_of_length_le (by rw [HRL.out]; omega)] at this
              rw [← this, ← HBP.out]
              rfl)
            go_wp2
            go_roundw
            case rel => exact ⟨i + 1, go, co, cs, L, G, by omega, by go_num, rfl, HE2, HL, HB⟩
            case measure => simp [intOf]; omega
      · have hin' : i = n := by omega
        subst hin'
        have hE := HE.out
        subst hE
        go_wp2
        go_ret2
        exact ⟨_, _, _, _, _, rfl, HL.out, HB.out⟩
  · rw [ndZ_no hz]
    generalize codeO ops = z at *
    have hne : (z != 0) = true := by simpa using hz
    have HC := Lib.hid hcall
    clear hcall h hl
    go_enter Try.func24, Try.ntmps24
    go_wp2_with fail
    refine (HC.out).mono ?_
    rintro e w1 ⟨rfl, hb1⟩
    go_wp2
    go_ret2
    exact ssPost_nil hb1

set_option maxRecDepth 100000 in
set_option maxHeartbeats 8000000 in
theorem law_NeedlessBefore (A : Option Addr) (n c : Nat) (ops : List OpV) (w : World) (hA : RdO w A n c ops) :
    Calls Try.prog 13 #[.slice A n c] w fun e w' => e = .returned (.bool true) ∧ Below w.heap.size w w' := by
  have eA1 := hA.cap
  have eA2 := hA.max
  have lA := hA.len
  have hsp := fun A n c W h => specNeedlessBefore_any A n c ops W h
  have him := fun A n c W h => implNeedlessBefore_any A n c ops W h
  have hlen := ndZ_tot ops
  generalize (ndZ ops).1 = R at *
  generalize (ndZ ops).2 = z at *
  have HA := Lib.hid hA
  have HSP := Lib.hid hsp
  have HIM := Lib.hid him
  clear hA hsp him lA
  have bz : Below w.heap.size w w := Below.refl _ _
  go_enter Try.func13, Try.ntmps13
  go_wp2_with fail
  refine (szOpS_any _ _ _ ops _ _ (HA.out.below bz) (by omega) (by omega)).mono ?_
  rintro e w0 ⟨q0, rfl, hq, hbz⟩
  have b0 : Below w.heap.size w w0 := bz.trans (hbz.mono bz.size)
  clear hbz
  rcases hq with rfl | ⟨hq0, hq1, hsh⟩
  · go_wp2
    go_ret
    exact ⟨rfl, b0⟩
  have SHA := Lib.hid hsh
  have hqn : ¬ q0 < 0 := by omega
  clear hsh
  have s0 := b0.size
  go_wp2_with fail
  refine (toOpS_any A n c ops _ (HA.out.below b0) SHA.out).mono ?_
  rintro e w1 ⟨gt0, cst0, Gt0, rfl, hP, hM, hb1⟩
  have b1 : Below w.heap.size w w1 := b0.trans (hb1.mono b0.size)
  have s1 := hb1.size
  have Pt01 := Lib.hid hP
  have Mt01 := Lib.hid hM
  clear hb1 hP hM
  go_wp2_with fail
  refine (HSP.out _ _ _ _ Pt01.out).mono ?_
  rintro e w2 ⟨Aw, nw, cw, csw, Gw, rfl, ho, hb2⟩
  have b2 : Below w.heap.size w w2 := b1.trans (hb2.mono b1.size)
  have s2 := hb2.size
  have Pt02 := Lib.hid (Pt01.out.below hb2)
  have Mt02 := Lib.hid (Mt01.out.below hb2)
  have Ow2 := Lib.hid (InL.new ho)
  clear hb2 Pt01 Mt01 ho
  go_wp2_with fail
  refine (toOpS_any A n c ops _ (HA.out.below b2) SHA.out).mono ?_
  rintro e w3 ⟨gx0, csx0, Gx0, rfl, hP, hM, hb3⟩
  have b3 : Below w.heap.size w w3 := b2.trans (hb3.mono b2.size)
  have s3 := hb3.size
  have Ow3 := Lib.hid (Ow2.out.below hb3)
  have Pt03 := Lib.hid (Pt02.out.below hb3)
  have Mt03 := Lib.hid (Mt02.out.below hb3)
  have Px03 := Lib.hid hP
  have Mx03 := Lib.hid hM
  clear hb3 Ow2 Pt02 Mt02 hP hM
  go_wp2_with fail
  refine (HIM.out _ _ _ _ Px03.out).mono ?_
  rintro e w4 ⟨Ag, ng, cg, csg, Gg, rfl, ho, hb4⟩
  have b4 : Below w.heap.size w w4 := b3.trans (hb4.mono b3.size)
  have s4 := hb4.size
  have Ow4 := Lib.hid (Ow3.out.below hb4)
  have Pt04 := Lib.hid (Pt03.out.below hb4)
  have Mt04 := Lib.hid (Mt03.out.below hb4)
  have Px04 := Lib.hid (Px03.out.below hb4)
  have Mx04 := Lib.hid (Mx03.out.below hb4)
  have Og4 := Lib.hid (InL.new ho)
  clear hb4 Ow3 Pt03 Mt03 Px03 Mx03 ho
  go_wp2_with fail
  refine (eqInt64SS_any _ _ _ _ _ _ R _ Og4.out.rd Ow4.out.rd).mono ?_
  rintro e w5 ⟨rfl, hb5⟩
  have b5 : Below w.heap.size w w5 := b4.trans (hb5.mono b4.size)
  have s5 := hb5.size
  have Ow5 := Lib.hid (Ow4.out.below hb5)
  have Og5 := Lib.hid (Og4.out.below hb5)
  have Pt05 := Lib.hid (Pt04.out.below hb5)
  have Mt05 := Lib.hid (Mt04.out.below hb5)
  have Px05 := Lib.hid (Px04.out.below hb5)
  have Mx05 := Lib.hid (Mx04.out.below hb5)
  clear hb5 Ow4 Og4 Pt04 Mt04 Px04 Mx04
  go_wp2_with fail
  refine (toOpS_any A n c ops _ (HA.out.below b5) SHA.out).mono ?_
  rintro e w6 ⟨gy0, csy0, Gy0, rfl, hP, hM, hb6⟩
  have b6 : Below w.heap.size w w6 := b5.trans (hb6.mono b5.size)
  have s6 := hb6.size
  have Ow6 := Lib.hid (Ow5.out.below hb6)
  have Og6 := Lib.hid (Og5.out.below hb6)
  have Pt06 := Lib.hid (Pt05.out.below hb6)
  have Mt06 := Lib.hid (Mt05.out.below hb6)
  have Px06 := Lib.hid (Px05.out.below hb6)
  have Mx06 := Lib.hid (Mx05.out.below hb6)
  have Py06 := Lib.hid hP
  have My06 := Lib.hid hM
  clear hb6 Ow5 Og5 Pt05 Mt05 Px05 Mx05 hP hM
  go_wp2_with fail
  refine (eqOpS_any _ _ _ _ _ ops _ Px06.out Py06.out).mono ?_
  rintro e w7 ⟨rfl, hb7⟩
  have b7 : Below w.heap.size w w7 := b6.trans (hb7.mono b6.size)
  have s7 := hb7.size
  have Ow7 := Lib.hid (Ow6.out.below hb7)
  have Og7 := Lib.hid (Og6.out.below hb7)
  have Pt07 := Lib.hid (Pt06.out.below hb7)
  have Mt07 := Lib.hid (Mt06.out.below hb7)
  have Px07 := Lib.hid (Px06.out.below hb7)
  have Mx07 := Lib.hid (Mx06.out.below hb7)
  have Py07 := Lib.hid (Py06.out.below hb7)
  have My07 := Lib.hid (My06.out.below hb7)
  clear hb7 Ow6 Og6 Pt06 Mt06 Px06 Mx06 Py06 My06
  go_wp2_with fail
  refine (markOpS_any _ _ _ _ _ _ _ _ Mx07.out SHA.out.1).mono ?_
  rintro e w8 ⟨⟨z8, rfl, z80, z81⟩, hout⟩
  have b8 : Below w.heap.size w w8 := Out.below b7 hout (by omega) b7.size
  have s8 := hout.size
  have Ow8 := Lib.hid (Ow7.out.out hout (by omega))
  have Og8 := Lib.hid (Og7.out.out hout (by omega))
  clear hout Ow7 Og7 Pt07 Mt07 Px07 Mx07 Py07 My07
  go_wp2_with fail
  refine (eqInt64SS_any _ _ _ _ _ _ R _ Og8.out.rd Ow8.out.rd).mono ?_
  rintro e w9 ⟨rfl, hb9⟩
  have b9 : Below w.heap.size w w9 := b8.trans (hb9.mono b8.size)
  have s9 := hb9.size
  have Ow9 := Lib.hid (Ow8.out.below hb9)
  have Og9 := Lib.hid (Og8.out.below hb9)
  clear hb9 Ow8 Og8
  go_wp2_with fail
  refine (markInt64SS_any _ _ _ _ _ R 1 _ Og9.out (by omega) (by omega)).mono ?_
  rintro e w10 ⟨rfl, hin, hout⟩
  have b10 : Below w.heap.size w w10 := Out.below b9 hout (by omega) b9.size
  have s10 := hout.size
  have Ow10 := Lib.hid (Ow9.out.out hout (by omega))
  have Og10 := Lib.hid hin
  clear hin hout Ow9 Og9
  go_wp2_with fail
  refine (heldInt64SS_any _ _ _ R 1 _ Og10.out.rd (by omega) (by omega)).mono ?_
  rintro e wz ⟨rfl, rfl⟩
  go_wp2_with fail
  refine (toOpS_any A n c ops _ (HA.out.below b10) SHA.out).mono ?_
  rintro e w11 ⟨gz0, csz0, Gz0, rfl, hP, hM, hb11⟩
  have b11 : Below w.heap.size w w11 := b10.trans (hb11.mono b10.size)
  have s11 := hb11.size
  have Ow11 := Lib.hid (Ow10.out.below hb11)
  have Og11 := Lib.hid (Og10.out.below hb11)
  have Pz011 := Lib.hid hP
  have Mz011 := Lib.hid hM
  clear hb11 Ow10 Og10 hP hM
  go_wp2_with fail
  refine (HIM.out _ _ _ _ Pz011.out).mono ?_
  rintro e w12 ⟨Ah, nh, ch, csh, Gh, rfl, ho, hb12⟩
  have b12 : Below w.heap.size w w12 := b11.trans (hb12.mono b11.size)
  have s12 := hb12.size
  have Ow12 := Lib.hid (Ow11.out.below hb12)
  have Og12 := Lib.hid (Og11.out.below hb12)
  have Pz012 := Lib.hid (Pz011.out.below hb12)
  have Mz012 := Lib.hid (Mz011.out.below hb12)
  have Oh12 := Lib.hid (InL.new ho)
  clear hb12 Ow11 Og11 Pz011 Mz011 ho
  go_wp2_with fail
  refine (eqInt64SS_any _ _ _ _ _ _ R _ Oh12.out.rd Ow12.out.rd).mono ?_
  rintro e w13 ⟨rfl, hb13⟩
  have b13 : Below w.heap.size w w13 := b12.trans (hb13.mono b12.size)
  have s13 := hb13.size
  have Ow13 := Lib.hid (Ow12.out.below hb13)
  have Og13 := Lib.hid (Og12.out.below hb13)
  have Oh13 := Lib.hid (Oh12.out.below hb13)
  have Pz013 := Lib.hid (Pz012.out.below hb13)
  have Mz013 := Lib.hid (Mz012.out.below hb13)
  clear hb13 Ow12 Og12 Oh12 Pz012 Mz012
  go_wp2_with fail
  refine (heldInt64SS_any _ _ _ R 1 _ Og13.out.rd (by omega) (by omega)).mono ?_
  rintro e wz ⟨rfl, rfl⟩
  go_wp2_with fail
  go_ret
  exact ⟨rfl, b13⟩

end Go.Proofs.Ytgghjieeckkpbaa
