/- Longest ways of the reference: l13Ends; what longest and l13Ends hand back. Printed by mkes.py. -/
import Derived.Test.YtgghjieeckkpbaaLgt
namespace Go.Proofs.Ytgghjieeckkpbaa
open Go.RowKit

def maxZ (a b : Int) : Int := if b < a then a else b
set_option maxHeartbeats 400000 in
theorem l00Max_any (a b : Int) (w : World) : Calls Try.prog 64 #[.int .i64 a, .int .i64 b] w fun e w' => e = .returned (.int .i64 (maxZ a b)) ∧ w = w' := by
  go_enter Try.func64, Try.ntmps64
  go_wp2
  all_goals
    go_ret
    exact ⟨ret_i (by unfold maxZ; split <;> omega), rfl⟩
theorem l00MaxM_any (a b : Int) (w : World) : Calls Try.prog 64 #[.int .i64 a, .int .i64 b] w fun e w' => e = .returned (.int .i64 (max a b)) ∧ w = w' := by
  have h : maxZ a b = max a b := by unfold maxZ; split <;> omega
  rw [← h]
  exact l00Max_any a b w
/-- What an operation counts: its minutes; or one. -/
def wtM (ops : List OpV) (k : Nat) : Int := ((ops[k]?).map OpV.mn).getD 0
def wtR (_ : List OpV) (_ : Nat) : Int := 1
theorem wtM_bd {ops : List OpV} (h : OOk ops) (k : Nat) : 0 ≤ wtM ops k ∧ wtM ops k ≤ 600 := by
  unfold wtM
  cases hp : ops[k]? with
  | none => simp
  | some p =>
    have := inB_true (h.op k p hp).2.1
    simp only [Option.map_some, Option.getD_some]
    omega
theorem wtM_at {ops : List OpV} {k : Nat} {p : OpV} (h : ops[k]? = some p) : wtM ops k = p.mn := by unfold wtM; rw [h]; rfl
theorem wtR_bd (ops : List OpV) (k : Nat) : 0 ≤ wtR ops k ∧ wtR ops k ≤ 600 := by unfold wtR; omega
/-- The longest way to each operation's end. -/
def endL (ops : List OpV) (wt : Nat → Int) : List Int := endG (bfsO ops) wt ops.length ops.length
theorem endL_bd {ops : List OpV} {wt : Nat → Int} (hw : ∀ k, 0 ≤ wt k ∧ wt k ≤ 600) (hok : OOk ops) (j : Nat) : 0 ≤ (endL ops wt).getD j 0 ∧ (endL ops wt).getD j 0 ≤ 8400 := by
  have h1 := endG_bd (bfs := bfsO ops) (n := ops.length) hw ops.length j
  have h2 := hok.len
  unfold endL
  omega
def EndPost (n : Nat) (o : List Int) (w : World) (e : Ending) (w' : World) : Prop := ∃ g, e = .returned (.slice (some ⟨g, 0, none⟩) n n) ∧ w'.ownsRow w.heap.size 2 1 (.slice (some ⟨g, 0, none⟩) n n) n (ints o) ∧ Below w.heap.size w w'
theorem endL_len {ops : List OpV} (wt : Nat → Int) (hok : OOk ops) (hc : ∀ j, ¬ Rch (Eb (bfsO ops)) j j) : (endL ops wt).length = ops.length := by
  have hb := bfs_ok hok rfl
  exact (endG_ok wt hb.hb hb.hl hc _ (Nat.le_refl _)).ol
theorem longest_is (g : Nat) (eg : ∀ args w, (callFunc g args).run Try.prog w = .ok (.enter g args) w) (wt : Nat → Int) (A : Option Addr) (n c : Nat) (ops : List OpV) (w : World) (h : RdO w A n c ops) (hok : OOk ops) (hc : ∀ j, ¬ Rch (Eb (bfsO ops)) j j) (hg : NumO g wt ops) (hw : ∀ k, 0 ≤ wt k ∧ wt k ≤ 600) :
    Calls Try.prog 60 #[.slice A n c, .func (.func g) #[] #[]] w (EndPost n (endL ops wt) w) :=
  (longest_any g eg wt A n c ops w h hok hc hg hw).mono fun e w' hh => by
    obtain ⟨gb, out, d, he, ho, hE, hd, _, hb⟩ := hh
    have hl := h.len
    have hbf := bfs_ok hok hl
    have hI := (ordG_ok hbf.hb hbf.hl hc n (Nat.le_refl _)).1
    have e1 : out = endL ops wt := by
      unfold endL
      rw [hl]
      exact endG_is hbf.hb hbf.hl hc hE (by rw [hd]; exact all_seen hI)
    rw [← e1]
    exact ⟨gb, he, ho, hb⟩

set_option maxRecDepth 100000 in
set_option maxHeartbeats 8000000 in
theorem l13Ends_true (A : Option Addr) (n c : Nat) (ops : List OpV) (w : World) (h : RdO w A n c ops) (hok : OOk ops) (hc : ∀ j, ¬ Rch (Eb (bfsO ops)) j j) :
    Calls Try.prog 62 #[.slice A n c, .bool true] w (EndPost n (endL ops (wtM ops)) w) := by
  have hl := h.len
  have h1 := h.cap
  have h2 := h.max
  have hbf := bfs_ok hok hl
  have hn14 := hbf.hn
  have hI := (ordG_ok hbf.hb hbf.hl hc n (Nat.le_refl _)).1
  have hfin : ∀ (d : List Bool) (out : List Int), EsI (bfsO ops) (wtM ops) n (ordG (bfsO ops) n n).1 n 0 d out → endL ops (wtM ops) = out := fun d out h => by
    unfold endL
    rw [hl]
    exact (h.fin hbf.hb hbf.hl hc).symm
  have hmk := mkn n (by omega) w
  have hown0 := ownn n (by omega) w w.heap.size (Nat.le_refl _)
  have hsz : (w.alloc (.cells (cn n) 2)).heap.size = w.heap.size + 1 := by simp
  have hmk2 := mkb n (by omega) (w.alloc (.cells (cn n) 2))
  have hm0 := ownb n (by omega) (w.alloc (.cells (cn n) 2)) w.heap.size (by omega)
  rw [hsz] at hmk2 hm0
  have ha0 : Below (w.alloc (.cells (cn n) 2)).heap.size (w.alloc (.cells (cn n) 2)) ((w.alloc (.cells (cn n) 2)).alloc (.cells (bn n) 4)) := (Below.refl _ _).alloc (Nat.le_refl _) _
  have hb0 : Below w.heap.size w (w.alloc (.cells (cn n) 2)) := (Below.refl _ _).alloc (Nat.le_refl _) _
  have HO0 := Lib.hid (own_below hown0 ha0)
  have HM0 := Lib.hid hm0
  have HB0 := Lib.hid (hb0.trans (ha0.mono hb0.size))
  have HE0 := Lib.hid (esI0 (bfsO ops) (wtM ops) n (ordG (bfsO ops) n n).1)
  have hwt := wtM_bd hok
  have H := Lib.hid h
  have HK := Lib.hid hok
  have HI := Lib.hid hI
  have HF := Lib.hid hfin
  have HW := Lib.hid hwt
  have HBF := Lib.hid hbf
  generalize endL ops (wtM ops) = R at *
  generalize (ordG (bfsO ops) n n).1 = ord at *
  clear h hok hc hl hbf hI hfin hown0 hm0 ha0 hb0 hsz hwt
  go_enter Try.func62, Try.ntmps62
  go_wp2
  go_loopw [7] (fun vp wr => ∃ (p : Nat) (d : List Bool) (out : List Int), p ≤ n ∧ vp = .int .i64 p ∧ Hid (EsI (bfsO ops) (wtM ops) n ord p 0 d out) ∧ wr.ownsRow w.heap.size 2 1 (.slice (some ⟨w.heap.size, 0, none⟩) n n) n (ints out) ∧ wr.ownsRow w.heap.size 4 1 (.slice (some ⟨w.heap.size + 1, 0, none⟩) n n) n (bs d) ∧ Below w.heap.size w wr) (fun vp _ => n - (intOf vp).toNat)
  case atStart => exact ⟨0, _, _, Nat.zero_le _, rfl, HE0, HO0.out, HM0.out, HB0.out⟩
  case round =>
    obtain ⟨p, d, out, hp, rfl, HE, hown, hmar, hb⟩ := hrel
    have HO := Lib.hid hown
    have HM := Lib.hid hmar
    have HB := Lib.hid hb
    clear hown hmar hb
    by_cases hlp : p < n
    · have hp1 : (p : Int) < (n : Int) := by omega
      go_wp2
      go_loopw [8] (fun vk wr => ∃ (k : Nat) (d : List Bool) (out : List Int), k ≤ n ∧ vk = .int .i64 k ∧ Hid (EsI (bfsO ops) (wtM ops) n ord p k d out) ∧ wr.ownsRow w.heap.size 2 1 (.slice (some ⟨w.heap.size, 0, none⟩) n n) n (ints out) ∧ wr.ownsRow w.heap.size 4 1 (.slice (some ⟨w.heap.size + 1, 0, none⟩) n n) n (bs d) ∧ Below w.heap.size w wr) (fun vk _ => n - (intOf vk).toNat)
      case atStart => exact ⟨0, _, _, Nat.zero_le _, rfl, HE, HO.out, HM.out, HB.out⟩
      case round =>
        clear HE HO HM HB
        obtain ⟨k, d, out, hk, rfl, HE, hown, hmar, hb⟩ := hrel
        have HO := Lib.hid hown
        have HM := Lib.hid hmar
        have HB := Lib.hid hb
        have hml := (own_block hmar _ rfl)
        clear hown hmar hb
        by_cases hlk : k < n
        · have hk0 : (0 : Int) ≤ (k : Int) := by omega
          have hk1 : (k : Int) < (n : Int) := by omega
          have hcan := l13Can_any A n c ops w.heap.size (w.heap.size + 1) n k d wr (H.out.below HB.out) HK.out hlk HE.out.ed.dl HM.out
          have hskip := fun h => HE.out.skip HI.out h
          have hput := fun h => HE.out.put hlk (HW.out k) h
          have hbd := HE.out.bd
          have hdl := HE.out.ed.dl
          have hol := HE.out.ed.ol
          obtain ⟨q, b, o, B, m, e, hq, hqs, hA, hbl, e0, e1, e2, hrd⟩ := H.out.op hlk
          subst hA
          rw [bf_at hq] at hput
          generalize canB (bfsO ops) d k = z at *
          have HCN := Lib.hid hcan
          have HSK := Lib.hid hskip
          have HPT := Lib.hid hput
          have HBD := Lib.hid hbd
          have HDL := Lib.hid hdl
          have HOL := Lib.hid hol
          have HBQ := Lib.hid (bf_at hq)
          have HHQ := Lib.hid hq
          have HRD := Lib.hid hrd
          have hrc := hrd.cap
          have hrm := hrd.max
          have HRL := Lib.hid hrd.ilen
          clear hcan hskip hput hbd hdl hol hq hrd
          cases z with
          | false =>
            clear e0 e1 e2
            go_wp2_with fail
            refine (HCN.out).mono ?_
            rintro e wz ⟨rfl, rfl⟩
            go_wp2
            go_roundw
            case rel => exact ⟨k + 1, _, _, by omega, by go_num, Lib.hid (HSK.out (by trivial)), HO.out, HM.out, HB.out⟩
            case measure => simp [intOf]; omega
          | true =>
            have c1 := cell_bel e1 HB.out
            have c2 := cell_bel e2 HB.out
            clear e0 e1 e2
            go_wp2_with fail
            refine (HCN.out).mono ?_
            rintro e wz ⟨rfl, rfl⟩
            go_wp2
            go_loopw [10, 11] (fun vs vj wy => ∃ j : Nat, j ≤ m ∧ vj = .int .i64 j ∧ vs = .int .i64 (mx out (q.bf.take j)) ∧ wr = wy) (fun _ vj _ => m - (intOf vj).toNat)
            case atStart => exact ⟨0, Nat.zero_le _, rfl, rfl, rfl⟩
            case round =>
              obtain ⟨j, hj, rfl, rfl, hrel⟩ := hrel
              subst hrel
              by_cases hlj : j < m
              · obtain ⟨b3, o3, x, hB, hb3, hx, hc3⟩ := HRD.out.int hlj
                subst hB
                have c3 := cell_bel hc3 HB.out
                have hxr := HBF.out.hb k x (by rw [HBQ.out]; exact List.mem_of_getElem? hx)
                obtain ⟨v, rfl⟩ := Int.eq_ofNat_of_zero_le hxr.1
                have hv : v < n := by omega
                have hv0 : (0 : Int) ≤ (v : Int) := by omega
                have hv1 : (v : Int) < (n : Int) := by omega
                have hj0 : (0 : Int) ≤ (j : Int) := by omega
                have hj1 : (j : Int) < (m : Int) := by omega
                have cv := own_int HO.out hv HOL.out
                have hnew : mx out (q.bf.take (j + 1)) = max (mx out (q.bf.take j)) (out.getD v 0) := by
                  rw [List.take_add_one, hx]
                  show mx out (q.bf.take j ++ [(v : Int)]) = _
                  rw [mx_snoc, Int.toNat_natCast]
                generalize out.getD v 0 = xv at *
                have HNW := Lib.hid hnew
                clear hx hnew hc3
                go_wp2_with (go_at_call 64; refine (l00MaxM_any _ _ _).mono ?_; rintro e w' ⟨rfl, rfl⟩)
                go_roundw
                case rel => exact ⟨j + 1, by omega, by go_num, by rw [HNW.out], by trivial⟩
                case measure => simp [intOf]; omega
              · have hjm : j = m := by omega
                have htk : q.bf.take j = q.bf := List.take_of_length_le (by rw [HRL.out]; omega)
                have hmb := mx_bd (by omega) HBD.out q.bf
                have hwk := HW.out k
                have hnx := HPT.out (by trivial)
                rw [wtM_at HHQ.out] at hnx hwk
                have ck := own_int HO.out hlk HOL.out
                have cd := own_bool HM.out hlk HDL.out
                have hf1 := HO.out.frozenAt
                have hf2 := HM.out.frozenAt
                rw [htk]
                generalize mx out q.bf = u at *
                have S := own_iset HO.out k (u + q.mn)
                have m2 := own_other (g' := w.heap.size) HM.out S.2 (by omega)
                have b2 := HB.out.setCell (p := ⟨w.heap.size, k, none⟩) (Nat.le_refl _) (.int .i64 (u + q.mn))
                have S2 := own_bset m2 k true
                have o3 := own_other (g' := w.heap.size + 1) S.1 S2.2 (by omega)
                have b3 := b2.setCell (p := ⟨w.heap.size + 1, k, none⟩) (show w.heap.size ≤ w.heap.size + 1 by omega) (.bool true)
                have HN := Lib.hid hnx
                have HO3 := Lib.hid o3
                have HM3 := Lib.hid S2.1
                have HB3 := Lib.hid b3
                clear S m2 b2 S2 o3 b3 hnx htk
                go_wp2
                go_roundw
                case rel => exact ⟨k + 1, _, _, by omega, by go_num, HN, HO3.out, HM3.out, HB3.out⟩
                case measure => simp [intOf]; omega
        · have hkn : k = n := by omega
          subst hkn
          have HE2 := Lib.hid (HE.out.pass HI.out hn14)
          go_wp2
          go_roundw
          case rel => exact ⟨p + 1, _, _, by omega, by go_num, HE2, HO.out, HM.out, HB.out⟩
          case measure => simp [intOf]; omega
    · have hpn : p = n := by omega
      subst hpn
      have hR := HF.out _ _ HE.out
      subst hR
      go_wp2
      go_ret
      exact ⟨_, rfl, HO.out, HB.out⟩

set_option maxRecDepth 100000 in
set_option maxHeartbeats 8000000 in
theorem l13Ends_false (A : Option Addr) (n c : Nat) (ops : List OpV) (w : World) (h : RdO w A n c ops) (hok : OOk ops) (hc : ∀ j, ¬ Rch (Eb (bfsO ops)) j j) :
    Calls Try.prog 62 #[.slice A n c, .bool false] w (EndPost n (endL ops (wtR ops)) w) := by
  have hl := h.len
  have h1 := h.cap
  have h2 := h.max
  have hbf := bfs_ok hok hl
  have hn14 := hbf.hn
  have hI := (ordG_ok hbf.hb hbf.hl hc n (Nat.le_refl _)).1
  have hfin : ∀ (d : List Bool) (out : List Int), EsI (bfsO ops) (wtR ops) n (ordG (bfsO ops) n n).1 n 0 d out → endL ops (wtR ops) = out := fun d out h => by
    unfold endL
    rw [hl]
    exact (h.fin hbf.hb hbf.hl hc).symm
  have hmk := mkn n (by omega) w
  have hown0 := ownn n (by omega) w w.heap.size (Nat.le_refl _)
  have hsz : (w.alloc (.cells (cn n) 2)).heap.size = w.heap.size + 1 := by simp
  have hmk2 := mkb n (by omega) (w.alloc (.cells (cn n) 2))
  have hm0 := ownb n (by omega) (w.alloc (.cells (cn n) 2)) w.heap.size (by omega)
  rw [hsz] at hmk2 hm0
  have ha0 : Below (w.alloc (.cells (cn n) 2)).heap.size (w.alloc (.cells (cn n) 2)) ((w.alloc (.cells (cn n) 2)).alloc (.cells (bn n) 4)) := (Below.refl _ _).alloc (Nat.le_refl _) _
  have hb0 : Below w.heap.size w (w.alloc (.cells (cn n) 2)) := (Below.refl _ _).alloc (Nat.le_refl _) _
  have HO0 := Lib.hid (own_below hown0 ha0)
  have HM0 := Lib.hid hm0
  have HB0 := Lib.hid (hb0.trans (ha0.mono hb0.size))
  have HE0 := Lib.hid (esI0 (bfsO ops) (wtR ops) n (ordG (bfsO ops) n n).1)
  have hwt := wtR_bd ops
  have H := Lib.hid h
  have HK := Lib.hid hok
  have HI := Lib.hid hI
  have HF := Lib.hid hfin
  have HW := Lib.hid hwt
  have HBF := Lib.hid hbf
  generalize endL ops (wtR ops) = R at *
  generalize (ordG (bfsO ops) n n).1 = ord at *
  clear h hok hc hl hbf hI hfin hown0 hm0 ha0 hb0 hsz hwt
  go_enter Try.func62, Try.ntmps62
  go_wp2
  go_loopw [7] (fun vp wr => ∃ (p : Nat) (d : List Bool) (out : List Int), p ≤ n ∧ vp = .int .i64 p ∧ Hid (EsI (bfsO ops) (wtR ops) n ord p 0 d out) ∧ wr.ownsRow w.heap.size 2 1 (.slice (some ⟨w.heap.size, 0, none⟩) n n) n (ints out) ∧ wr.ownsRow w.heap.size 4 1 (.slice (some ⟨w.heap.size + 1, 0, none⟩) n n) n (bs d) ∧ Below w.heap.size w wr) (fun vp _ => n - (intOf vp).toNat)
  case atStart => exact ⟨0, _, _, Nat.zero_le _, rfl, HE0, HO0.out, HM0.out, HB0.out⟩
  case round =>
    obtain ⟨p, d, out, hp, rfl, HE, hown, hmar, hb⟩ := hrel
    have HO := Lib.hid hown
    have HM := Lib.hid hmar
    have HB := Lib.hid hb
    clear hown hmar hb
    by_cases hlp : p < n
    · have hp1 : (p : Int) < (n : Int) := by omega
      go_wp2
      go_loopw [8] (fun vk wr => ∃ (k : Nat) (d : List Bool) (out : List Int), k ≤ n ∧ vk = .int .i64 k ∧ Hid (EsI (bfsO ops) (wtR ops) n ord p k d out) ∧ wr.ownsRow w.heap.size 2 1 (.slice (some ⟨w.heap.size, 0, none⟩) n n) n (ints out) ∧ wr.ownsRow w.heap.size 4 1 (.slice (some ⟨w.heap.size + 1, 0, none⟩) n n) n (bs d) ∧ Below w.heap.size w wr) (fun vk _ => n - (intOf vk).toNat)
      case atStart => exact ⟨0, _, _, Nat.zero_le _, rfl, HE, HO.out, HM.out, HB.out⟩
      case round =>
        clear HE HO HM HB
        obtain ⟨k, d, out, hk, rfl, HE, hown, hmar, hb⟩ := hrel
        have HO := Lib.hid hown
        have HM := Lib.hid hmar
        have HB := Lib.hid hb
        have hml := (own_block hmar _ rfl)
        clear hown hmar hb
        by_cases hlk : k < n
        · have hk0 : (0 : Int) ≤ (k : Int) := by omega
          have hk1 : (k : Int) < (n : Int) := by omega
          have hcan := l13Can_any A n c ops w.heap.size (w.heap.size + 1) n k d wr (H.out.below HB.out) HK.out hlk HE.out.ed.dl HM.out
          have hskip := fun h => HE.out.skip HI.out h
          have hput := fun h => HE.out.put hlk (HW.out k) h
          have hbd := HE.out.bd
          have hdl := HE.out.ed.dl
          have hol := HE.out.ed.ol
          obtain ⟨q, b, o, B, m, e, hq, hqs, hA, hbl, e0, e1, e2, hrd⟩ := H.out.op hlk
          subst hA
          rw [bf_at hq] at hput
          generalize canB (bfsO ops) d k = z at *
          have HCN := Lib.hid hcan
          have HSK := Lib.hid hskip
          have HPT := Lib.hid hput
          have HBD := Lib.hid hbd
          have HDL := Lib.hid hdl
          have HOL := Lib.hid hol
          have HBQ := Lib.hid (bf_at hq)
          have HHQ := Lib.hid hq
          have HRD := Lib.hid hrd
          have hrc := hrd.cap
          have hrm := hrd.max
          have HRL := Lib.hid hrd.ilen
          clear hcan hskip hput hbd hdl hol hq hrd
          cases z with
          | false =>
            clear e0 e1 e2
            go_wp2_with fail
            refine (HCN.out).mono ?_
            rintro e wz ⟨rfl, rfl⟩
            go_wp2
            go_roundw
            case rel => exact ⟨k + 1, _, _, by omega, by go_num, Lib.hid (HSK.out (by trivial)), HO.out, HM.out, HB.out⟩
            case measure => simp [intOf]; omega
          | true =>
            have c1 := cell_bel e1 HB.out
            have c2 := cell_bel e2 HB.out
            clear e0 e1 e2
            go_wp2_with fail
            refine (HCN.out).mono ?_
            rintro e wz ⟨rfl, rfl⟩
            go_wp2
            go_loopw [10, 11] (fun vs vj wy => ∃ j : Nat, j ≤ m ∧ vj = .int .i64 j ∧ vs = .int .i64 (mx out (q.bf.take j)) ∧ wr = wy) (fun _ vj _ => m - (intOf vj).toNat)
            case atStart => exact ⟨0, Nat.zero_le _, rfl, rfl, rfl⟩
            case round =>
              obtain ⟨j, hj, rfl, rfl, hrel⟩ := hrel
              subst hrel
              by_cases hlj : j < m
              · obtain ⟨b3, o3, x, hB, hb3, hx, hc3⟩ := HRD.out.int hlj
                subst hB
                have c3 := cell_bel hc3 HB.out
                have hxr := HBF.out.hb k x (by rw [HBQ.out]; exact List.mem_of_getElem? hx)
                obtain ⟨v, rfl⟩ := Int.eq_ofNat_of_zero_le hxr.1
                have hv : v < n := by omega
                have hv0 : (0 : Int) ≤ (v : Int) := by omega
                have hv1 : (v : Int) < (n : Int) := by omega
                have hj0 : (0 : Int) ≤ (j : Int) := by omega
                have hj1 : (j : Int) < (m : Int) := by omega
                have cv := own_int HO.out hv HOL.out
                have hnew : mx out (q.bf.take (j + 1)) = max (mx out (q.bf.take j)) (out.getD v 0) := by
                  rw [List.take_add_one, hx]
                  show mx out (q.bf.take j ++ [(v : Int)]) = _
                  rw [mx_snoc, Int.toNat_natCast]
                generalize out.getD v 0 = xv at *
                have HNW := Lib.hid hnew
                clear hx hnew hc3
                go_wp2_with (go_at_call 64; refine (l00MaxM_any _ _ _).mono ?_; rintro e w' ⟨rfl, rfl⟩)
                go_roundw
                case rel => exact ⟨j + 1, by omega, by go_num, by rw [HNW.out], by trivial⟩
                case measure => simp [intOf]; omega
              · have hjm : j = m := by omega
                have htk : q.bf.take j = q.bf := List.take_of_length_le (by rw [HRL.out]; omega)
                have hmb := mx_bd (by omega) HBD.out q.bf
                have hwk := HW.out k
                have hnx := HPT.out (by trivial)
                rw [show wtR ops k = 1 from rfl] at hnx hwk
                have ck := own_int HO.out hlk HOL.out
                have cd := own_bool HM.out hlk HDL.out
                have hf1 := HO.out.frozenAt
                have hf2 := HM.out.frozenAt
                rw [htk]
                generalize mx out q.bf = u at *
                have S := own_iset HO.out k (u + 1)
                have m2 := own_other (g' := w.heap.size) HM.out S.2 (by omega)
                have b2 := HB.out.setCell (p := ⟨w.heap.size, k, none⟩) (Nat.le_refl _) (.int .i64 (u + 1))
                have S2 := own_bset m2 k true
                have o3 := own_other (g' := w.heap.size + 1) S.1 S2.2 (by omega)
                have b3 := b2.setCell (p := ⟨w.heap.size + 1, k, none⟩) (show w.heap.size ≤ w.heap.size + 1 by omega) (.bool true)
                have HN := Lib.hid hnx
                have HO3 := Lib.hid o3
                have HM3 := Lib.hid S2.1
                have HB3 := Lib.hid b3
                clear S m2 b2 S2 o3 b3 hnx htk
                go_wp2
                go_roundw
                case rel => exact ⟨k + 1, _, _, by omega, by go_num, HN, HO3.out, HM3.out, HB3.out⟩
                case measure => simp [intOf]; omega
        · have hkn : k = n := by omega
          subst hkn
          have HE2 := Lib.hid (HE.out.pass HI.out hn14)
          go_wp2
          go_roundw
          case rel => exact ⟨p + 1, _, _, by omega, by go_num, HE2, HO.out, HM.out, HB.out⟩
          case measure => simp [intOf]; omega
    · have hpn : p = n := by omega
      subst hpn
      have hR := HF.out _ _ HE.out
      subst hR
      go_wp2
      go_ret
      exact ⟨_, rfl, HO.out, HB.out⟩

end Go.Proofs.Ytgghjieeckkpbaa
