/- Slices of pieces (a struct of four int64): words, and the laws' own helpers; slices.IndexFunc, slices.ContainsFunc over them. Printed by mkqd.py. -/
import Derived.Test.YtiibhejjeijdaaaDoorTx
namespace Go.Proofs.YtiibhejjeijdaaaDoor
open Go.RowKit

/-- A piece, as plain data. -/
structure CutV where
  wd : Int
  ht : Int
  ql : Int
  wo : Int
def cutV (c : CutV) : Value := .agg #[.int .i64 c.wd, .int .i64 c.ht, .int .i64 c.ql, .int .i64 c.wo]
/-- A list of pieces as cells. -/
def qd (cs : List CutV) : List Value := cs.flatMap fun c => [.int .i64 c.wd, .int .i64 c.ht, .int .i64 c.ql, .int .i64 c.wo]
theorem qd_nil : qd [] = [] := rfl
theorem qd_cons (c : CutV) (cs : List CutV) : qd (c :: cs) = .int .i64 c.wd :: .int .i64 c.ht :: .int .i64 c.ql :: .int .i64 c.wo :: qd cs := rfl
theorem qd_len : ∀ cs : List CutV, (qd cs).length = cs.length * 4
  | [] => rfl
  | c :: cs => by rw [qd_cons]; simp [qd_len cs]; omega
theorem qd_get : ∀ (cs : List CutV) (k : Nat), (qd cs)[k * 4]? = (cs[k]?).map (fun c => .int .i64 c.wd) ∧ (qd cs)[k * 4 + 1]? = (cs[k]?).map (fun c => .int .i64 c.ht) ∧ (qd cs)[k * 4 + 2]? = (cs[k]?).map (fun c => .int .i64 c.ql) ∧ (qd cs)[k * 4 + 3]? = (cs[k]?).map (fun c => .int .i64 c.wo)
  | [], k => by simp [qd_nil]
  | c :: cs, 0 => by simp [qd_cons]
  | c :: cs, k + 1 => by
    rw [qd_cons, show (k + 1) * 4 = k * 4 + 1 + 1 + 1 + 1 by omega]
    simpa using qd_get cs k
theorem qd_set : ∀ (cs : List CutV) (k : Nat) (c : CutV), ((((qd cs).set (k * 4) (.int .i64 c.wd)).set (k * 4 + 1) (.int .i64 c.ht)).set (k * 4 + 2) (.int .i64 c.ql)).set (k * 4 + 3) (.int .i64 c.wo) = qd (cs.set k c)
  | [], k, c => by simp [qd_nil]
  | d :: cs, 0, c => by simp [qd_cons]
  | d :: cs, k + 1, c => by
    rw [qd_cons, show (k + 1) * 4 = k * 4 + 1 + 1 + 1 + 1 by omega]
    simp only [List.set_cons_succ, qd_cons]
    rw [← qd_set cs k c]
theorem Rd.qlen {w : World} {A : Option Addr} {n c : Nat} {cs : List CutV} (h : Rd w 4 A n c (qd cs)) : cs.length = n := by
  have := h.len; rw [qd_len] at this; omega
/-- The k-th piece of a slice that reads as pieces. -/
theorem Rd.cut {w : World} {A : Option Addr} {n c : Nat} {cs : List CutV} (h : Rd w 4 A n c (qd cs)) {k : Nat} (hk : k < n) :
    ∃ b o x, A = some ⟨b, o, none⟩ ∧ b < w.heap.size ∧ cs[k]? = some x ∧ w.cell? ⟨b, o + k * 4, none⟩ = some (.int .i64 x.wd) ∧ w.cell? ⟨b, o + k * 4 + 1, none⟩ = some (.int .i64 x.ht) ∧ w.cell? ⟨b, o + k * 4 + 2, none⟩ = some (.int .i64 x.ql) ∧ w.cell? ⟨b, o + k * 4 + 3, none⟩ = some (.int .i64 x.wo) := by
  have hl := h.qlen
  obtain ⟨b, o, hA, hlt, hc⟩ := h.at0 (by rw [qd_len]; omega)
  have hx : cs[k]? = some (cs[k]'(by omega)) := List.getElem?_eq_getElem _
  have h0 := hc (k * 4) (by rw [qd_len]; omega)
  have h1 := hc (k * 4 + 1) (by rw [qd_len]; omega)
  have h2 := hc (k * 4 + 2) (by rw [qd_len]; omega)
  have h3 := hc (k * 4 + 3) (by rw [qd_len]; omega)
  obtain ⟨g0, g1, g2, g3⟩ := qd_get cs k
  rw [g0, hx] at h0
  rw [g1, hx] at h1
  rw [g2, hx] at h2
  rw [g3, hx] at h3
  exact ⟨b, o, _, hA, hlt, hx, h0, h1, h2, h3⟩
/-- Where a slice of pieces that the call owns has its k-th piece. -/
theorem own_cut {w : World} {base : Nat} {e : TypeId} {g n c : Nat} {cs : List CutV} (h : w.ownsRow base e 4 (.slice (some ⟨g, 0, none⟩) n c) n (qd cs)) {k : Nat} {x : CutV} (hx : cs[k]? = some x) (hk : k < n) :
    w.cell? ⟨g, k * 4, none⟩ = some (.int .i64 x.wd) ∧ w.cell? ⟨g, k * 4 + 1, none⟩ = some (.int .i64 x.ht) ∧ w.cell? ⟨g, k * 4 + 2, none⟩ = some (.int .i64 x.ql) ∧ w.cell? ⟨g, k * 4 + 3, none⟩ = some (.int .i64 x.wo) := by
  obtain ⟨g0, g1, g2, g3⟩ := qd_get cs k
  rw [h.cellAt (k * 4) (by omega), h.cellAt (k * 4 + 1) (by omega), h.cellAt (k * 4 + 2) (by omega), h.cellAt (k * 4 + 3) (by omega), g0, g1, g2, g3, hx]
  exact ⟨rfl, rfl, rfl, rfl⟩
def set4 (w : World) (g k : Nat) (c : CutV) : World := (((w.setCell ⟨g, k * 4, none⟩ (.int .i64 c.wd)).setCell ⟨g, k * 4 + 1, none⟩ (.int .i64 c.ht)).setCell ⟨g, k * 4 + 2, none⟩ (.int .i64 c.ql)).setCell ⟨g, k * 4 + 3, none⟩ (.int .i64 c.wo)
theorem own_set4 {w : World} {base : Nat} {e : TypeId} {g n c : Nat} {cs : List CutV} (h : w.ownsRow base e 4 (.slice (some ⟨g, 0, none⟩) n c) n (qd cs)) (k : Nat) (x : CutV) :
    (set4 w g k x).ownsRow base e 4 (.slice (some ⟨g, 0, none⟩) n c) n (qd (cs.set k x)) ∧ w.grownBy (set4 w g k x) (some g) := by
  have S1 := h.stored (k * 4) (.int .i64 x.wd)
  have S2 := S1.1.stored (k * 4 + 1) (.int .i64 x.ht)
  have S3 := S2.1.stored (k * 4 + 2) (.int .i64 x.ql)
  have S4 := S3.1.stored (k * 4 + 3) (.int .i64 x.wo)
  rw [qd_set] at S4
  exact ⟨S4.1, World.grownBy.trans (World.grownBy.trans (World.grownBy.trans S1.2 S2.2) S3.2) S4.2⟩

set_option maxHeartbeats 400000 in
theorem toCut_any (a b c d : Int) (w : World) :
    Calls Tryd.prog 28 #[.agg #[.int .i64 a, .int .i64 b, .int .i64 c, .int .i64 d]] w fun e w' => e = .returned (.agg #[.int .i64 a, .int .i64 b, .int .i64 c, .int .i64 d]) ∧ Below w.heap.size w w' := by
  go_enter Tryd.func28, Tryd.ntmps28
  go_wp2
  go_returns
  exact ⟨rfl, (by go_grown)⟩
set_option maxHeartbeats 400000 in
theorem szCutS_any (A : Option Addr) (n c : Nat) (L : Int) (w : World) (hn : n ≤ 9223372036854775807) (h0 : 0 ≤ L) (h1 : L ≤ 1048576) :
    Calls Tryd.prog 32 #[.slice A n c, .int .i64 L] w fun e w' => e = .returned (.int .i64 (if L < n then -1 else L - n)) ∧ w = w' := by
  by_cases h : L < n
  · rw [if_pos h]
    have h' : L - n < 0 := by omega
    go_enter Tryd.func32, Tryd.ntmps32
    go_wp2
    go_ret
    exact ⟨rfl, rfl⟩
  · rw [if_neg h]
    have h' : ¬ L - n < 0 := by omega
    go_enter Tryd.func32, Tryd.ntmps32
    go_wp2
    go_ret
    exact ⟨rfl, rfl⟩
theorem info_cut : (Tryd.prog.info? 35).map (fun i => (i.zero, i.size, i.bytes)) = some (some (.agg #[.int .i64 0, .int .i64 0, .int .i64 0, .int .i64 0]), 4, 32) := by kernel_rfl
def cut0 : CutV := ⟨0, 0, 0, 0⟩
theorem qd_rep : ∀ n : Nat, qd (List.replicate n cut0) = List.replicate (n * 4) (.int .i64 0)
  | 0 => rfl
  | n + 1 => by rw [List.replicate_succ, qd_cons, qd_rep n, show (n + 1) * 4 = n * 4 + 1 + 1 + 1 + 1 by omega, List.replicate_succ, List.replicate_succ, List.replicate_succ, List.replicate_succ]; rfl
theorem made_qd (n : Nat) : (madeCells (Value.agg #[Value.int .i64 0, Value.int .i64 0, Value.int .i64 0, Value.int .i64 0]).cells (n * 4)).toList = qd (List.replicate n cut0) := by
  rw [qd_rep]
  have e : (Value.agg #[Value.int .i64 0, Value.int .i64 0, Value.int .i64 0, Value.int .i64 0]).cells = #[Value.int .i64 0, Value.int .i64 0, Value.int .i64 0, Value.int .i64 0] := rfl
  rw [e]
  apply List.ext_getElem?
  intro j
  by_cases hj : j < n * 4
  · have h : j % 4 = 0 ∨ j % 4 = 1 ∨ j % 4 = 2 ∨ j % 4 = 3 := by omega
    rcases h with h | h | h | h <;> simp [madeCells, hj, h]
  · simp [madeCells, hj]

set_option maxHeartbeats 2000000 in
theorem toCutS_any (A : Option Addr) (n c : Nat) (cs : List CutV) (w : World) (h : Rd w 4 A n c (qd cs)) (hn : n ≤ 1048576) :
    Calls Tryd.prog 34 #[.slice A n c] w fun e w' => ∃ g, e = .returned (.slice (some ⟨g, 0, none⟩) n n) ∧ w'.ownsRow w.heap.size 35 4 (.slice (some ⟨g, 0, none⟩) n n) n (qd cs) ∧ Below w.heap.size w w' := by
  obtain ⟨i0, hi, hz0, hz1, hz2⟩ := info_parts info_cut
  have hl := h.qlen
  have H := Lib.hid h
  have HL := Lib.hid hl
  clear h hl
  go_enter Tryd.func34, Tryd.ntmps34
  go_wp2_with (refine wpList_make_full _ rfl (.tmp 6) (.tmp 6) _ rfl w.heap.size 35 i0 (.agg #[.int .i64 0, .int .i64 0, .int .i64 0, .int .i64 0]) 4 Tryd.underlying32 hi hz0 hz1 .i64 .i64 n n n rfl rfl rfl rfl (by rw [hz2]; omega) (by unfold maxLen; omega) (Nat.le_refl _) ?_; intro w1 hown1 hg1)
  have hb1 : Below w.heap.size w w1 := (Below.refl _ _).grown hg1 (Nat.le_refl _) (by simp)
  have hown1' : w1.ownsRow w.heap.size 35 4 (.slice (some ⟨w.heap.size, 0, none⟩) n n) n (qd (cs.take 0 ++ List.replicate (n - 0) cut0)) := by
    rw [made_qd] at hown1
    simpa using hown1
  clear hown1 hg1
  go_loopw [4] (fun i wr => ∃ k : Nat, k ≤ n ∧ i = .int .i64 k ∧ wr.ownsRow w.heap.size 35 4 (.slice (some ⟨w.heap.size, 0, none⟩) n n) n (qd (cs.take k ++ List.replicate (n - k) cut0)) ∧ Below w.heap.size w wr)
    (fun i _ => n - (intOf i).toNat)
  case atStart => exact ⟨0, Nat.zero_le _, rfl, hown1', hb1⟩
  case round =>
    obtain ⟨k, hk, rfl, hown, hb⟩ := hrel
    by_cases hlt : k < n
    · obtain ⟨b, o, x, hA, hbl, hx, c0, c1, c2, c3⟩ := H.out.cut hlt
      subst hA
      have d0 := cell_belT c0 hb
      have d1 := cell_belT c1 hb
      have d2 := cell_belT c2 hb
      have d3 := cell_belT c3 hb
      have HX := Lib.hid hx
      have HB := Lib.hid hb
      have HO := Lib.hid hown
      clear hx c0 c1 c2 c3 hb hown
      go_wp2_with fail
      refine (toCut_any x.wd x.ht x.ql x.wo _).mono ?_
      rintro e w2 ⟨rfl, hb2⟩
      have hown := own_below HO.out hb2
      have hb3 := HB.out.trans (hb2.mono HB.out.size)
      obtain ⟨o0, o1, o2, o3⟩ := own_cut hown (get_growT HL.out hlt cut0) hlt
      have hfr := hown.frozenAt
      have S := (own_set4 hown k x).1
      rw [set_growT HX.out n HL.out] at S
      unfold set4 at S
      have HS := Lib.hid S
      have HB3 : Hid (Below w.heap.size w (set4 w2 w.heap.size k x)) := (((hb3.setCell (Nat.le_refl _) _).setCell (Nat.le_refl _) _).setCell (Nat.le_refl _) _).setCell (Nat.le_refl _) _
      unfold set4 at HB3
      clear S hown hb3 HB HO hb2 d0 d1 d2 d3
      go_wp2
      go_roundw
      case rel => exact ⟨k + 1, by omega, by go_num, HS.out, HB3.out⟩
      case measure => simp [intOf]; omega
    · go_wp2
      go_ret
      have : k = n := by omega
      subst this
      refine ⟨_, rfl, ?_, hb⟩
      have e : cs.take k ++ List.replicate (k - k) cut0 = cs := by rw [List.take_of_length_le (by rw [HL.out]; exact Nat.le_refl _)]; simp
      rw [e] at hown
      exact hown

set_option maxHeartbeats 400000 in
theorem eqCut_any (a b c d : Int) (w : World) :
    Calls Tryd.prog 66 #[.agg #[.int .i64 a, .int .i64 b, .int .i64 c, .int .i64 d], .agg #[.int .i64 a, .int .i64 b, .int .i64 c, .int .i64 d]] w fun e w' => e = .returned (.bool true) ∧ Below w.heap.size w w' := by
  go_enter Tryd.func66, Tryd.ntmps66
  go_wp2
  go_ret
  exact ⟨rfl, (by go_grown)⟩
/-- Four cells of two pieces, and that nothing old has turned. -/
def Four (W : World) (b o : Nat) (x : CutV) : Prop := W.cell? ⟨b, o, none⟩ = some (.int .i64 x.wd) ∧ W.cell? ⟨b, o + 1, none⟩ = some (.int .i64 x.ht) ∧ W.cell? ⟨b, o + 2, none⟩ = some (.int .i64 x.ql) ∧ W.cell? ⟨b, o + 3, none⟩ = some (.int .i64 x.wo)
theorem keepQ {V W w' : World} {b o b' o' : Nat} {x0 x1 x2 x3 : Value} (e : W.cell? ⟨b, o, none⟩ = some x0 ∧ W.cell? ⟨b, o + 1, none⟩ = some x1 ∧ W.cell? ⟨b, o + 2, none⟩ = some x2 ∧ W.cell? ⟨b, o + 3, none⟩ = some x3 ∧ W.cell? ⟨b', o', none⟩ = some x0 ∧ W.cell? ⟨b', o' + 1, none⟩ = some x1 ∧ W.cell? ⟨b', o' + 2, none⟩ = some x2 ∧ W.cell? ⟨b', o' + 3, none⟩ = some x3 ∧ Below V.heap.size V W) (hb : Below W.heap.size W w') :
    w'.cell? ⟨b, o, none⟩ = some x0 ∧ w'.cell? ⟨b, o + 1, none⟩ = some x1 ∧ w'.cell? ⟨b, o + 2, none⟩ = some x2 ∧ w'.cell? ⟨b, o + 3, none⟩ = some x3 ∧ w'.cell? ⟨b', o', none⟩ = some x0 ∧ w'.cell? ⟨b', o' + 1, none⟩ = some x1 ∧ w'.cell? ⟨b', o' + 2, none⟩ = some x2 ∧ w'.cell? ⟨b', o' + 3, none⟩ = some x3 ∧ Below V.heap.size V w' := by
  obtain ⟨e0, e1, e2, e3, e4, e5, e6, e7, eb⟩ := e
  exact ⟨cell_belT e0 hb, cell_belT e1 hb, cell_belT e2 hb, cell_belT e3 hb, cell_belT e4 hb, cell_belT e5 hb, cell_belT e6 hb, cell_belT e7 hb, eb.trans (hb.mono eb.size)⟩

set_option maxRecDepth 100000 in
set_option maxHeartbeats 2000000 in
theorem eqCutS_any (A : Option Addr) (n c : Nat) (B : Option Addr) (m d : Nat) (cs : List CutV) (w : World) (hA : Rd w 4 A n c (qd cs)) (hB : Rd w 4 B m d (qd cs)) :
    Calls Tryd.prog 37 #[.slice A n c, .slice B m d] w fun e w' => e = .returned (.bool true) ∧ Below w.heap.size w w' := by
  obtain rfl : n = m := by rw [← hA.qlen, hB.qlen]
  have h1 := hA.cap
  have h2 := hA.max
  have h3 := hB.cap
  have h4 := hB.max
  have HA := Lib.hid hA
  have HB := Lib.hid hB
  clear hA hB
  go_enter Tryd.func37, Tryd.ntmps37
  go_wp2
  go_loopw [5] (fun i wr => ∃ k : Nat, k ≤ n ∧ i = .int .i64 k ∧ Below w.heap.size w wr) (fun i _ => n - (intOf i).toNat)
  case atStart => exact ⟨0, Nat.zero_le _, rfl, Below.refl _ _⟩
  case round =>
    obtain ⟨k, hk, rfl, hb⟩ := hrel
    by_cases hlt : k < n
    · obtain ⟨b, o, x, hA, hbl, hx, c0, c1, c2, c3⟩ := (HA.out.below hb).cut hlt
      obtain ⟨b', o', x', hB, hbl', hx', d0, d1, d2, d3⟩ := (HB.out.below hb).cut hlt
      rw [hx] at hx'
      injection hx' with hx'
      subst hx'
      subst hA
      subst hB
      obtain ⟨x0, x1, x2, x3⟩ := x
      simp only at c0 c1 c2 c3 d0 d1 d2 d3
      have Hb := Lib.hid hb
      clear hx hb
      have hk0 : (0 : Int) ≤ (k : Int) := by omega
      have hk1 : (k : Int) < (n : Int) := by omega
      go_wp2
      go_region_held3 (fun w' => w'.cell? ⟨b, o + k * 4, none⟩ = some (.int .i64 x0) ∧ w'.cell? ⟨b, o + k * 4 + 1, none⟩ = some (.int .i64 x1) ∧ w'.cell? ⟨b, o + k * 4 + 2, none⟩ = some (.int .i64 x2) ∧ w'.cell? ⟨b, o + k * 4 + 3, none⟩ = some (.int .i64 x3) ∧ w'.cell? ⟨b', o' + k * 4, none⟩ = some (.int .i64 x0) ∧ w'.cell? ⟨b', o' + k * 4 + 1, none⟩ = some (.int .i64 x1) ∧ w'.cell? ⟨b', o' + k * 4 + 2, none⟩ = some (.int .i64 x2) ∧ w'.cell? ⟨b', o' + k * 4 + 3, none⟩ = some (.int .i64 x3) ∧ Below wr.heap.size wr w')
        (first | exact ⟨c0, c1, c2, c3, d0, d1, d2, d3, (Below.refl _ _).drew⟩ | exact keepQ (by assumption) hb | go_keep)
        (first | (go_at_call 66; refine (eqCut_any _ _ _ _ _).mono ?_; rintro e w' ⟨rfl, hb⟩))
      have hbb : Below wr.heap.size wr w' := (‹_ ∧ _ ∧ _ ∧ _ ∧ _ ∧ _ ∧ _ ∧ _ ∧ Below wr.heap.size wr w'›).2.2.2.2.2.2.2.2
      have b3 := Hb.out.trans (hbb.mono Hb.out.size)
      go_wp2
      go_roundw
      case rel => exact ⟨k + 1, by omega, by go_num, b3⟩
      case measure => simp [intOf]; omega
    · go_wp2
      go_ret
      exact ⟨rfl, hb⟩

/-- The pieces that the marks are. -/
def marksQ (k : Int) (n : Nat) : List CutV := (List.range n).map fun i : Nat => ⟨k + 4 * (i : Int), k + 4 * (i : Int) + 1, k + 4 * (i : Int) + 1 + 1, k + 4 * (i : Int) + 1 + 1 + 1⟩
theorem marksQ_len (k : Int) (n : Nat) : (marksQ k n).length = n := by simp [marksQ]
theorem marksQ_get (k : Int) (n j : Nat) (h : j < n) : (marksQ k n)[j]? = some ⟨k + 4 * (j : Int), k + 4 * (j : Int) + 1, k + 4 * (j : Int) + 1 + 1, k + 4 * (j : Int) + 1 + 1 + 1⟩ := by simp [marksQ, h]
set_option maxHeartbeats 2000000 in
theorem markCutS_any (base : Nat) (A : Option Addr) (n c : Nat) (cs : List CutV) (k0 : Int) (w : World) (h : w.ownsRow base 35 4 (.slice A n c) n (qd cs)) (hk0 : 0 ≤ k0) (hkn : k0 + 4 * n ≤ 4611686018427387904) :
    Calls Tryd.prog 42 #[.slice A n c, .int .i64 k0] w fun e w' => e = .returned (.int .i64 (k0 + 4 * n)) ∧ w'.ownsRow base 35 4 (.slice A n c) n (qd (marksQ k0 n)) ∧ w.grownBy w' (Value.slice A n c).ownBlock := by
  have hl : cs.length = n := by have := h.1; rw [qd_len] at this; omega
  have hml : (marksQ k0 n).length = cs.length := by rw [marksQ_len, hl]
  have hcap := (Rd.of_own h).cap
  have hmax := (Rd.of_own h).max
  have H : Hid (w.ownsRow base 35 4 (.slice A n c) n (qd (mixT (marksQ k0 n) cs 0))) := Lib.hid (by rw [mixT_zero]; exact h)
  have HL := Lib.hid hl
  have HM := Lib.hid hml
  clear h hl hml
  go_enter Tryd.func42, Tryd.ntmps42
  go_wp2
  go_loopw [1, 5] (fun kk i wr => ∃ j : Nat, j ≤ n ∧ i = .int .i64 j ∧ kk = .int .i64 (k0 + 4 * j) ∧ wr.ownsRow base 35 4 (.slice A n c) n (qd (mixT (marksQ k0 n) cs j)) ∧ w.grownBy wr (Value.slice A n c).ownBlock)
    (fun _ i _ => n - (intOf i).toNat)
  case atStart => exact ⟨0, Nat.zero_le _, rfl, by simp, H.out, World.grownBy.refl _ _⟩
  case round =>
    obtain ⟨j, hj, rfl, rfl, hown, hg⟩ := hrel
    by_cases hlt : j < n
    · obtain ⟨g, hA, hbg, hgl⟩ := own_at hown (by omega)
      subst hA
      obtain ⟨x, hx⟩ : ∃ x, cs[j]? = some x := ⟨_, List.getElem?_eq_getElem (by rw [HL.out]; exact hlt)⟩
      obtain ⟨c0, c1, c2, c3⟩ := own_cut hown (by rw [mixT_at HM.out (by rw [HL.out]; exact hlt)]; exact hx) hlt
      have hfr := hown.frozenAt
      have S := own_set4 hown j ⟨k0 + 4 * (j : Int), k0 + 4 * (j : Int) + 1, k0 + 4 * (j : Int) + 1 + 1, k0 + 4 * (j : Int) + 1 + 1 + 1⟩
      rw [mixT_set HM.out (marksQ_get k0 n j hlt)] at S
      simp only [set4] at S
      have HS := Lib.hid S.1
      have HG := Lib.hid (World.grownBy.trans hg S.2)
      clear S hown hg hx
      have hj0 : (0 : Int) ≤ (j : Int) := by omega
      have hj1 : (j : Int) < (n : Int) := by omega
      go_wp2
      go_roundw
      case rel => exact ⟨j + 1, by omega, by go_num, by go_num, HS.out, HG.out⟩
      case measure => simp [intOf]; omega
    · go_wp2
      go_ret
      have : j = n := by omega
      subst this
      rw [mixT_end HM.out (by rw [HL.out]; exact Nat.le_refl _)] at hown
      exact ⟨rfl, hown, hg⟩

set_option maxHeartbeats 1000000 in
theorem indexFunc_cut (g : Nat) (lb : Array Value) (eg : ∀ args w, (callFunc g args).run Tryd.prog w = .ok (.enter g args) w) (p : CutV → Bool) (A : Option Addr) (n c : Nat) (xs : List CutV) (w : World) (h : Rd w 4 A n c (qd xs)) (hp : PredB Tryd.prog g lb cutV p xs w) :
    Calls Tryd.prog 114 #[.slice A n c, .func (.func g) #[] lb] w fun e w' => e = .returned (.int .i64 (idxF p xs)) ∧ Below w.heap.size w w' := by
  have hl := h.qlen
  have h1 := h.cap
  have h2 := h.max
  have H := Lib.hid h
  have HP := Lib.hid hp
  have HL := Lib.hid hl
  obtain ⟨R, hR⟩ : ∃ R, idxF p xs = R := ⟨_, rfl⟩
  rw [hR]
  have HR := Lib.hid hR
  clear h hp hl hR
  go_enter Tryd.func114, Tryd.ntmps114
  go_wp2
  go_loopg [8] n (fun gg i wr => ∃ k : Nat, k ≤ n ∧ n - k ≤ gg ∧ i = .int .i64 k ∧ Hid (∀ j y, j < k → xs[j]? = some y → p y = false) ∧ Below w.heap.size w wr)
  case atStart => exact ⟨0, Nat.zero_le _, by omega, rfl, (show Hid _ from fun j _ hj => absurd hj (Nat.not_lt_zero _)), Below.refl _ _⟩
  case round =>
    obtain ⟨k, hk, hgg, rfl, HB, hb⟩ := hrel
    by_cases hlt : k < n
    · have hltz : (k : Int) < (n : Int) := by omega
      obtain ⟨b, o, x, hA, hbl, hx, c0, c1, c2, c3⟩ := (H.out.below hb).cut hlt
      subst hA
      have HX := Lib.hid hx
      have hcall := HP.out wr x (List.mem_of_getElem? hx) hb
      have Hb := Lib.hid hb
      clear hx hb
      cases hq : p x with
      | true =>
        rw [hq] at hcall
        have HC := Lib.hid hcall
        have HQ := Lib.hid hq
        clear hcall hq
        go_wp2_with (go_at_fn g; refine (HC.out).mono ?_; rintro e w' ⟨rfl, hb'⟩)
        go_ret
        exact ⟨ret_i (by rw [← HR.out]; exact (idxF_hit HX.out HQ.out HB.out).symm), Hb.out.trans (hb'.mono Hb.out.size)⟩
      | false =>
        rw [hq] at hcall
        have HC := Lib.hid hcall
        have HQ := Lib.hid hq
        clear hcall hq
        go_wp2_with (go_at_fn g; refine (HC.out).mono ?_; rintro e w' ⟨rfl, hb'⟩)
        go_roundg (n - (k + 1))
        case measure => omega
        case rel =>
          refine ⟨k + 1, by omega, by omega, by go_num, (show Hid _ from fun j y hj hy => ?_), Hb.out.trans (hb'.mono Hb.out.size)⟩
          by_cases e : j = k
          · subst e
            have := HX.out
            rw [this] at hy
            injection hy with hy
            rw [← hy]
            exact HQ.out
          · exact HB.out j y (by omega) hy
    · have hltz : ¬ (k : Int) < (n : Int) := by omega
      have : k = n := by omega
      subst this
      go_wp2
      go_ret
      exact ⟨ret_i (by rw [← HR.out]; exact (idxF_miss (by rw [HL.out]; exact HB.out)).symm), hb⟩
set_option maxHeartbeats 1000000 in
theorem containsFunc_cut (g : Nat) (lb : Array Value) (eg : ∀ args w, (callFunc g args).run Tryd.prog w = .ok (.enter g args) w) (p : CutV → Bool) (A : Option Addr) (n c : Nat) (xs : List CutV) (w : World) (h : Rd w 4 A n c (qd xs)) (hp : PredB Tryd.prog g lb cutV p xs w) :
    Calls Tryd.prog 103 #[.slice A n c, .func (.func g) #[] lb] w fun e w' => e = .returned (.bool (xs.any p)) ∧ Below w.heap.size w w' := by
  have hany := idxF_any p xs
  generalize xs.any p = r at *
  have hcall := indexFunc_cut g lb eg p A n c xs w h hp
  generalize idxF p xs = i at *
  have HC := Lib.hid hcall
  have HA := Lib.hid hany
  clear hcall hany h hp
  go_enter Tryd.func103, Tryd.ntmps103
  go_wp2_with fail
  refine (HC.out).mono ?_
  rintro e w' ⟨rfl, hb⟩
  go_wp2_with fail
  go_ret
  exact ⟨ret_b HA.out, hb⟩

set_option maxHeartbeats 1000000 in
theorem indexFunc_str (g : Nat) (lb : Array Value) (eg : ∀ args w, (callFunc g args).run Tryd.prog w = .ok (.enter g args) w) (p : ByteArray → Bool) (A : Option Addr) (n c : Nat) (xs : List ByteArray) (w : World) (h : Rd w 1 A n c (txs xs)) (hp : PredB Tryd.prog g lb Value.string p xs w) :
    Calls Tryd.prog 94 #[.slice A n c, .func (.func g) #[] lb] w fun e w' => e = .returned (.int .i64 (idxF p xs)) ∧ Below w.heap.size w w' := by
  have hl := h.tlen
  have h1 := h.cap
  have h2 := h.max
  have H := Lib.hid h
  have HP := Lib.hid hp
  have HL := Lib.hid hl
  obtain ⟨R, hR⟩ : ∃ R, idxF p xs = R := ⟨_, rfl⟩
  rw [hR]
  have HR := Lib.hid hR
  clear h hp hl hR
  go_enter Tryd.func94, Tryd.ntmps94
  go_wp2
  go_loopg [8] n (fun gg i wr => ∃ k : Nat, k ≤ n ∧ n - k ≤ gg ∧ i = .int .i64 k ∧ Hid (∀ j y, j < k → xs[j]? = some y → p y = false) ∧ Below w.heap.size w wr)
  case atStart => exact ⟨0, Nat.zero_le _, by omega, rfl, (show Hid _ from fun j _ hj => absurd hj (Nat.not_lt_zero _)), Below.refl _ _⟩
  case round =>
    obtain ⟨k, hk, hgg, rfl, HB, hb⟩ := hrel
    by_cases hlt : k < n
    · have hltz : (k : Int) < (n : Int) := by omega
      obtain ⟨b, o, x, hA, hbl, hx, c0⟩ := (H.out.below hb).txt hlt
      subst hA
      have HX := Lib.hid hx
      have hcall := HP.out wr x (List.mem_of_getElem? hx) hb
      have Hb := Lib.hid hb
      clear hx hb
      cases hq : p x with
      | true =>
        rw [hq] at hcall
        have HC := Lib.hid hcall
        have HQ := Lib.hid hq
        clear hcall hq
        go_wp2_with (go_at_fn g; refine (HC.out).mono ?_; rintro e w' ⟨rfl, hb'⟩)
        go_ret
        exact ⟨ret_i (by rw [← HR.out]; exact (idxF_hit HX.out HQ.out HB.out).symm), Hb.out.trans (hb'.mono Hb.out.size)⟩
      | false =>
        rw [hq] at hcall
        have HC := Lib.hid hcall
        have HQ := Lib.hid hq
        clear hcall hq
        go_wp2_with (go_at_fn g; refine (HC.out).mono ?_; rintro e w' ⟨rfl, hb'⟩)
        go_roundg (n - (k + 1))
        case measure => omega
        case rel =>
          refine ⟨k + 1, by omega, by omega, by go_num, (show Hid _ from fun j y hj hy => ?_), Hb.out.trans (hb'.mono Hb.out.size)⟩
          by_cases e : j = k
          · subst e
            have := HX.out
            rw [this] at hy
            injection hy with hy
            rw [← hy]
            exact HQ.out
          · exact HB.out j y (by omega) hy
    · have hltz : ¬ (k : Int) < (n : Int) := by omega
      have : k = n := by omega
      subst this
      go_wp2
      go_ret
      exact ⟨ret_i (by rw [← HR.out]; exact (idxF_miss (by rw [HL.out]; exact HB.out)).symm), hb⟩
set_option maxHeartbeats 1000000 in
theorem containsFunc_str (g : Nat) (lb : Array Value) (eg : ∀ args w, (callFunc g args).run Tryd.prog w = .ok (.enter g args) w) (p : ByteArray → Bool) (A : Option Addr) (n c : Nat) (xs : List ByteArray) (w : World) (h : Rd w 1 A n c (txs xs)) (hp : PredB Tryd.prog g lb Value.string p xs w) :
    Calls Tryd.prog 76 #[.slice A n c, .func (.func g) #[] lb] w fun e w' => e = .returned (.bool (xs.any p)) ∧ Below w.heap.size w w' := by
  have hany := idxF_any p xs
  generalize xs.any p = r at *
  have hcall := indexFunc_str g lb eg p A n c xs w h hp
  generalize idxF p xs = i at *
  have HC := Lib.hid hcall
  have HA := Lib.hid hany
  clear hcall hany h hp
  go_enter Tryd.func76, Tryd.ntmps76
  go_wp2_with fail
  refine (HC.out).mono ?_
  rintro e w' ⟨rfl, hb⟩
  go_wp2_with fail
  go_ret
  exact ⟨ret_b HA.out, hb⟩
end Go.Proofs.YtiibhejjeijdaaaDoor
