/- Several texts in one: Mc. -/
import Derived.Test.YthdbaflihgkomaaDoorMb
import Derived.Test.YthdbaflihgkomaaDoorTb2
import Derived.Test.YthdbaflihgkomaaDoorOwn
/- Several texts in one: Fr, Fr2, Fr3, Fr4, Fr5. -/
/- First rows with room (pure part): blocks in an order are put into the first row in which they fit. -/
namespace Go.Proofs.YthdbaflihgkomaaDoor
open Go.RowKit Go.Shelf

/-- The first row with room for a width. -/
def roomF (roll : Int) (W : List Int) (x : Int) : Int := idxF (fun v => decide (v + x ≤ roll)) W
/-- The rows told, and the widths, behind the first k of an order. -/
def firstK (ps : List (Int × Int)) (roll : Int) (os : List Int) : Nat → List Int × List Int
  | 0 => (List.replicate ps.length 0, z9)
  | k + 1 => match os[k]? with
    | some i => match ps[i.toNat]? with
      | some p => ((firstK ps roll os k).1.set i.toNat (roomF roll (firstK ps roll os k).2 p.1), (firstK ps roll os k).2.set (roomF roll (firstK ps roll os k).2 p.1).toNat ((firstK ps roll os k).2.getD (roomF roll (firstK ps roll os k).2 p.1).toNat 0 + p.1))
      | none => firstK ps roll os k
    | none => firstK ps roll os k
theorem firstK_step {ps : List (Int × Int)} {roll : Int} {os O W : List Int} {k i : Nat} {r x y : Int} (h : firstK ps roll os k = (O, W)) (hi : os[k]? = some (i : Int)) (hp : ps[i]? = some (x, y)) (hr : roomF roll W x = r) :
    firstK ps roll os (k + 1) = (O.set i r, W.set r.toNat (W.getD r.toNat 0 + x)) := by
  unfold firstK
  rw [hi]
  simp only [Int.toNat_natCast]
  rw [hp, h]
  simp only [hr]
/-- What holds while k blocks lie: widths fit, rows from k on are empty. -/
structure FirstB (n : Nat) (roll : Int) (O W : List Int) (k : Nat) : Prop where
  ol : O.length = n
  wl : W.length = 9
  wb : ∀ (j : Nat) (x : Int), W[j]? = some x → 0 ≤ x ∧ x ≤ roll
  z : ∀ (j : Nat) (x : Int), k ≤ j → W[j]? = some x → x = 0
theorem firstB0 {n : Nat} {roll : Int} (hr : 0 ≤ roll) : FirstB n roll (List.replicate n 0) z9 0 := by
  have hz : ∀ (j : Nat) (x : Int), z9[j]? = some x → x = 0 := by
    intro j x h
    unfold z9 at h
    rw [List.getElem?_replicate] at h
    split at h
    · injection h with h; exact h.symm
    · cases h
  exact ⟨by simp, rfl, fun j x h => by have := hz j x h; omega, fun j x _ h => hz j x h⟩
/-- While fewer than nine blocks lie there is a row with room. -/
theorem FirstB.room {n : Nat} {roll : Int} {O W : List Int} {k : Nat} (h : FirstB n roll O W k) (hk : k < 9) {x : Int} (hx : x ≤ roll) :
    ∃ r : Nat, roomF roll W x = (r : Int) ∧ r ≤ k ∧ W.getD r 0 + x ≤ roll ∧ ∀ (j : Nat) (v : Int), j < r → W[j]? = some v → roll < v + x := by
  have hwk := getD_of (l := W) (j := k) (by rw [h.wl]; omega)
  rw [h.z k _ (Nat.le_refl _) hwk] at hwk
  unfold roomF idxF
  cases hf : W.findIdx? (fun v => decide (v + x ≤ roll)) with
  | none =>
    rw [List.findIdx?_eq_none_iff] at hf
    have := hf _ (List.mem_of_getElem? hwk)
    simp at this
    omega
  | some r =>
    rw [List.findIdx?_eq_some_iff_getElem] at hf
    obtain ⟨hr, hp, hlt⟩ := hf
    refine ⟨r, rfl, ?_, ?_, fun j v hj hv => ?_⟩
    · apply Nat.le_of_not_lt
      intro hkr
      have := hlt k hkr
      have e : W[k]'(by omega) = 0 := by
        have h1 := List.getElem?_eq_getElem (l := W) (i := k) (by omega)
        rw [hwk] at h1
        injection h1 with h1
        exact h1.symm
      rw [e] at this
      simp at this
      omega
    · have e : W[r]'hr = W.getD r 0 := by simp [List.getD, List.getElem?_eq_getElem hr]
      rw [e] at hp
      simpa using hp
    · have := hlt j hj
      obtain ⟨hj', rfl⟩ := List.getElem?_eq_some_iff.1 hv
      simp at this
      exact this
theorem FirstB.step {n : Nat} {roll : Int} {O W : List Int} {k : Nat} (h : FirstB n roll O W k) {i r : Nat} {x : Int} (hx : 0 ≤ x) (hr : r ≤ k) (hf : W.getD r 0 + x ≤ roll) (hk : k < 9) :
    FirstB n roll (O.set i (r : Int)) (W.set r (W.getD r 0 + x)) (k + 1) := by
  refine ⟨by simp [h.ol], by simp [h.wl], fun j v hv => ?_, fun j v hj hv => ?_⟩
  · rcases get_set_cases hv with rfl | hv
    · have := h.wb _ _ (getD_of (l := W) (j := r) (by rw [h.wl]; omega))
      omega
    · exact h.wb j v hv
  · rw [List.getElem?_set_ne (by omega)] at hv
    exact h.z j v (by omega) hv
end Go.Proofs.YthdbaflihgkomaaDoor
/- First rows with room, of the reference (l11First). -/
namespace Go.Proofs.YthdbaflihgkomaaDoor
open Go.RowKit Go.Shelf

set_option maxRecDepth 100000 in
set_option maxHeartbeats 8000000 in
theorem l11First_any (A : Option Addr) (n c : Nat) (ps : List (Int × Int)) (roll : Int) (B : Option Addr) (m d : Nat) (os : List Int) (w : World) (h : Rd w 2 A n c (pr ps)) (hB : Rd w 1 B m d (ints os)) (ho : BOk ps roll) (hm : m ≤ 9) (hos : ∀ (j : Nat) (i : Int), os[j]? = some i → 0 ≤ i ∧ i < n) :
    Calls Tryd.prog 75 #[.slice A n c, .int .i64 roll, .slice B m d] w fun e w' => ∃ g, e = .returned (.slice (some ⟨g, 0, none⟩) n n) ∧
      w'.ownsRow w.heap.size 2 1 (.slice (some ⟨g, 0, none⟩) n n) n (ints (firstK ps roll os m).1) ∧ Below w.heap.size w w' := by
  obtain ⟨i0, hi, hz0, hz1, hz2⟩ := info_parts info_i64r
  have hl := h.plen
  have hn9 := ho.len
  have hn9' : n ≤ 9 := by omega
  have r0 := ho.r0
  have r1 := ho.r1
  have h1 := h.cap
  have h2 := h.max
  have h3 := hB.cap
  have h4 := hB.max
  have H := Lib.hid h
  have HB := Lib.hid hB
  have HL := Lib.hid hl
  have HO := Lib.hid ho
  have HI := Lib.hid hos
  clear h hB hl ho hos hn9
  go_enter Tryd.func75, Tryd.ntmps75
  go_wp2_with (refine wpList_make_full _ rfl (.tmp 13) (.tmp 13) _ rfl w.heap.size 2 i0 (.int .i64 0) 1 Tryd.underlying31 hi hz0 hz1 .i64 .i64 n n n rfl rfl rfl rfl (by rw [hz2]; omega) (by unfold maxLen; omega) (Nat.le_refl _) ?_; intro w1 ho1 hg1)
  have hb1 : Below w.heap.size w w1 := (Below.refl _ _).grown hg1 (Nat.le_refl _) (by simp)
  have e1 : (madeCells (Value.int .i64 0).cells (n * 1)).toList = ints (List.replicate n 0) := by simp [ints, toList_madeCells_one, Value.cells]
  rw [e1] at ho1
  have hlt1 : w.heap.size < w1.heap.size := by
    have := hg1.size
    rcases ho1.2 with ⟨hh, _⟩ | ⟨g, cap, cur, hh, _, hgg, _⟩
    · cases hh
    · injection hh with hh _ _
      injection hh with hh
      injection hh with hh
      rw [hh]
      exact (Array.getElem?_eq_some_iff.1 hgg).1
  have hA1 : Below w1.heap.size w1 (w1.alloc (.cells c9 2)) := (by go_grown)
  have ho1' := own_below ho1 hA1
  have ho2 := own9 w1 w.heap.size (Nat.le_of_lt hlt1)
  have hb2 : Below w.heap.size w (w1.alloc (.cells c9 2)) := hb1.trans (hA1.mono hb1.size)
  have HO1 := Lib.hid ho1'
  have HO2 := Lib.hid ho2
  have HB2 := Lib.hid hb2
  clear ho1 ho1' ho2 hb1 hb2 hA1 hg1 e1
  go_wp2_with fail
  go_loopw [9] (fun vi wr => ∃ (k : Nat) (O W : List Int), k ≤ m ∧ vi = .int .i64 k ∧ Hid (firstK ps roll os k = (O, W)) ∧ Hid (FirstB n roll O W k) ∧
      wr.ownsRow w.heap.size 2 1 (.slice (some ⟨w.heap.size, 0, none⟩) n n) n (ints O) ∧ wr.ownsRow w.heap.size 2 1 (.slice (some ⟨w1.heap.size, 0, none⟩) 9 9) 9 (ints W) ∧ Below w.heap.size w wr) (fun vi _ => m - (intOf vi).toNat)
  case atStart => exact ⟨0, _, _, Nat.zero_le _, rfl, (show Hid _ from rfl), (show Hid _ from by rw [HL.out]; exact firstB0 (by omega)), by rw [HL.out]; exact HO1.out, HO2.out, HB2.out⟩
  case round =>
    obtain ⟨k, O, W, hk, rfl, HK, HW, hown1, hown2, hb⟩ := hrel
    by_cases hlt : k < m
    · obtain ⟨b', o', iv, hA', hbl', hiv, hc3⟩ := HB.out.int hlt
      have hib := HI.out k iv hiv
      obtain ⟨i, rfl⟩ := Int.eq_ofNat_of_zero_le hib.1
      obtain ⟨b, o, x, y, hA, hbl, hx, hc1, hc2⟩ := H.out.pair (show i < n by omega)
      subst hA
      subst hA'
      have hc1 := (hb.cell (p := ⟨b, o + i * 2, none⟩) hbl).trans hc1
      have hc2 := (hb.cell (p := ⟨b, o + i * 2 + 1, none⟩) hbl).trans hc2
      have hc3 := (hb.cell (p := ⟨b', o' + k, none⟩) hbl').trans hc3
      have hxy := HO.out.blk i _ hx
      have x0 : 1 ≤ x ∧ x ≤ roll := hxy.1
      obtain ⟨r, hr, hrk, hfit, hno⟩ := HW.out.room (by omega) x0.2
      have HN : Hid (firstK ps roll os (k + 1) = (O.set i (r : Int), W.set r (W.getD r 0 + x))) := Lib.hid (by have := firstK_step HK.out hiv hx hr; simpa using this)
      have HV : Hid (FirstB n roll (O.set i (r : Int)) (W.set r (W.getD r 0 + x)) (k + 1)) := Lib.hid (HW.out.step (i := i) (by omega) hrk hfit (by omega))
      have HNO := Lib.hid hno
      have hss := hb.size
      have hA2 : Below wr.heap.size wr (wr.alloc (.cells #[.int .i64 x, .int .i64 y] 49)) := (by go_grown)
      have BX := Box.new wr #[.int .i64 x, .int .i64 y] 49
      have HO1 := Lib.hid (own_below hown1 hA2)
      have HO2 := Lib.hid (own_below hown2 hA2)
      have HBX := Lib.hid BX
      have HB3 := Lib.hid (hb.trans (hA2.mono hb.size))
      have hg2 : w1.heap.size < wr.heap.size := by
        obtain ⟨g, e, _, hh⟩ := own_at hown2 (by omega)
        injection e with e
        injection e with e
        omega
      have d3 : (wr.alloc (.cells #[.int .i64 x, .int .i64 y] 49)).cell? ⟨b', o' + k, none⟩ = some (.int .i64 k) ∨ True := .inr trivial
      have HC3 := Lib.hid ((hA2.cell (p := ⟨b', o' + k, none⟩) (World.block_lt_of_cell? _ _ hc3)).trans hc3)
      have hk0 : (0 : Int) ≤ (k : Int) := by omega
      have hk1 : (k : Int) < (m : Int) := by omega
      have hkd : decide ((k : Int) < (m : Int)) = true := decide_eq_true hk1
      have hi0 : (0 : Int) ≤ (i : Int) := by omega
      have hi1 : (i : Int) < (n : Int) := by omega
      have hr8 : r ≤ 8 := by omega
      clear hown1 hown2 hb hx hxy hr hno hiv hib BX hA2 d3 HK
      go_wp2
      generalize hw2 : wr.alloc (.cells #[.int .i64 x, .int .i64 y] 49) = w2 at *
      generalize hgb : wr.heap.size = gb at *
      go_loopw [11] (fun vi wq => ∃ j : Nat, j ≤ r ∧ vi = .int .i64 j ∧ Below w2.heap.size w2 wq) (fun vi _ => r - (intOf vi).toNat)
      case atStart => exact ⟨0, Nat.zero_le _, rfl, Below.refl _ _⟩
      case round =>
        obtain ⟨j, hj, rfl, hbq⟩ := hrel
        have cx : wr.cell? ⟨gb, 0, none⟩ = some (.int .i64 x) := (HBX.out.below hbq).cell 0
        have q2 := own_below HO2.out hbq
        have cw := own_int q2 (i := j) (by omega) HW.out.wl
        have hga := getD_of (l := W) (j := j) (by rw [HW.out.wl]; omega)
        have ha := HW.out.wb j _ hga
        have hj0 : (0 : Int) ≤ (j : Int) := by omega
        have hj9 : (j : Int) < 9 := by omega
        by_cases hjr : j < r
        · have hgt := HNO.out j _ hjr hga
          generalize W.getD j 0 = a at *
          have hd : decide (roll < a + x) = true := decide_eq_true hgt
          have HQ := Lib.hid hbq
          clear hbq hga q2 hgt
          go_wp2
          go_quiet (fail)
          go_wp2
          go_roundw
          case rel => exact ⟨j + 1, by omega, by go_num, below_drewN HQ.out _⟩
          case measure => simp [intOf]; omega
        · have hje : j = r := by omega
          subst hje
          have hd : decide (roll < W.getD j 0 + x) = false := decide_eq_false (by omega)
          generalize W.getD j 0 = a at *
          have Q1 := Lib.hid (own_below HO1.out hbq)
          have Q2 := Lib.hid q2
          have Q3 := Lib.hid ((hbq.cell (p := ⟨b', o' + k, none⟩) (World.block_lt_of_cell? _ _ HC3.out)).trans HC3.out)
          have QB := Lib.hid (HB3.out.trans (hbq.mono HB3.out.size))
          clear hbq hga q2 HO1 HO2 HC3 HB3 HBX HNO
          go_wp2
          go_quiet (fail)
          have dx : (wr.drewN nq).cell? ⟨gb, 0, none⟩ = some (.int .i64 x) := cx
          have dw : (wr.drewN nq).cell? ⟨w1.heap.size, j, none⟩ = some (.int .i64 a) := cw
          have d3 : (wr.drewN nq).cell? ⟨b', o' + k, none⟩ = some (.int .i64 i) := Q3.out
          have p1 := own_drewN Q1.out nq
          have p2 := own_drewN Q2.out nq
          have pb := below_drewN QB.out nq
          generalize wr.drewN nq = w6 at *
          have f2 := p2.frozenAt
          have S2 := (own_iset p2 j (a + x)).1.drew
          have G2 := grown_drew (own_iset p2 j (a + x)).2
          have S1 := own_other p1 G2 (by omega)
          have S3 := cell_other d3 G2 (by omega)
          have SB : Below w.heap.size w (w6.setCell ⟨w1.heap.size, j, none⟩ (.int .i64 (a + x))).drew := (pb.setCell (Nat.le_of_lt hlt1) _).drew
          have T1 := Lib.hid S1
          have T2 := Lib.hid S2
          have T3 := Lib.hid S3
          have TB := Lib.hid SB
          clear p1 p2 pb d3 cx cw S1 S2 S3 SB G2 Q1 Q2 Q3 QB
          go_wp2
          go_region
          generalize (w6.setCell ⟨w1.heap.size, j, none⟩ (.int .i64 (a + x))).drew = w7 at *
          have d7 := T3.out
          have f7 := T1.out.frozenAt
          have c7 := own_int T1.out (i := i) (by omega) HW.out.ol
          obtain ⟨u1, G1⟩ := own_iset T1.out i (j : Int)
          have U1 := Lib.hid u1
          have U2 := Lib.hid (own_other T2.out G1 (by omega))
          have UB : Hid (Below w.heap.size w (w7.setCell ⟨w.heap.size, i, none⟩ (.int .i64 j))) := TB.out.setCell (Nat.le_refl _) _
          clear u1 G1 T1 T2 T3 TB dx dw f2
          go_wp2
          go_roundw
          case rel => exact ⟨k + 1, _, _, by omega, by go_num, HN, HV, U1.out, U2.out, UB.out⟩
          case measure => simp [intOf]; omega
    · have : k = m := by omega
      subst this
      go_wp2
      go_ret
      refine ⟨_, rfl, ?_, hb⟩
      rw [HK.out]; exact hown1
end Go.Proofs.YthdbaflihgkomaaDoor
/- FirstRows of the reference; inOrder of the program. -/
namespace Go.Proofs.YthdbaflihgkomaaDoor
open Go.RowKit Go.Shelf

/-- 0, 1, .., n - 1. -/
def upto (n : Nat) : List Int := (List.range n).map fun i : Nat => (i : Int)
theorem upto_len (n : Nat) : (upto n).length = n := by simp [upto]
theorem upto_get {n j : Nat} {i : Int} (h : (upto n)[j]? = some i) : i = (j : Int) ∧ j < n := by
  unfold upto at h
  rw [List.getElem?_map] at h
  cases hj : (List.range n)[j]? with
  | none => rw [hj] at h; simp at h
  | some v =>
    rw [hj] at h
    obtain ⟨hlt, hv⟩ := List.getElem?_eq_some_iff.1 hj
    simp at hlt hv h
    omega
theorem upto_succ (n : Nat) : upto (n + 1) = upto n ++ [(n : Int)] := by simp [upto, List.range_succ]
theorem ints_snoc (l : List Int) (x : Int) : ints l ++ [.int .i64 x] = ints (l ++ [x]) := by simp [ints]
/-- What is handed back: a slice of its own that reads as xs, and a code. -/
def IntPost (w : World) (xs : List Int) (z : Int) (e : Ending) (w' : World) : Prop :=
  ∃ A n c, e = .returned (.tuple #[.slice A n c, .int .i64 z]) ∧ w'.ownsRow w.heap.size 2 1 (.slice A n c) n (ints xs) ∧ Below w.heap.size w w'
theorem intPost_nil {w w' : World} {z : Int} (hb : Below w.heap.size w w') : IntPost w [] z (.returned (.tuple #[.slice none 0 0, .int .i64 z])) w' :=
  ⟨none, 0, 0, rfl, World.ownsRow_nil _ _ _ _, hb⟩
def firstZ (ps : List (Int × Int)) (roll : Int) : List Int × Int := if blocksB ps roll = true then ((firstK ps roll (upto ps.length) ps.length).1, 0) else ([], 1)

theorem info_int : (Tryd.prog.info? 3).map (fun i => (i.zero, i.size, i.bytes)) = some (some (.int .i64 0), 1, 8) := by kernel_rfl
end Go.Proofs.YthdbaflihgkomaaDoor
/- First rows with room, of the program (firstRows). Printed by mkfr4.py. -/
namespace Go.Proofs.YthdbaflihgkomaaDoor
open Go.RowKit Go.Shelf

def cn (n : Nat) : Array Value := (ints (List.replicate n 0)).toArray
theorem mkn (n : Nat) (hn : n ≤ 9) (W : World) : (Instr.makeSlice 31 (.int .i64 n) (.int .i64 n)).run Tryd.prog W = .ok (.slice (some ⟨W.heap.size, 0, none⟩) n n) (W.alloc (.cells (cn n) 2)) := by
  obtain ⟨i0, hi, hz0, hz1, hz2⟩ := info_parts info_i64r
  have h := run_make (P := Tryd.prog) W 31 2 i0 (.int .i64 0) Tryd.underlying31 hi hz0 .i64 .i64 n n (by omega) (by omega) (by rw [hz2]; omega) (by omega)
  rw [hz1, Int.toNat_natCast] at h
  have e : madeCells (Value.int .i64 0).cells (n * 1) = cn n := by
    apply Array.toList_inj.1
    simp [cn, ints, toList_madeCells_one, Value.cells]
  rw [e] at h
  exact h
theorem ownn (n : Nat) (hn : n ≤ 9) (W : World) (base : Nat) (hb : base ≤ W.heap.size) : (W.alloc (.cells (cn n) 2)).ownsRow base 2 1 (.slice (some ⟨W.heap.size, 0, none⟩) n n) n (ints (List.replicate n 0)) := by
  have h := World.ownsRow_lit (e := 2) (size := 1) W (cn n) n hb (by unfold maxLen; omega) (by simp [cn, ints])
  exact h
theorem ownA (n : Nat) (hn : n ≤ 9) (w : World) (base : Nat) (hb : base ≤ w.heap.size) : ((w.alloc (.cells (cn n) 2)).alloc (.cells c9 2)).drew.ownsRow base 2 1 (.slice (some ⟨w.heap.size, 0, none⟩) n n) n (ints (List.replicate n 0)) ∧
    ((w.alloc (.cells (cn n) 2)).alloc (.cells c9 2)).drew.ownsRow base 2 1 (.slice (some ⟨w.heap.size + 1, 0, none⟩) 9 9) 9 (ints z9) ∧
    Below w.heap.size w ((w.alloc (.cells (cn n) 2)).alloc (.cells c9 2)).drew := by
  have h1 := ownn n hn w base hb
  have h2 := own9 (w.alloc (.cells (cn n) 2)) base (by simp; omega)
  have e : (w.alloc (.cells (cn n) 2)).heap.size = w.heap.size + 1 := by simp
  rw [e] at h2
  exact ⟨(own_below h1 ((Below.refl _ _).alloc (Nat.le_refl _) _)).drew, h2.drew, (((Below.refl w.heap.size w).alloc (Nat.le_refl _) _).alloc (by simp) _).drew⟩
theorem ownB (n : Nat) (hn : n ≤ 9) (w : World) (base : Nat) (hb : base ≤ w.heap.size) : ((w.alloc (.cells c9 2)).alloc (.cells (cn n) 2)).drew.ownsRow base 2 1 (.slice (some ⟨w.heap.size + 1, 0, none⟩) n n) n (ints (List.replicate n 0)) ∧
    ((w.alloc (.cells c9 2)).alloc (.cells (cn n) 2)).drew.ownsRow base 2 1 (.slice (some ⟨w.heap.size, 0, none⟩) 9 9) 9 (ints z9) ∧
    Below w.heap.size w ((w.alloc (.cells c9 2)).alloc (.cells (cn n) 2)).drew := by
  have h1 := own9 w base hb
  have h2 := ownn n hn (w.alloc (.cells c9 2)) base (by simp; omega)
  have e : (w.alloc (.cells c9 2)).heap.size = w.heap.size + 1 := by simp
  rw [e] at h2
  exact ⟨h2.drew, (own_below h1 ((Below.refl _ _).alloc (Nat.le_refl _) _)).drew, (((Below.refl w.heap.size w).alloc (Nat.le_refl _) _).alloc (by simp) _).drew⟩

end Go.Proofs.YthdbaflihgkomaaDoor
/- FirstRows of the program, and the law. Printed by mkfr5.py. -/
namespace Go.Proofs.YthdbaflihgkomaaDoor
open Go.RowKit Go.Shelf

theorem firstK_len (ps : List (Int × Int)) (roll : Int) (os : List Int) : ∀ k, (firstK ps roll os k).1.length = ps.length
  | 0 => by simp [firstK]
  | k + 1 => by
    unfold firstK
    split
    · split
      · simp [firstK_len ps roll os k]
      · exact firstK_len ps roll os k
    · exact firstK_len ps roll os k
theorem first_len (ps : List (Int × Int)) (roll : Int) : (firstZ ps roll).1.length ≤ ps.length := by
  unfold firstZ
  split
  · rw [firstK_len]; exact Nat.le_refl _
  · simp

end Go.Proofs.YthdbaflihgkomaaDoor
