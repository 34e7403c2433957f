/- PlanLines: what is drawn; the reference. Printed by mkpn.py. -/
import Derived.Test.YtiibhejjeijdaaaDoorMi
import Derived.Test.YtiibhejjeijdaaaDoorPw
namespace Go.Proofs.YtiibhejjeijdaaaDoor
open Go.RowKit
open Go.Sort (Holds)

/-- The first n cells of block g are these bytes, and none is frozen. -/
def HoldsF (w : World) (g n : Nat) (F : Nat → Int) : Prop := ∀ j, j < n → w.cell? ⟨g, j, none⟩ = some (.int .u8 (F j)) ∧ w.frozen? ⟨g, j, none⟩ = false
theorem HoldsF.congr {w : World} {g n : Nat} {F G : Nat → Int} (h : HoldsF w g n F) (he : ∀ j, j < n → F j = G j) : HoldsF w g n G := fun j hj => by rw [← he j hj]; exact h j hj
theorem HoldsF.below {w w' : World} {g n : Nat} {F : Nat → Int} (h : HoldsF w g n F) (hg : g < w.heap.size) (hb : Below w.heap.size w w') : HoldsF w' g n F := fun j hj =>
  ⟨(hb.cell (p := ⟨g, j, none⟩) hg).trans (h j hj).1, (hb.frozen (p := ⟨g, j, none⟩) hg).trans (h j hj).2⟩
theorem HoldsF.drewN {w : World} {g n : Nat} {F : Nat → Int} (h : HoldsF w g n F) (k : Nat) : HoldsF (w.drewN k) g n F := h
theorem HoldsF.set {w : World} {g n : Nat} {F : Nat → Int} (h : HoldsF w g n F) {x : Nat} (hx : x < n) (v : Int) : HoldsF (w.setCell ⟨g, x, none⟩ (.int .u8 v)) g n (fun j => if j = x then v else F j) := fun j hj => by
  refine ⟨?_, by rw [World.frozen?_setCell]; exact (h j hj).2⟩
  show _ = some (Value.int .u8 (if j = x then v else F j))
  by_cases e : j = x
  · subst e
    rw [if_pos rfl]
    exact World.cell?_setCell_same _ _ _ (h j hj).1
  · rw [if_neg e, World.cell?_setCell_other _ _ _ _ (by intro he; injection he with _ h2; omega)]
    exact (h j hj).1
theorem HoldsF.bytes (w : World) (e : TypeId) (r : ByteArray) : HoldsF (Lib.bytesWorld w e r) w.heap.size r.size (chr r) := fun j hj => by
  have h := holds_bytes w e r j (by simpa [byI_len] using hj)
  rw [Nat.zero_add] at h
  refine ⟨?_, h.2⟩
  rw [h.1, getElem!_pos _ j (by simpa [byI_len] using hj)]
  have h2 := byI_at hj
  rw [List.getElem?_eq_getElem (by rw [byI_len]; exact hj)] at h2
  injection h2 with h2
  rw [List.getElem_toArray, h2, chr_at hj]
def rowF (off m : Nat) (F : Nat → Int) : List Int := (List.range m).map fun x => F (off + x)
theorem rowF_len (off m : Nat) (F : Nat → Int) : (rowF off m F).length = m := by simp [rowF]
theorem rowF_congr {off m off' : Nat} {F G : Nat → Int} (h : ∀ x, x < m → F (off + x) = G (off' + x)) : rowF off m F = rowF off' m G := by
  unfold rowF
  exact List.map_congr_left fun x hx => h x (List.mem_range.mp hx)
theorem HoldsF.conv {w : World} {g n : Nat} {F : Nat → Int} (h : HoldsF w g n F) {off m : Nat} (hm : off + m ≤ n) : ∀ i, i < m → w.cell? ⟨g, off + i, none⟩ = some (.int .u8 ((rowF off m F).getD i 0)) := fun i hi => by
  rw [(h (off + i) (by omega)).1]
  simp [rowF, List.getD, hi]

/-- The byte at row y, column x, when k pieces have been drawn over c. -/
def ovK (cs : List CutV) (pl : List Int) (m : Nat) : Nat → Nat → Nat → Int → Int
  | 0, _, _, c => c
  | k + 1, y, x, c => if onK pl k = true ∧ (fK pl k / m ≤ y ∧ y < fK pl k / m + htK cs k) ∧ (fK pl k % m ≤ x ∧ x < fK pl k % m + wdK cs k) then 48 + (k : Int) else ovK cs pl m k y x c
theorem ov_off {cs : List CutV} {pl : List Int} {m k y x : Nat} {c : Int} (h : onK pl k = false) : ovK cs pl m (k + 1) y x c = ovK cs pl m k y x c := if_neg fun hh => by rw [h] at hh; cases hh.1
theorem ov_out {cs : List CutV} {pl : List Int} {m k y x : Nat} {c : Int} (h : ¬ (fK pl k / m ≤ y ∧ y < fK pl k / m + htK cs k)) : ovK cs pl m (k + 1) y x c = ovK cs pl m k y x c := if_neg fun hh => h hh.2.1
theorem ov_in {cs : List CutV} {pl : List Int} {m k y x : Nat} {c : Int} (h : onK pl k = true) (h2 : fK pl k / m ≤ y ∧ y < fK pl k / m + htK cs k) : ovK cs pl m (k + 1) y x c = if fK pl k % m ≤ x ∧ x < fK pl k % m + wdK cs k then 48 + (k : Int) else ovK cs pl m k y x c := by
  show (if _ then _ else _) = _
  by_cases hx : fK pl k % m ≤ x ∧ x < fK pl k % m + wdK cs k
  · rw [if_pos hx, if_pos ⟨h, h2, hx⟩]
  · rw [if_neg hx, if_neg fun hh => hx hh.2.2]
theorem ov_set {cs : List CutV} {pl : List Int} {m k y x : Nat} {c : Int} (h : onK pl k = true) (hx : x < m) (hf : fK pl k % m + wdK cs k ≤ m) (hi : InR m (htK cs k) (wdK cs k) (fK pl k) (y * m + x)) : ovK cs pl m (k + 1) y x c = 48 + (k : Int) := by
  obtain ⟨y', x', a, b, d, e, he⟩ := hi
  obtain ⟨rfl, rfl⟩ := split_eq hx (by omega) he
  exact if_pos ⟨h, ⟨a, b⟩, ⟨d, e⟩⟩
theorem ov_unset {cs : List CutV} {pl : List Int} {m k y x : Nat} {c : Int} (hi : ¬ InR m (htK cs k) (wdK cs k) (fK pl k) (y * m + x)) : ovK cs pl m (k + 1) y x c = ovK cs pl m k y x c :=
  if_neg fun hh => hi ⟨y, x, hh.2.1.1, hh.2.1.2, hh.2.2.1, hh.2.2.2, rfl⟩
def rowT (rs : List ByteArray) (cs : List CutV) (pl : List Int) (m q y : Nat) : ByteArray := strOfNums (rowF 0 m fun x => ovK cs pl m q y x (chr (rs.getD y ByteArray.empty) x))
theorem rowT_size (rs : List ByteArray) (cs : List CutV) (pl : List Int) (m q y : Nat) : (rowT rs cs pl m q y).size = m := by unfold rowT; rw [strOfNums_size, rowF_len]
def plT (rs : List ByteArray) (cs : List CutV) (pl : List Int) (n m q : Nat) : List ByteArray := (List.range n).map (rowT rs cs pl m q)
theorem plT_snoc (rs : List ByteArray) (cs : List CutV) (pl : List Int) (m q k : Nat) : plT rs cs pl (k + 1) m q = plT rs cs pl k m q ++ [rowT rs cs pl m q k] := by simp [plT, List.range_succ]
theorem plT_len (rs : List ByteArray) (cs : List CutV) (pl : List Int) (n m q : Nat) : (plT rs cs pl n m q).length = n := by simp [plT]
noncomputable def pnZ (rs : List ByteArray) (cs : List CutV) (pl : List Int) : List ByteArray × Int :=
  if goodC rs cs pl = 0 then (plT rs cs pl rs.length (colN rs) pl.length, 0) else ([], goodC rs cs pl)
theorem pnZ_0 {rs : List ByteArray} {cs : List CutV} {pl : List Int} (h : goodC rs cs pl = 0) : pnZ rs cs pl = (plT rs cs pl rs.length (colN rs) pl.length, 0) := if_pos h
theorem pnZ_n {rs : List ByteArray} {cs : List CutV} {pl : List Int} (h : ¬ goodC rs cs pl = 0) : pnZ rs cs pl = ([], goodC rs cs pl) := if_neg h
theorem pnZ_len (rs : List ByteArray) (cs : List CutV) (pl : List Int) : (pnZ rs cs pl).1.length ≤ 1048576 := by
  by_cases h : goodC rs cs pl = 0
  · rw [pnZ_0 h]
    have := (planC_ok (goodC_ok h)).hide.len
    show (plT _ _ _ _ _ _).length ≤ _
    rw [plT_len]; omega
  · rw [pnZ_n h]; simp

theorem fst_neg {p : Nat → Bool} : ∀ r k, fstW p r k < 0 → ∀ j, k ≤ j → j < k + r → p j = false
  | 0, k, _, j, h1, h2 => by omega
  | r + 1, k, h, j, h1, h2 => by
    cases hp : p k with
    | true =>
      have e : fstW p (r + 1) k = (k : Int) := if_pos hp
      rw [e] at h; omega
    | false =>
      have e : fstW p (r + 1) k = fstW p r (k + 1) := if_neg (by rw [hp]; simp)
      rw [e] at h
      by_cases hj : j = k
      · subst hj; exact hp
      · exact fst_neg r (k + 1) h j (by omega) (by omega)
theorem fitT {rs : List ByteArray} {cs : List CutV} {pl : List Int} (h0 : goodC rs cs pl = 0) {n m : Nat} (hn : rs.length = n) (hm : colN rs = m) {k : Nat} (hk : k < pl.length) (ho : onK pl k = true) : fitK rs n m cs pl k = true := by
  have h1 := goodC_ok h0
  rw [goodC_z h1] at h0
  have hneg : faultZ rs rs.length (colN rs) cs pl < 0 := by
    by_cases hh : 0 ≤ faultZ rs rs.length (colN rs) cs pl
    · rw [if_pos hh] at h0; cases h0
    · omega
  have hw := fst_neg _ _ hneg k (Nat.zero_le _) (by omega)
  rw [hn, hm] at hw
  cases hf : fitK rs n m cs pl k with
  | false => rw [wrong_unfit ho hf] at hw; cases hw
  | true => rfl
theorem fitG {rs : List ByteArray} {cs : List CutV} {pl : List Int} (h0 : goodC rs cs pl = 0) {n m : Nat} (hn : rs.length = n) (hm : colN rs = m) {k : Nat} (hk : k < pl.length) (ho : onK pl k = true) : fK pl k / m + htK cs k ≤ n ∧ fK pl k % m + wdK cs k ≤ m := by
  have := fitB_true (fitT h0 hn hm hk ho)
  exact ⟨this.hh, this.hw⟩
/-- What is known of the k-th piece of a sound plan. -/
structure SoK (n m : Nat) (cs : List CutV) (pl : List Int) (k : Nat) (x : CutV) (y : Int) : Prop where
  at_ : AtK n m cs pl k x y
  hh : onK pl k = true → fK pl k / m + htK cs k ≤ n
  hw : onK pl k = true → fK pl k % m + wdK cs k ≤ m
theorem soK {rs : List ByteArray} {cs : List CutV} {pl : List Int} (h0 : goodC rs cs pl = 0) {n m : Nat} (hn : rs.length = n) (hm : colN rs = m) {k : Nat} {x : CutV} {y : Int} (hx : cs[k]? = some x) (hy : pl[k]? = some y) : SoK n m cs pl k x y :=
  ⟨(planC_ok (goodC_ok h0)).at hn hm hx hy, fun ho => (fitG h0 hn hm (List.getElem?_eq_some_iff.1 hy).1 ho).1, fun ho => (fitG h0 hn hm (List.getElem?_eq_some_iff.1 hy).1 ho).2⟩
set_option maxRecDepth 100000 in
set_option maxHeartbeats 4000000 in
theorem specPlan_any (A B C : Option Addr) (n c p d q f : Nat) (rs : List ByteArray) (cs : List CutV) (pl : List Int) (w : World) (hA : Rd w 1 A n c (txs rs)) (hB : Rd w 4 B p d (qd cs)) (hC : Rd w 1 C q f (ints pl)) (hs : ∀ s ∈ rs, s.size ≤ 9223372036854775807) :
    Calls Tryd.prog 40 #[.slice A n c, .slice B p d, .slice C q f] w (StrPost w (pnZ rs cs pl).1 (pnZ rs cs pl).2) := by
  have HCO := Lib.hid (l10Good_any A B C n c p d q f rs cs pl w hA hB hC hs)
  rcases Decidable.em (¬ goodC rs cs pl = 0) with h0 | h0
  · rw [pnZ_n h0]
    simp only
    generalize goodC rs cs pl = k at *
    have hd : (k != 0) = true := by simp; omega
    clear hA hB hC
    go_enter Tryd.func40, Tryd.ntmps40
    go_wp2_with fail
    refine (HCO.out).mono ?_
    rintro e w1 ⟨rfl, hb1⟩
    go_wp2_with fail
    go_ret2
    exact strPost_nil hb1
  have h0 : goodC rs cs pl = 0 := Decidable.not_not.mp h0
  obtain ⟨i0, hi, hz0, hz1, hz2⟩ := info_parts info_str
  have hp := planC_ok (goodC_ok h0)
  have hla := hA.tlen
  have hlb := hB.qlen
  have hlc := hC.ilen
  have hqp : q = p := by have := hp.len; omega
  subst hqp
  have hq4 : q ≤ 4 := by have := hp.cuts.len; omega
  have hg := hp.hide.grid hla
  obtain ⟨m, hm⟩ : ∃ m, colN rs = m := ⟨_, rfl⟩
  rw [pnZ_0 h0, hla, hm, hlc]
  rw [hm] at hg
  rw [h0] at HCO
  simp only
  have hso := fun k x y hx hy => soK h0 hla hm (k := k) (x := x) (y := y) hx hy
  have hn6 := hg.bn
  have hm6 := hg.bm
  have a1 := hA.cap
  have a2 := hA.max
  have a3 := hB.cap
  have a4 := hB.max
  have a5 := hC.cap
  have a6 := hC.max
  have HSZ := Lib.hid hg.sz
  have HSO := Lib.hid hso
  have HA := Lib.hid hA
  have HB := Lib.hid hB
  have HC := Lib.hid hC
  have hsn := fun k => plT_snoc rs cs pl m q k
  have hrt := fun k => rowT_size rs cs pl m q k
  have HRT := Lib.hid hrt
  have HSN := Lib.hid hsn
  have hn0 : 0 < n := by omega
  have hn0I : (0 : Int) < (n : Int) := by omega
  clear h0 hp hlb hlc hla hg hm hso hsn hrt hA hB hC hs
  go_enter Tryd.func40, Tryd.ntmps40
  go_wp2_with fail
  refine (HCO.out).mono ?_
  rintro e w1 ⟨rfl, hb1⟩
  obtain ⟨b0, o0, r0, hA0, hbl0, hx0, cc0⟩ := (HA.out.below hb1).txt hn0
  rw [Nat.add_zero] at cc0
  have hr0 := HSZ.out 0 r0 hx0
  subst hA0
  have hs1 := hb1.size
  have ha : Below w1.heap.size w1 (w1.alloc (.cells #[] 9)) := (Below.refl _ _).alloc (Nat.le_refl _) _
  have HO2 := Lib.hid (show (w1.alloc (.cells #[] 9)).ownsRow w.heap.size 9 1 (.slice (some ⟨w1.heap.size, 0, none⟩) 0 0) 0 (txs (plT rs cs pl 0 m q)) from World.ownsRow_made w1 #[] 0 hs1 (by unfold maxLen; omega) rfl)
  have HB2 := Lib.hid (hb1.trans (ha.mono hs1))
  have hsI : (r0.size : Int) = (m : Int) := by omega
  clear hb1 ha hx0 hr0
  go_wp2
  go_loopw [10, 11] (fun vo vk wr => ∃ (k go co : Nat), k ≤ n ∧ vk = .int .i64 k ∧ vo = .slice (some ⟨go, 0, none⟩) k co ∧ Hid (wr.ownsRow w.heap.size 9 1 (.slice (some ⟨go, 0, none⟩) k co) k (txs (plT rs cs pl k m q))) ∧ Hid (Below w.heap.size w wr)) (fun _ vk _ => n - (intOf vk).toNat)
  case atStart => exact ⟨0, _, _, Nat.zero_le _, rfl, rfl, HO2, HB2⟩
  case round =>
    clear HO2 HB2 cc0
    obtain ⟨y, go, co, hy, rfl, rfl, HO, HBW⟩ := hrel
    obtain ⟨w3, rfl⟩ : ∃ w', w' = wr := ⟨_, rfl⟩
    have hgb := (own_block HO.out go rfl)
    have hcap := (Rd.of_own HO.out).cap
    have hmax := (Rd.of_own HO.out).max
    have hs := HBW.out.size
    by_cases hlt : y < n
    · have hk0 : (0 : Int) ≤ (y : Int) := by omega
      have hk1 : (y : Int) < (n : Int) := by omega
      obtain ⟨b1, o1, r, hA1, hbl, hx, c0⟩ := (HA.out.below HBW.out).txt hlt
      injection hA1 with hA1
      injection hA1 with e1 e2
      subst e1
      subst e2
      have hr := HSZ.out y r hx
      have hgd : rs.getD y ByteArray.empty = r := by simp [List.getD, hx]
      have hnx : txs (plT rs cs pl y m q) ++ [.string (rowT rs cs pl m q y)] = txs (plT rs cs pl (y + 1) m q) := by rw [HSN.out y, txs_append]; rfl
      have hrow : strOfNums (rowF 0 m fun x => ovK cs pl m q y x (chr r x)) = rowT rs cs pl m q y := by unfold rowT; rw [hgd]
      have HROW := Lib.hid hrow
      have HNX := Lib.hid hnx
      have hcv := Lib.run_convert_string_bytes (P := Tryd.prog) w3 9 29 5 r (u := .string) Tryd.underlying9 Tryd.underlying29 Tryd.underlying5
      have hbw := Joins.below_bytesWorld w3.heap.size w3 5 r (Nat.le_refl _)
      have hH := HoldsF.bytes w3 5 r
      rw [hr] at hH hcv
      have hgs : w3.heap.size < (Lib.bytesWorld w3 5 r).heap.size := by rw [Lib.bytesWorld_size]; omega
      generalize Lib.bytesWorld w3 5 r = W1 at *
      generalize grownCap w3 m 0 5 = c1 at *
      have HHF : Hid (HoldsF W1 w3.heap.size m (fun x => ovK cs pl m 0 y x (chr r x))) := hH
      have HBL := Lib.hid hbw
      clear hr hgd hnx hrow hbw hH hx
      go_wp2
      go_loopw [13] (fun vi wr => ∃ i : Nat, i ≤ q ∧ vi = .int .i64 i ∧ Hid (HoldsF wr w3.heap.size m (fun x => ovK cs pl m i y x (chr r x))) ∧ w3.heap.size < wr.heap.size ∧ Hid (Below w3.heap.size w3 wr)) (fun vi _ => q - (intOf vi).toNat)
      case atStart => exact ⟨0, Nat.zero_le _, rfl, HHF, hgs, HBL⟩
      case round =>
        clear HHF HBL hcv hgs
        obtain ⟨i, hiq, rfl, HHF, hgs, HBL⟩ := hrel
        obtain ⟨w4, rfl⟩ : ∃ w', w' = wr := ⟨_, rfl⟩
        have hs4 := HBL.out.size
        have HBB := Lib.hid (HBW.out.trans (HBL.out.mono hs))
        by_cases hil : i < q
        · have hi0 : (0 : Int) ≤ (i : Int) := by omega
          have hi1 : (i : Int) < (q : Int) := by omega
          obtain ⟨b2, o2, x, hBe, _, hx, _⟩ := HB.out.cut hil
          obtain ⟨b3, o3, v, hCe, _, hv, _⟩ := HC.out.int hil
          have HYB := Lib.hid (show ∀ W0, Below w.heap.size w W0 → W0.cell? ⟨b3, o3 + i, none⟩ = some (.int .i64 v) ∧ W0.cell? ⟨b2, o2 + i * 4, none⟩ = some (.int .i64 x.wd) ∧ W0.cell? ⟨b2, o2 + i * 4 + 1, none⟩ = some (.int .i64 x.ht) from fun W0 hb0 => by
            obtain ⟨b2', o2', x', hBe', _, hx', x0', x1', _⟩ := (HB.out.below hb0).cut hil
            obtain ⟨b3', o3', v', hCe', _, hv', y0'⟩ := (HC.out.below hb0).int hil
            rw [hBe] at hBe'; rw [hCe] at hCe'; rw [hx] at hx'; rw [hv] at hv'
            cases hBe'; cases hCe'; cases hx'; cases hv'
            exact ⟨y0', x0', x1'⟩)
          obtain ⟨y0, x0, x1⟩ := HYB.out w4 HBB.out
          have hso := HSO.out i x v hx hv
          obtain ⟨xw, xh, xq, xo⟩ := x
          simp only at x0 x1 HYB
          have hwd := hso.at_.wd
          have hht := hso.at_.ht
          simp only at hwd hht
          have hof := hso.at_.off
          have hon := hso.at_.on
          have hfh := hso.hh
          have hfw := hso.hw
          have hbw := hso.at_.bw
          have hbh := hso.at_.bh
          have hov1 := fun hh => fun x c => ov_off (cs := cs) (pl := pl) (m := m) (k := i) (y := y) (x := x) (c := c) hh
          have hov2 := fun hh => fun x c => ov_out (cs := cs) (pl := pl) (m := m) (k := i) (y := y) (x := x) (c := c) hh
          have hov3 := fun hh h2 => fun x c => ov_in (cs := cs) (pl := pl) (m := m) (k := i) (y := y) (x := x) (c := c) hh h2
          generalize fK pl i = F at *
          generalize htK cs i = H at *
          generalize wdK cs i = W at *
          subst hwd
          subst hht
          subst hBe
          subst hCe
          clear hso hx hv
          cases ho : onK pl i with
          | false =>
            have hv0 := hof ho
            have hd : decide (v < 0) = true := by simpa using hv0
            have HN := Lib.hid (HHF.out.congr (G := fun x => ovK cs pl m (i + 1) y x (chr r x)) (fun j _ => (hov1 ho j _).symm))
            clear hof hon hov1 hov2 hov3 hfh hfw HHF
            go_wp2
            go_quiet (fail)
            have HN2 := Lib.hid (HN.out.drewN nq)
            have HBL2 := Lib.hid (below_drewN HBL.out nq)
            go_wp2
            go_roundw
            case rel => exact ⟨i + 1, by omega, by go_num, HN2, hgs, HBL2⟩
            case measure => simp [intOf]; omega
          | true =>
            obtain ⟨hvF, hFl⟩ := hon ho
            subst hvF
            have hd : decide ((F : Int) < 0) = false := by simp
            have hf0 : (0 : Int) ≤ (F : Int) := by omega
            have hm1 : (1 : Int) ≤ (m : Int) := by omega
            have hmz : ((m : Int) == 0) = false := by simp; omega
            have hdm := divmod hm6.1 hFl
            have hd1 : (F : Int) / (m : Int) = ((F / m : Nat) : Int) := by rw [Int.natCast_ediv]
            have hd2 : (F : Int) % (m : Int) = ((F % m : Nat) : Int) := by rw [Int.natCast_emod]
            have hfh := hfh ho
            have hfw := hfw ho
            have hbd : F / m < 6 ∧ F % m < 6 ∧ F < 36 := ⟨by omega, by omega, by have : n * m ≤ 6 * m := Nat.mul_le_mul_right m (by omega); omega⟩
            have HW := Lib.hid (fun W0 => l00In_any (y : Int) ((F : Int) / (m : Int)) ((F : Int) / (m : Int) + (H : Int) - 1) W0)
            have HOV3 := Lib.hid (hov3 ho)
            have HOV2 := Lib.hid hov2
            have HD1 := Lib.hid hd1
            have HD2 := Lib.hid hd2
            clear hof hon hov1 hov2 hov3 hdm
            have hiv : inB (y : Int) ((F : Int) / (m : Int)) ((F : Int) / (m : Int) + (H : Int) - 1) = decide (F / m ≤ y ∧ y < F / m + H) := by
              cases hz : inB (y : Int) ((F : Int) / (m : Int)) ((F : Int) / (m : Int) + (H : Int) - 1) with
              | true => have := inB_true hz; rw [hd1] at this; exact (decide_eq_true (by omega)).symm
              | false =>
                refine (decide_eq_false fun hh => ?_).symm
                rw [inB_mk (by rw [hd1]; omega) (by rw [hd1]; omega)] at hz
                cases hz
            rw [hiv] at HW
            have hqI0 : 0 ≤ (F : Int) / (m : Int) := by rw [hd1]; exact Int.natCast_nonneg _
            have hqI1 : (F : Int) / (m : Int) ≤ 6 := by rw [hd1]; omega
            have hqJ0 : 0 ≤ (F : Int) % (m : Int) := by rw [hd2]; exact Int.natCast_nonneg _
            have hqJ1 : (F : Int) % (m : Int) ≤ 6 := by rw [hd2]; omega
            clear hiv hd1 hd2
            by_cases hin : F / m ≤ y ∧ y < F / m + H
            · rw [decide_eq_true hin] at HW
              have HOV := Lib.hid (HOV3.out hin)
              clear HOV3 HOV2 hin
              go_wp2
              go_quiet ((go_at_call 59; refine Calls.quiet_of_same ((HW.out _).mono fun _ _ h => ⟨h.1, h.2.symm⟩)))
              have HHF2 := Lib.hid (HHF.out.drewN nq)
              have HBL2 := Lib.hid (below_drewN HBL.out nq)
              have hgs2 : w3.heap.size < (w4.drewN nq).heap.size := hgs
              have HBB2 := Lib.hid (below_drewN HBB.out nq)
              have y2 : (w4.drewN nq).cell? ⟨b3, o3 + i, none⟩ = some (.int .i64 F) := y0
              generalize w4.drewN nq = w5 at *
              obtain ⟨X0, hX0⟩ : ∃ X0, F % m = X0 := ⟨_, rfl⟩
              rw [hX0] at hfw hbd
              have HF3 : Hid (HoldsF w5 w3.heap.size m (fun x' => if X0 ≤ x' ∧ x' < X0 then 48 + (i : Int) else ovK cs pl m i y x' (chr r x'))) := Lib.hid (HHF2.out.congr fun j _ => (if_neg (by omega)).symm)
              have hd3 : (F : Int) % (m : Int) = (X0 : Int) := by rw [HD2.out, hX0]
              have HD3 := Lib.hid hd3
              have HX0 := Lib.hid hX0
              clear hd3 hX0 HHF2 HHF HBL HBB HW x0 x1 y0
              go_wp2
              rw [HD3.out]
              clear y2
              go_loopw [14] (fun vx wr => ∃ x : Nat, X0 ≤ x ∧ x ≤ X0 + W ∧ vx = .int .i64 x ∧ Hid (HoldsF wr w3.heap.size m (fun x' => if X0 ≤ x' ∧ x' < x then 48 + (i : Int) else ovK cs pl m i y x' (chr r x'))) ∧ w3.heap.size < wr.heap.size ∧ Hid (Below w3.heap.size w3 wr)) (fun vx _ => X0 + W - (intOf vx).toNat)
              case atStart => exact ⟨X0, Nat.le_refl _, by omega, rfl, HF3, hgs2, HBL2⟩
              case round =>
                clear HF3 hgs2 HBL2 HBB2 hgs
                obtain ⟨x, hxa, hxb, rfl, HF3, hgs, HBL⟩ := hrel
                obtain ⟨y0, x0, _⟩ := HYB.out wr (HBW.out.trans (HBL.out.mono hs))
                have hd4 := HD3.out
                by_cases hxl : x < X0 + W
                · have hdx : decide ((x : Int) < (X0 : Int) + (W : Int)) = true := by simp; omega
                  have hxm : x < m := by omega
                  have hx0 : (0 : Int) ≤ (x : Int) := by omega
                  have hx1 : (x : Int) < (m : Int) := by omega
                  have hold := (HF3.out x hxm).1
                  have hfr := (HF3.out x hxm).2
                  go_wp2
                  go_quiet (fail)
                  have hold2 : (wr.drewN nq).cell? ⟨w3.heap.size, x, none⟩ = _ := hold
                  have hfr2 : (wr.drewN nq).frozen? ⟨w3.heap.size, x, none⟩ = _ := hfr
                  have hgs2 : w3.heap.size < (wr.drewN nq).heap.size := hgs
                  have HF5 := Lib.hid (HF3.out.drewN nq)
                  have HBL5 := Lib.hid (below_drewN HBL.out nq)
                  generalize wr.drewN nq = w6 at *
                  have HF4 := Lib.hid (HF5.out.set hxm (48 + (i : Int)))
                  have HBL4 := Lib.hid (HBL5.out.setCell (p := ⟨w3.heap.size, x, none⟩) (Nat.le_refl _) (.int .u8 (48 + (i : Int))))
                  clear hold hfr HF3 HF5 HBL HBL5 hgs
                  go_wp2
                  go_roundw
                  case rel => exact ⟨x + 1, by omega, by omega, by go_num, Lib.hid (HF4.out.congr fun j _ => by
                    by_cases e : j = x
                    · rw [if_pos e, if_pos (by omega)]
                    · rw [if_neg e]
                      by_cases hh : X0 ≤ j ∧ j < x
                      · rw [if_pos hh, if_pos (by omega)]
                      · rw [if_neg hh, if_neg (by omega)]), (by simpa using hgs2), HBL4⟩
                  case measure => simp [intOf]; omega
                · have hdx : decide ((x : Int) < (X0 : Int) + (W : Int)) = false := by simp; omega
                  have HN : Hid (HoldsF wr w3.heap.size m (fun x => ovK cs pl m (i + 1) y x (chr r x))) := Lib.hid (HF3.out.congr fun j _ => by
                    rw [HOV.out j (chr r j), HX0.out]
                    by_cases hh : X0 ≤ j ∧ j < X0 + W
                    · rw [if_pos hh, if_pos (by omega)]
                    · rw [if_neg hh, if_neg (by omega)])
                  clear HF3
                  go_wp2
                  go_quiet (fail)
                  have HN2 := Lib.hid (HN.out.drewN nq)
                  have HBL2 := Lib.hid (below_drewN HBL.out nq)
                  go_wp2
                  go_roundw
                  case rel => exact ⟨i + 1, by omega, by go_num, HN2, hgs, HBL2⟩
                  case measure => simp [intOf]; omega
            · rw [decide_eq_false hin] at HW
              have HN := Lib.hid (HHF.out.congr (G := fun x => ovK cs pl m (i + 1) y x (chr r x)) (fun j _ => (HOV2.out hin j _).symm))
              clear HOV3 HOV2 HHF hin
              go_wp2
              go_quiet ((go_at_call 59; refine Calls.quiet_of_same ((HW.out _).mono fun _ _ h => ⟨h.1, h.2.symm⟩)))
              have HN2 := Lib.hid (HN.out.drewN nq)
              have HBL2 := Lib.hid (below_drewN HBL.out nq)
              go_wp2
              go_roundw
              case rel => exact ⟨i + 1, by omega, by go_num, HN2, hgs, HBL2⟩
              case measure => simp [intOf]; omega
        · have hiq2 : i = q := by omega
          subst hiq2
          have hcv2 := run_convert_bytes_arg (P := Tryd.prog) w4 29 5 Tryd.underlying29 Tryd.underlying5 w3.heap.size 0 m c1 (rowF 0 m fun x => ovK cs pl m i y x (chr r x)) (rowF_len _ _ _) (HHF.out.conv (by omega)) 9 Tryd.underlying9
          rw [HROW.out] at hcv2
          have HO2 := Lib.hid (own_below HO.out HBL.out)
          have hgb2 := (own_block HO2.out go rfl)
          have hrs := HRT.out y
          generalize rowT rs cs pl m i y = r2 at *
          clear HHF HROW
          go_wp2_with (at_builtin; refine wpList_append_own_at _ rfl (.tmp 101) (.tmp 104) 22 rfl w.heap.size 9 i0 (.string ByteArray.empty) 1 16 Tryd.underlying22 hi hz0 hz1 hz2 rfl (by decide) (Value.slice (some ⟨go, 0, none⟩) y co) _ _ rfl (HO2.out.alloc _) ⟨_, 0, none⟩ 1 1 [.string r2] rfl rfl (cell_one_new _ _ _) (by intro u hu; simp at hu; subst hu; rfl) (by unfold maxLen; omega) (by omega) (by simp; omega) ?_; intro v' wa hown' hga hdel hblk; clear hdel)
          have hal : Below w4.heap.size w4 (w4.alloc (.cells #[.string r2] 9)) := (Below.refl _ _).alloc (Nat.le_refl _) _
          obtain ⟨g3, d3, hv, hg3, _⟩ := own_form hown' (by omega)
          have b3 : Below w.heap.size w wa := (HBB.out.trans (hal.mono (by omega))).grown hga (by simp; omega) (fun j hj => by simp [Value.ownBlock] at hj; omega)
          rw [HNX.out] at hown'
          subst hv
          have HO4 := Lib.hid hown'
          have HB4 := Lib.hid b3
          clear hown' hga hal b3 hblk
          go_wp2
          go_roundw
          case rel => exact ⟨y + 1, g3, d3, by omega, by go_num, rfl, HO4, HB4⟩
          case measure => simp [intOf]; omega
    · have hkn : n = y := by omega
      subst hkn
      go_wp2
      go_ret2
      exact ⟨_, _, _, rfl, HO.out, HBW.out⟩

end Go.Proofs.YtiibhejjeijdaaaDoor
