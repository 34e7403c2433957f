/- PlanLines: the program, and the law. Printed by mkpm.py. -/
import Derived.Test.YtiibhejjeijdaaaDoorPn
import Derived.Test.YtiibhejjeijdaaaDoorShJ
namespace Go.Proofs.YtiibhejjeijdaaaDoor
open Go.RowKit

theorem extraJ : Builder.Extra Tryd.prog Tryd.lays156_ren where
  sizeBuilder := by kernel_rfl
  liesBuilder := by kernel_rfl
  t5 := Tryd.underlying5
  a5 := Tryd.isAgg5
  z5 := Tryd.sizeOf5
  v5 := Tryd.zeroValue5
  infoByte := by kernel_rfl
  cellsByte := by kernel_rfl
  sizeByte := by kernel_rfl
  neB5 := by decide
theorem chr_get (s : ByteArray) (j : Nat) : chr s j = ((s.data.toList[j]?).map (fun b => (b.toNat : Int))).getD 0 := by
  unfold chr
  by_cases h : j < s.size
  · rw [dif_pos h, Array.getElem?_toList, Array.getElem?_eq_getElem (by simpa using h)]
    rfl
  · rw [dif_neg h, List.getElem?_eq_none (by simpa using h)]
    rfl
theorem flat_len {α : Type} (m : Nat) : ∀ l : List (List α), (∀ a ∈ l, a.length = m) → l.flatten.length = l.length * m
  | [], _ => by simp
  | a :: l, h => by
    rw [List.flatten_cons, List.length_append, flat_len m l (fun b hb => h b (List.mem_cons_of_mem _ hb)), h a (List.mem_cons_self ..), List.length_cons, Nat.succ_mul, Nat.add_comm]
theorem flat_at {α : Type} (m : Nat) : ∀ (l : List (List α)) (y x : Nat) (a : List α), (∀ a ∈ l, a.length = m) → l[y]? = some a → x < m → l.flatten[y * m + x]? = a[x]?
  | [], y, x, a, _, h, _ => by simp at h
  | b :: l, 0, x, a, hl, h, hx => by
    simp at h
    subst h
    have := hl b (List.mem_cons_self ..)
    rw [List.flatten_cons, Nat.zero_mul, Nat.zero_add, List.getElem?_append_left (by omega)]
  | b :: l, y + 1, x, a, hl, h, hx => by
    have hb := hl b (List.mem_cons_self ..)
    rw [List.getElem?_cons_succ] at h
    have e : (y + 1) * m + x = m + (y * m + x) := by rw [Nat.succ_mul]; omega
    rw [List.flatten_cons, List.getElem?_append_right (by rw [e]; omega), e, hb, Nat.add_sub_cancel_left]
    exact flat_at m l y x a (fun c hc => hl c (List.mem_cons_of_mem _ hc)) h hx
theorem join_flat (xs : List (List UInt8)) : Go.Lib.join xs [] = xs.flatten := by
  cases xs with
  | nil => rfl
  | cons x r => rw [Go.Lib.join_cons]; simp [Go.Lib.joinTail]
/-- All rows one behind the other. -/
def joinB (rs : List ByteArray) : ByteArray := ⟨(Go.Lib.join (rs.map (·.data.toList)) []).toArray⟩
theorem rows_len {rs : List ByteArray} {n m : Nat} (hg : Grid rs n m) : ∀ a ∈ rs.map (·.data.toList), a.length = m := fun a ha => by
  obtain ⟨r, hr, rfl⟩ := List.mem_map.1 ha
  obtain ⟨k, hk⟩ := List.getElem?_of_mem hr
  have := hg.sz k r hk
  rw [← this]
  simp
theorem joinB_size {rs : List ByteArray} {n m : Nat} (hg : Grid rs n m) : (joinB rs).size = n * m := by
  show (Go.Lib.join (rs.map (·.data.toList)) []).toArray.size = _
  rw [join_flat, List.size_toArray, flat_len m _ (rows_len hg), List.length_map, hg.len]
theorem joinB_chr {rs : List ByteArray} {n m : Nat} (hg : Grid rs n m) {p : Nat} (hp : p < n * m) : chr (joinB rs) p = chr (rs.getD (p / m) ByteArray.empty) (p % m) := by
  obtain ⟨h1, h2, h3⟩ := divmod hg.bm.1 hp
  obtain ⟨r, hr⟩ := hg.at h1
  have e : rs.getD (p / m) ByteArray.empty = r := by simp [List.getD, hr]
  rw [e, chr_get, chr_get]
  have hr2 : (rs.map (·.data.toList))[p / m]? = some r.data.toList := by simp [hr]
  have := flat_at m _ (p / m) (p % m) _ (rows_len hg) hr2 h2
  rw [← h3] at this
  show ((Go.Lib.join (rs.map (·.data.toList)) []).toArray.toList[p]?.map _).getD 0 = _
  rw [join_flat, List.toList_toArray, this]
/-- The byte at place p when k pieces have been drawn. -/
def ovP (rs : List ByteArray) (cs : List CutV) (pl : List Int) (m k p : Nat) : Int := ovK cs pl m k (p / m) (p % m) (chr (rs.getD (p / m) ByteArray.empty) (p % m))
theorem place_eq (m p : Nat) : p / m * m + p % m = p := by rw [Nat.mul_comm]; exact Nat.div_add_mod p m
theorem ovP_off {rs : List ByteArray} {cs : List CutV} {pl : List Int} {m k : Nat} (h : onK pl k = false) (p : Nat) : ovP rs cs pl m (k + 1) p = ovP rs cs pl m k p := ov_off h
theorem ovP_set {rs : List ByteArray} {cs : List CutV} {pl : List Int} {m k p : Nat} (h : onK pl k = true) (hm : 1 ≤ m) (hf : fK pl k % m + wdK cs k ≤ m) (hi : InR m (htK cs k) (wdK cs k) (fK pl k) p) : ovP rs cs pl m (k + 1) p = 48 + (k : Int) :=
  ov_set h (Nat.mod_lt _ hm) hf (by rw [place_eq]; exact hi)
theorem ovP_unset {rs : List ByteArray} {cs : List CutV} {pl : List Int} {m k p : Nat} (hi : ¬ InR m (htK cs k) (wdK cs k) (fK pl k) p) : ovP rs cs pl m (k + 1) p = ovP rs cs pl m k p :=
  ov_unset (by rw [place_eq]; exact hi)
theorem ovP_row {rs : List ByteArray} {cs : List CutV} {pl : List Int} {m q y : Nat} (hm : 1 ≤ m) : strOfNums (rowF (y * m) m (ovP rs cs pl m q)) = rowT rs cs pl m q y := by
  unfold rowT
  congr 1
  refine rowF_congr fun x hx => ?_
  have e1 : (y * m + x) / m = y := by rw [Nat.mul_comm, Nat.mul_add_div (by omega), Nat.div_eq_of_lt hx, Nat.add_zero]
  have e2 : (y * m + x) % m = x := by rw [Nat.mul_comm, Nat.mul_add_mod, Nat.mod_eq_of_lt hx]
  unfold ovP
  rw [e1, e2, Nat.zero_add]
set_option maxRecDepth 100000 in
theorem join_any (A : Option Addr) (n c m : Nat) (rs : List ByteArray) (w : World) (h : Rd w 1 A n c (txs rs)) (hg : Grid rs n m) :
    Calls Tryd.prog 70 #[.slice A n c, .string ⟨#[]⟩] w fun e w' => e = .returned (.string (joinB rs)) ∧ Below w.heap.size w w' := by
  have hl := h.tlen
  have hbn := hg.bn
  have hbm := hg.bm
  obtain ⟨b, o, hA, hlt, hc⟩ := h.at0 (by rw [txs_len]; omega)
  subst hA
  subst hl
  have hp : rs.length * m ≤ 6 * 6 := Nat.mul_le_mul hbn.2 hbm.2
  exact Any.strings_Join Tryd.lays156 extraJ b o c rs ⟨#[]⟩ w (fun j x hx => by rw [hc j (by rw [txs_len]; exact (List.getElem?_eq_some_iff.1 hx).1), txs_get, hx]; rfl) hlt (by omega) h.cap (by
    show (Go.Lib.join (rs.map (·.data.toList)) []).length ≤ _
    rw [join_flat, flat_len m _ (rows_len hg), List.length_map]
    omega)
theorem bitU (S p : Nat) : (S.testBit p = true ↔ ((S : Int) / 2 ^ p) % 2 = 1) := by
  rw [Nat.testBit_eq_decide_div_mod_eq, decide_eq_true_eq]
  have : ((S : Int) / 2 ^ p) % 2 = ((S / 2 ^ p % 2 : Nat) : Int) := by simp
  rw [this]
  omega
theorem has_bitU (x k : Nat) (hx : x < 4611686018427387904) : (bits .and .u64 ((x : Int) / 2 ^ k) 1 == 1) = x.testBit k := by
  have e : (x : Int) / 2 ^ k = ((x / 2 ^ k : Nat) : Int) := by rw [Int.natCast_ediv, Int.natCast_pow]; rfl
  have hl : x / 2 ^ k ≤ x := Nat.div_le_self _ _
  rw [Nat.testBit_eq_decide_div_mod_eq, e]
  have h1 := andU (x / 2 ^ k) 1 (by omega) (by omega)
  have h2 : bits .and .u64 ((x / 2 ^ k : Nat) : Int) 1 = ((x / 2 ^ k &&& 1 : Nat) : Int) := h1
  rw [h2, Nat.and_one_is_mod]
  by_cases h : x / 2 ^ k % 2 = 1
  · rw [h]; simp
  · have h0 : x / 2 ^ k % 2 = 0 := by omega
    rw [h0]; simp
theorem slice_mid (g N c P m : Nat) (W : World) (h : P + m ≤ N) (hc : N ≤ c) (hm : 1 ≤ m) : (Instr.slice 29 (.slice (some ⟨g, 0, none⟩) N c) (some (.int .i64 (P : Int))) (some (.int .i64 ((P : Int) + (m : Int)))) none).run Tryd.prog W = .ok (.slice (some ⟨g, P, none⟩) m (c - P)) W := by
  have h0 : (0 : Int) ≤ (P : Int) := by omega
  have h1 : (P : Int) ≤ (P : Int) + (m : Int) := by omega
  have h2 : (P : Int) + (m : Int) ≤ (c : Int) := by omega
  have h3 : (0 : Int) ≤ (P : Int) + (m : Int) := by omega
  have e : ((P : Int) + (m : Int)).toNat = P + m := by omega
  have h4 : ¬ c = P := by omega
  go_simp
set_option maxRecDepth 100000 in
set_option maxHeartbeats 4000000 in
theorem implPlan_any (A B C : Option Addr) (n c p d q f : Nat) (rs : List ByteArray) (cs : List CutV) (pl : List Int) (w : World) (hA : Rd w 1 A n c (txs rs)) (hB : Rd w 4 B p d (qd cs)) (hC : Rd w 1 C q f (ints pl)) (hs : ∀ s ∈ rs, s.size ≤ 9223372036854775807) :
    Calls Tryd.prog 41 #[.slice A n c, .slice B p d, .slice C q f] w (StrPost w (pnZ rs cs pl).1 (pnZ rs cs pl).2) := by
  have HCO := Lib.hid (soundCode_any A B C n c p d q f rs cs pl w hA hB hC hs)
  rcases Decidable.em (¬ goodC rs cs pl = 0) with h0 | h0
  · rw [pnZ_n h0]
    simp only
    generalize goodC rs cs pl = k at *
    have hd : (k != 0) = true := by simp; omega
    clear hA hB hC
    go_enter Tryd.func41, Tryd.ntmps41
    go_wp2_with fail
    refine (HCO.out).mono ?_
    rintro e w1 ⟨rfl, hb1⟩
    go_wp2_with fail
    go_ret2
    exact strPost_nil hb1
  have h0 : goodC rs cs pl = 0 := Decidable.not_not.mp h0
  obtain ⟨i0, hi, hz0, hz1, hz2⟩ := info_parts info_str
  have hp := planC_ok (goodC_ok h0)
  have hla := hA.tlen
  have hlb := hB.qlen
  have hlc := hC.ilen
  have hqp : q = p := by have := hp.len; omega
  subst hqp
  have hq4 : q ≤ 4 := by have := hp.cuts.len; omega
  have hg := hp.hide.grid hla
  obtain ⟨m, hm⟩ : ∃ m, colN rs = m := ⟨_, rfl⟩
  rw [pnZ_0 h0, hla, hm, hlc]
  rw [hm] at hg
  rw [h0] at HCO
  simp only
  have hso := fun k x y hx hy => soK h0 hla hm (k := k) (x := x) (y := y) hx hy
  have hft := fun k (hk : k < q) ho => fitT h0 hla hm (k := k) (by rw [hlc]; exact hk) ho
  have hfo := fun k x3 W (hb : Below w.heap.size w W) (hF : fK pl k < n * m) (h1 : wdK cs k ≤ 6) (h2 : htK cs k ≤ 6) => fieldsOf_any A n c m (fK pl k) (wdK cs k) (htK cs k) (qlK cs k) x3 rs W (hA.below hb) hg hF h1 h2
  have hfk : ∀ k, fitB rs n m (htK cs k) (wdK cs k) (qlK cs k) (fK pl k) = fitK rs n m cs pl k := fun k => rfl
  have hn6 := hg.bn
  have hm6 := hg.bm
  have hN36 := prod36 hn6.2 hm6.2
  have a1 := hA.cap
  have a2 := hA.max
  have a3 := hB.cap
  have a4 := hB.max
  have a5 := hC.cap
  have a6 := hC.max
  have HFO := Lib.hid hfo
  have HFT := Lib.hid hft
  have HFK := Lib.hid hfk
  have HSO := Lib.hid hso
  have HB := Lib.hid hB
  have HC := Lib.hid hC
  have HRT := Lib.hid (fun k => rowT_size rs cs pl m q k)
  have HSN := Lib.hid (fun k => plT_snoc rs cs pl m q k)
  have HSZ := Lib.hid (fun W (hb : Below w.heap.size w W) => sizeOf_any A n c m rs W (hA.below hb) hg)
  have HJ := Lib.hid (fun W (hb : Below w.heap.size w W) => join_any A n c m rs W (hA.below hb) hg)
  have HJC := Lib.hid (fun p (hp : p < n * m) => joinB_chr hg hp)
  have HJS := Lib.hid (joinB_size hg)
  have HROW := Lib.hid (fun y => ovP_row (rs := rs) (cs := cs) (pl := pl) (m := m) (q := q) (y := y) hm6.1)
  clear h0 hp hlb hlc hla hg hm hso hft hfo hfk hA hB hC hs
  go_enter Tryd.func41, Tryd.ntmps41
  go_wp2_with fail
  refine (HCO.out).mono ?_
  rintro e w1 ⟨rfl, hb1⟩
  go_wp2_with fail
  refine (HSZ.out _ hb1).mono ?_
  rintro e w2 ⟨rfl, hb2⟩
  have hb3 := hb1.trans (hb2.mono hb1.size)
  clear hb1 hb2
  go_wp2_with fail
  refine (HJ.out _ hb3).mono ?_
  rintro e w3 ⟨rfl, hb4⟩
  have hb5 := hb3.trans (hb4.mono hb3.size)
  have hs3 := hb5.size
  have HB5 := Lib.hid hb5
  have hcv := Lib.run_convert_string_bytes (P := Tryd.prog) w3 9 29 5 (joinB rs) (u := .string) Tryd.underlying9 Tryd.underlying29 Tryd.underlying5
  have hbw := Joins.below_bytesWorld w3.heap.size w3 5 (joinB rs) (Nat.le_refl _)
  have hH := HoldsF.bytes w3 5 (joinB rs)
  rw [HJS.out] at hH hcv
  have hgs : w3.heap.size < (Lib.bytesWorld w3 5 (joinB rs)).heap.size := by rw [Lib.bytesWorld_size]; omega
  have hc1 := grownCap_ge w3 (n * m) 0 5
  have hc2 := grownCap_le_maxLen w3 (n * m) 0 5 (by unfold maxLen; omega)
  unfold maxLen at hc2
  have HHF : Hid (HoldsF (Lib.bytesWorld w3 5 (joinB rs)) w3.heap.size (n * m) (ovP rs cs pl m 0)) := Lib.hid (hH.congr fun j hj => HJC.out j hj)
  generalize Lib.bytesWorld w3 5 (joinB rs) = W1 at *
  generalize grownCap w3 (n * m) 0 5 = c1 at *
  have HBL := Lib.hid hbw
  obtain ⟨N, hN⟩ : ∃ N, n * m = N := ⟨_, rfl⟩
  have HN := Lib.hid hN
  rw [hN] at hcv HHF hc1 hN36 HFO
  clear hbw hH hb3 hb4 hb5 hN HJ HJC HJS HSZ
  go_wp2
  go_loopw [36] (fun vi wr => ∃ i : Nat, i ≤ q ∧ vi = .int .i64 i ∧ Hid (HoldsF wr w3.heap.size N (ovP rs cs pl m i)) ∧ w3.heap.size < wr.heap.size ∧ Hid (Below w3.heap.size w3 wr)) (fun vi _ => q - (intOf vi).toNat)
  case atStart => exact ⟨0, Nat.zero_le _, rfl, HHF, hgs, HBL⟩
  case round =>
    clear HHF HBL hgs hcv
    obtain ⟨i, hiq, rfl, HHF, hgs, HBL⟩ := hrel
    obtain ⟨w4, rfl⟩ : ∃ w', w' = wr := ⟨_, rfl⟩
    have hs4 := HBL.out.size
    have HBB := Lib.hid (HB5.out.trans (HBL.out.mono hs3))
    by_cases hil : i < q
    · have hi0 : (0 : Int) ≤ (i : Int) := by omega
      have hi1 : (i : Int) < (q : Int) := by omega
      obtain ⟨b2, o2, x, hBe, _, hx, x0, x1, x2, x3⟩ := (HB.out.below HBB.out).cut hil
      obtain ⟨b3, o3, v, hCe, _, hv, y0⟩ := (HC.out.below HBB.out).int hil
      have hso := HSO.out i x v hx hv
      rw [hso.at_.wd] at x0
      rw [hso.at_.ht] at x1
      rw [hso.at_.ql] at x2
      have hof := hso.at_.off
      have hon := hso.at_.on
      have hfw := hso.hw
      have hbw := hso.at_.bw
      have hbh := hso.at_.bh
      obtain ⟨xw, xh, xq, xo⟩ := x
      simp only at x3
      have hov1 := fun hh => fun p => ovP_off (rs := rs) (cs := cs) (pl := pl) (m := m) (k := i) hh p
      have hov2 := fun p hi => ovP_unset (rs := rs) (cs := cs) (pl := pl) (m := m) (k := i) (p := p) hi
      have hov3 := fun ho hf p hi => ovP_set (rs := rs) (cs := cs) (pl := pl) (m := m) (k := i) (p := p) ho hm6.1 hf hi
      subst hBe
      subst hCe
      clear hso hx hv
      cases ho : onK pl i with
      | false =>
        have hv0 := hof ho
        have hd : decide (v < 0) = true := by simpa using hv0
        have HN2 := Lib.hid (HHF.out.congr (G := ovP rs cs pl m (i + 1)) (fun j _ => (hov1 ho j).symm))
        clear hof hon hov1 hov2 hov3 hfw HHF
        go_wp2
        go_roundw
        case rel => exact ⟨i + 1, by omega, by go_num, HN2, hgs, HBL⟩
        case measure => simp [intOf]; omega
      | true =>
        obtain ⟨hvF, hFl⟩ := hon ho
        rw [HN.out] at hFl
        rw [hvF] at y0
        have hFI : ¬ ((fK pl i : Nat) : Int) < 0 := by omega
        have HF1 := Lib.hid (HFO.out i xo w4 HBB.out hFl hbw.2 hbh.2)
        rw [HFK.out i, HFT.out i hil ho] at HF1
        have HOV3 := Lib.hid (hov3 ho (hfw ho))
        have HOV2 := Lib.hid hov2
        clear hof hon hov1 hov2 hov3 hfw ho
        go_wp2_with fail
        refine (HF1.out).mono ?_
        rintro e w5 ⟨S, rfl, hS, hbits, hb5⟩
        have HBT := Lib.hid (hbits rfl)
        have HHF5 : Hid (HoldsF w5 w3.heap.size N (fun p' => if p' < 0 then ovP rs cs pl m (i + 1) p' else ovP rs cs pl m i p')) := Lib.hid ((HHF.out.below hgs hb5).congr fun j _ => (if_neg (by omega)).symm)
        have hgs5 : w3.heap.size < w5.heap.size := Nat.lt_of_lt_of_le hgs hb5.size
        have HBL5 := Lib.hid (HBL.out.trans (hb5.mono hs4))
        clear hbits hb5 HHF
        go_wp2
        go_loopw [55] (fun vp wr => ∃ p : Nat, p ≤ N ∧ vp = .int .i64 p ∧ Hid (HoldsF wr w3.heap.size N (fun p' => if p' < p then ovP rs cs pl m (i + 1) p' else ovP rs cs pl m i p')) ∧ w3.heap.size < wr.heap.size ∧ Hid (Below w3.heap.size w3 wr)) (fun vp _ => N - (intOf vp).toNat)
        case atStart => exact ⟨0, Nat.zero_le _, rfl, HHF5, hgs5, HBL5⟩
        case round =>
          clear HHF5 hgs5 HBL5 hgs HBL HBB
          obtain ⟨p, hpN, rfl, HHF, hgs, HBL⟩ := hrel
          by_cases hpl : p < N
          · have hp0 : (0 : Int) ≤ (p : Int) := by omega
            have hp1 : (p : Int) < (N : Int) := by omega
            have hold := (HHF.out p hpl).1
            have hfr := (HHF.out p hpl).2
            have hbit := has_bitU S p (by omega)
            have hin := HBT.out p
            cases ht : S.testBit p with
            | true =>
              have hset := HOV3.out p (hin.1 ht)
              rw [ht] at hbit
              have HF4 := Lib.hid ((HHF.out.set hpl (48 + (i : Int))).congr (G := fun p' => if p' < p + 1 then ovP rs cs pl m (i + 1) p' else ovP rs cs pl m i p') (fun j _ => by
                by_cases e : j = p
                · subst e; rw [if_pos rfl, if_pos (by omega), hset]
                · rw [if_neg e]
                  by_cases hh : j < p
                  · rw [if_pos hh, if_pos (by omega)]
                  · rw [if_neg hh, if_neg (by omega)]))
              have HBL4 := Lib.hid (HBL.out.setCell (p := ⟨w3.heap.size, p, none⟩) (Nat.le_refl _) (.int .u8 (48 + (i : Int))))
              clear hin ht hset HHF HBL
              go_wp2
              go_roundw
              case rel => exact ⟨p + 1, by omega, by go_num, HF4, (by simpa using hgs), HBL4⟩
              case measure => simp [intOf]; omega
            | false =>
              have hset := HOV2.out p (fun hh => by rw [hin.2 hh] at ht; cases ht)
              rw [ht] at hbit
              have HF4 := Lib.hid (HHF.out.congr (G := fun p' => if p' < p + 1 then ovP rs cs pl m (i + 1) p' else ovP rs cs pl m i p') (fun j _ => by
                by_cases e : j = p
                · subst e; rw [if_neg (by omega), if_pos (by omega), hset]
                · by_cases hh : j < p
                  · rw [if_pos hh, if_pos (by omega)]
                  · rw [if_neg hh, if_neg (by omega)]))
              clear hin ht hset HHF hold hfr
              go_wp2
              go_roundw
              case rel => exact ⟨p + 1, by omega, by go_num, HF4, hgs, HBL⟩
              case measure => simp [intOf]; omega
          · have hpN2 : p = N := by omega
            have HN2 := Lib.hid (HHF.out.congr (G := ovP rs cs pl m (i + 1)) (fun j hj => if_pos (by omega)))
            subst hpN2
            clear HHF
            go_wp2
            go_roundw
            case rel => exact ⟨i + 1, by omega, by go_num, HN2, hgs, HBL⟩
            case measure => simp [intOf]; omega
    · have hiq2 : i = q := by omega
      subst hiq2
      have ha : Below w4.heap.size w4 (w4.alloc (.cells #[] 9)) := (Below.refl _ _).alloc (Nat.le_refl _) _
      have HO2 := Lib.hid (show (w4.alloc (.cells #[] 9)).ownsRow w4.heap.size 9 1 (.slice (some ⟨w4.heap.size, 0, none⟩) 0 0) 0 (txs (plT rs cs pl 0 m i)) from World.ownsRow_made w4 #[] 0 (Nat.le_refl _) (by unfold maxLen; omega) rfl)
      have HB2 := Lib.hid ha
      clear ha
      go_wp2
      go_loopw [17, 18] (fun vo va wr => ∃ (y go co P : Nat), y ≤ n ∧ P = y * m ∧ va = .int .i64 P ∧ vo = .slice (some ⟨go, 0, none⟩) y co ∧ Hid (wr.ownsRow w4.heap.size 9 1 (.slice (some ⟨go, 0, none⟩) y co) y (txs (plT rs cs pl y m i))) ∧ Hid (Below w4.heap.size w4 wr)) (fun _ va _ => N - (intOf va).toNat)
      case atStart => exact ⟨0, _, _, 0, Nat.zero_le _, by omega, rfl, rfl, HO2, HB2⟩
      case round =>
        clear HO2 HB2
        obtain ⟨y, go, co, P, hy, hP, rfl, rfl, HO, HBW⟩ := hrel
        have hgb := (own_block HO.out go rfl)
        have hcap := (Rd.of_own HO.out).cap
        have hmax := (Rd.of_own HO.out).max
        have hs := HBW.out.size
        by_cases hlt : y < n
        · have hPm : P + m ≤ N := by
            have h := Nat.mul_le_mul_right m (show y + 1 ≤ n by omega)
            rw [Nat.succ_mul, HN.out] at h
            omega
          have hPN : (P : Int) < (N : Int) := by omega
          have HHW := HHF.out.below hgs HBW.out
          have hcv2 := run_convert_bytes_arg (P := Tryd.prog) wr 29 5 Tryd.underlying29 Tryd.underlying5 w3.heap.size P m (c1 - P) (rowF P m (ovP rs cs pl m i)) (rowF_len _ _ _) (HHW.conv hPm) 9 Tryd.underlying9
          have hsl := slice_mid w3.heap.size N c1 P m wr hPm hc1 hm6.1
          have hrow := HROW.out y
          rw [← hP] at hrow
          rw [hrow] at hcv2
          have hnx : txs (plT rs cs pl y m i) ++ [.string (rowT rs cs pl m i y)] = txs (plT rs cs pl (y + 1) m i) := by rw [HSN.out y, txs_append]; rfl
          have HNX := Lib.hid hnx
          have hrs := HRT.out y
          have HP := Lib.hid hP
          generalize rowT rs cs pl m i y = r2 at *
          clear HHW hrow hnx hP
          go_wp2_with (at_builtin; refine wpList_append_own_at _ rfl (.tmp 80) (.tmp 88) 22 rfl w4.heap.size 9 i0 (.string ByteArray.empty) 1 16 Tryd.underlying22 hi hz0 hz1 hz2 rfl (by decide) (Value.slice (some ⟨go, 0, none⟩) y co) _ _ rfl (HO.out.alloc _) ⟨_, 0, none⟩ 1 1 [.string r2] rfl rfl (cell_one_new _ _ _) (by intro u hu; simp at hu; subst hu; rfl) (by unfold maxLen; omega) (by omega) (by simp; omega) ?_; intro v' wa hown' hga hdel hblk; clear hdel)
          have hal : Below wr.heap.size wr (wr.alloc (.cells #[.string r2] 9)) := (Below.refl _ _).alloc (Nat.le_refl _) _
          obtain ⟨g3, d3, hv, hg3, _⟩ := own_form hown' (by omega)
          have b3 : Below w4.heap.size w4 wa := (HBW.out.trans (hal.mono (by omega))).grown hga (by simp; omega) (fun j hj => by simp [Value.ownBlock] at hj; omega)
          rw [HNX.out] at hown'
          subst hv
          have HO4 := Lib.hid hown'
          have HB4 := Lib.hid b3
          clear hown' hga hal b3 hblk
          go_wp2
          go_roundw
          case rel => exact ⟨y + 1, g3, d3, P + m, by omega, by rw [Nat.succ_mul]; have := HP.out; omega, by go_num, rfl, HO4, HB4⟩
          case measure => simp [intOf]; omega
        · have hyn : n = y := by omega
          subst hyn
          rw [HN.out] at hP
          subst hP
          go_wp2
          go_ret2
          exact ⟨_, _, _, rfl, own_base HO.out (by omega), HB5.out.trans ((HBL.out.trans (HBW.out.mono (by omega))).mono hs3)⟩

set_option maxRecDepth 100000 in
set_option maxHeartbeats 8000000 in
theorem law_PlanLines (A : Option Addr) (n c : Nat) (rs : List ByteArray) (B : Option Addr) (p d : Nat) (cs : List CutV) (C : Option Addr) (q f : Nat) (pl : List Int) (w : World) (hA : Rd w 1 A n c (txs rs)) (hsA : ∀ s ∈ rs, s.size ≤ 9223372036854775807) (hB : Rd w 4 B p d (qd cs)) (hC : Rd w 1 C q f (ints pl)) :
    Calls Tryd.prog 9 #[.slice A n c, .slice B p d, .slice C q f] w fun e w' => e = .returned (.bool true) ∧ Below w.heap.size w w' := by
  have eA1 := hA.cap
  have eA2 := hA.max
  have lA := hA.tlen
  have eB1 := hB.cap
  have eB2 := hB.max
  have lB := hB.qlen
  have eC1 := hC.cap
  have eC2 := hC.max
  have lC := hC.ilen
  have hsp := fun A n c B p d C q f W h1 h2 h3 => specPlan_any A B C n c p d q f rs cs pl W h1 h2 h3 hsA
  have him := fun A n c B p d C q f W h1 h2 h3 => implPlan_any A B C n c p d q f rs cs pl W h1 h2 h3 hsA
  have hlen := pnZ_len rs cs pl
  generalize (pnZ rs cs pl).1 = R at *
  generalize (pnZ rs cs pl).2 = z at *
  have HA := Lib.hid hA
  have HSA := Lib.hid hsA
  have HB := Lib.hid hB
  have HC := Lib.hid hC
  have HSP := Lib.hid hsp
  have HIM := Lib.hid him
  clear hA hsA hB hC hsp him lA lB lC
  by_cases gC : (1048576 : Int) < (q : Int)
  · go_enter Tryd.func9, Tryd.ntmps9
    go_wp2
    go_ret
    exact ⟨rfl, Below.refl _ _⟩
  have hszB := fun L W h0 h1 => szCutS_any B p d L W (by omega) h0 h1
  have HZB := Lib.hid hszB
  clear hszB
  have b0 : Below w.heap.size w w := Below.refl _ _
  have s0 := b0.size
  obtain ⟨w0, hw0⟩ : ∃ w0, w0 = w := ⟨_, rfl⟩
  go_enter Tryd.func9, Tryd.ntmps9
  go_wp2_with fail
  refine (szStringS_any A n c rs _ _ HA.out HSA.out (by omega) (by omega)).mono ?_
  rintro e wz ⟨⟨q0, rfl, hq0⟩, rfl⟩
  rcases hq0 with rfl | ⟨hq00, hq01, hnA, hszA⟩
  · go_wp2
    go_ret
    exact ⟨rfl, Below.refl _ _⟩
  have hqn0 : ¬ q0 < 0 := by omega
  have HWA := Lib.hid hszA
  clear hszA
  by_cases hq1 : q0 < (p : Int)
  · go_wp2_with fail
    refine (HZB.out _ _ (by omega) (by omega)).mono ?_
    rw [if_pos hq1]
    rintro e wz ⟨rfl, rfl⟩
    go_wp2
    go_ret
    exact ⟨rfl, Below.refl _ _⟩
  go_wp2_with fail
  refine (HZB.out _ _ (by omega) (by omega)).mono ?_
  rw [if_neg (show ¬ q0 < (p : Int) by omega)]
  rintro e wz ⟨rfl, rfl⟩
  have hqn1 : ¬ q0 - p < 0 := by omega
  go_wp2_with fail
  refine (toStringS_any A n c rs _ (HA.out.below b0) (by omega)).mono ?_
  rintro e w1 ⟨gt0, rfl, ho, hb1⟩
  have b1 : Below w.heap.size w w1 := b0.trans (hb1.mono b0.size)
  have s1 := hb1.size
  have Ot01 := Lib.hid (OwnIn.new ho)
  clear hb1 ho
  go_wp2_with fail
  refine (toCutS_any B p d cs _ (HB.out.below b1) (by omega)).mono ?_
  rintro e w2 ⟨gt1, rfl, ho, hb2⟩
  have b2 : Below w.heap.size w w2 := b1.trans (hb2.mono b1.size)
  have s2 := hb2.size
  have Ot02 := Lib.hid (Ot01.out.below hb2)
  have Ot12 := Lib.hid (OwnIn.new ho)
  clear hb2 Ot01 ho
  go_wp2_with fail
  refine (toInt64S_any C q f pl _ (HC.out.below b2) (by omega)).mono ?_
  rintro e w3 ⟨gt2, rfl, ho, hb3⟩
  have b3 : Below w.heap.size w w3 := b2.trans (hb3.mono b2.size)
  have s3 := hb3.size
  have Ot03 := Lib.hid (Ot02.out.below hb3)
  have Ot13 := Lib.hid (Ot12.out.below hb3)
  have Ot23 := Lib.hid (OwnIn.new ho)
  clear hb3 Ot02 Ot12 ho
  go_wp2_with fail
  refine (HSP.out _ _ _ _ _ _ _ _ _ _ Ot03.out.rd Ot13.out.rd Ot23.out.rd).mono ?_
  rintro e w4 ⟨Aw, nw, cw, rfl, ho, hb4⟩
  have b4 : Below w.heap.size w w4 := b3.trans (hb4.mono b3.size)
  have s4 := hb4.size
  have Ot04 := Lib.hid (Ot03.out.below hb4)
  have Ot14 := Lib.hid (Ot13.out.below hb4)
  have Ot24 := Lib.hid (Ot23.out.below hb4)
  have Ow4 := Lib.hid (OwnIn.new ho)
  clear hb4 Ot03 Ot13 Ot23 ho
  go_wp2_with fail
  refine (toStringS_any A n c rs _ (HA.out.below b4) (by omega)).mono ?_
  rintro e w5 ⟨gx0, rfl, ho, hb5⟩
  have b5 : Below w.heap.size w w5 := b4.trans (hb5.mono b4.size)
  have s5 := hb5.size
  have Ot05 := Lib.hid (Ot04.out.below hb5)
  have Ot15 := Lib.hid (Ot14.out.below hb5)
  have Ot25 := Lib.hid (Ot24.out.below hb5)
  have Ow5 := Lib.hid (Ow4.out.below hb5)
  have Ox05 := Lib.hid (OwnIn.new ho)
  clear hb5 Ot04 Ot14 Ot24 Ow4 ho
  go_wp2_with fail
  refine (toCutS_any B p d cs _ (HB.out.below b5) (by omega)).mono ?_
  rintro e w6 ⟨gx1, rfl, ho, hb6⟩
  have b6 : Below w.heap.size w w6 := b5.trans (hb6.mono b5.size)
  have s6 := hb6.size
  have Ot06 := Lib.hid (Ot05.out.below hb6)
  have Ot16 := Lib.hid (Ot15.out.below hb6)
  have Ot26 := Lib.hid (Ot25.out.below hb6)
  have Ow6 := Lib.hid (Ow5.out.below hb6)
  have Ox06 := Lib.hid (Ox05.out.below hb6)
  have Ox16 := Lib.hid (OwnIn.new ho)
  clear hb6 Ot05 Ot15 Ot25 Ow5 Ox05 ho
  go_wp2_with fail
  refine (toInt64S_any C q f pl _ (HC.out.below b6) (by omega)).mono ?_
  rintro e w7 ⟨gx2, rfl, ho, hb7⟩
  have b7 : Below w.heap.size w w7 := b6.trans (hb7.mono b6.size)
  have s7 := hb7.size
  have Ot07 := Lib.hid (Ot06.out.below hb7)
  have Ot17 := Lib.hid (Ot16.out.below hb7)
  have Ot27 := Lib.hid (Ot26.out.below hb7)
  have Ow7 := Lib.hid (Ow6.out.below hb7)
  have Ox07 := Lib.hid (Ox06.out.below hb7)
  have Ox17 := Lib.hid (Ox16.out.below hb7)
  have Ox27 := Lib.hid (OwnIn.new ho)
  clear hb7 Ot06 Ot16 Ot26 Ow6 Ox06 Ox16 ho
  go_wp2_with fail
  refine (HIM.out _ _ _ _ _ _ _ _ _ _ Ox07.out.rd Ox17.out.rd Ox27.out.rd).mono ?_
  rintro e w8 ⟨Ag, ng, cg, rfl, ho, hb8⟩
  have b8 : Below w.heap.size w w8 := b7.trans (hb8.mono b7.size)
  have s8 := hb8.size
  have Ot08 := Lib.hid (Ot07.out.below hb8)
  have Ot18 := Lib.hid (Ot17.out.below hb8)
  have Ot28 := Lib.hid (Ot27.out.below hb8)
  have Ow8 := Lib.hid (Ow7.out.below hb8)
  have Ox08 := Lib.hid (Ox07.out.below hb8)
  have Ox18 := Lib.hid (Ox17.out.below hb8)
  have Ox28 := Lib.hid (Ox27.out.below hb8)
  have Og8 := Lib.hid (OwnIn.new ho)
  clear hb8 Ot07 Ot17 Ot27 Ow7 Ox07 Ox17 Ox27 ho
  have lg := Og8.out.tlen
  go_wp2_with fail
  refine (eqStringS_any _ _ _ _ _ _ R _ Og8.out.rd Ow8.out.rd).mono ?_
  rintro e w9 ⟨rfl, hb9⟩
  have b9 : Below w.heap.size w w9 := b8.trans (hb9.mono b8.size)
  have s9 := hb9.size
  have Ot09 := Lib.hid (Ot08.out.below hb9)
  have Ot19 := Lib.hid (Ot18.out.below hb9)
  have Ot29 := Lib.hid (Ot28.out.below hb9)
  have Ow9 := Lib.hid (Ow8.out.below hb9)
  have Ox09 := Lib.hid (Ox08.out.below hb9)
  have Ox19 := Lib.hid (Ox18.out.below hb9)
  have Ox29 := Lib.hid (Ox28.out.below hb9)
  have Og9 := Lib.hid (Og8.out.below hb9)
  clear hb9 Ot08 Ot18 Ot28 Ow8 Ox08 Ox18 Ox28 Og8
  go_wp2_with fail
  refine (toStringS_any A n c rs _ (HA.out.below b9) (by omega)).mono ?_
  rintro e w10 ⟨gy0, rfl, ho, hb10⟩
  have b10 : Below w.heap.size w w10 := b9.trans (hb10.mono b9.size)
  have s10 := hb10.size
  have Ot010 := Lib.hid (Ot09.out.below hb10)
  have Ot110 := Lib.hid (Ot19.out.below hb10)
  have Ot210 := Lib.hid (Ot29.out.below hb10)
  have Ow10 := Lib.hid (Ow9.out.below hb10)
  have Ox010 := Lib.hid (Ox09.out.below hb10)
  have Ox110 := Lib.hid (Ox19.out.below hb10)
  have Ox210 := Lib.hid (Ox29.out.below hb10)
  have Og10 := Lib.hid (Og9.out.below hb10)
  have Oy010 := Lib.hid (OwnIn.new ho)
  clear hb10 Ot09 Ot19 Ot29 Ow9 Ox09 Ox19 Ox29 Og9 ho
  go_wp2_with fail
  refine (eqStringS_any _ _ _ _ _ _ rs _ Ox010.out.rd Oy010.out.rd).mono ?_
  rintro e w11 ⟨rfl, hb11⟩
  have b11 : Below w.heap.size w w11 := b10.trans (hb11.mono b10.size)
  have s11 := hb11.size
  have Ot011 := Lib.hid (Ot010.out.below hb11)
  have Ot111 := Lib.hid (Ot110.out.below hb11)
  have Ot211 := Lib.hid (Ot210.out.below hb11)
  have Ow11 := Lib.hid (Ow10.out.below hb11)
  have Ox011 := Lib.hid (Ox010.out.below hb11)
  have Ox111 := Lib.hid (Ox110.out.below hb11)
  have Ox211 := Lib.hid (Ox210.out.below hb11)
  have Og11 := Lib.hid (Og10.out.below hb11)
  have Oy011 := Lib.hid (Oy010.out.below hb11)
  clear hb11 Ot010 Ot110 Ot210 Ow10 Ox010 Ox110 Ox210 Og10 Oy010
  go_wp2_with fail
  refine (toCutS_any B p d cs _ (HB.out.below b11) (by omega)).mono ?_
  rintro e w12 ⟨gy1, rfl, ho, hb12⟩
  have b12 : Below w.heap.size w w12 := b11.trans (hb12.mono b11.size)
  have s12 := hb12.size
  have Ot012 := Lib.hid (Ot011.out.below hb12)
  have Ot112 := Lib.hid (Ot111.out.below hb12)
  have Ot212 := Lib.hid (Ot211.out.below hb12)
  have Ow12 := Lib.hid (Ow11.out.below hb12)
  have Ox012 := Lib.hid (Ox011.out.below hb12)
  have Ox112 := Lib.hid (Ox111.out.below hb12)
  have Ox212 := Lib.hid (Ox211.out.below hb12)
  have Og12 := Lib.hid (Og11.out.below hb12)
  have Oy012 := Lib.hid (Oy011.out.below hb12)
  have Oy112 := Lib.hid (OwnIn.new ho)
  clear hb12 Ot011 Ot111 Ot211 Ow11 Ox011 Ox111 Ox211 Og11 Oy011 ho
  go_wp2_with fail
  refine (eqCutS_any _ _ _ _ _ _ cs _ Ox112.out.rd Oy112.out.rd).mono ?_
  rintro e w13 ⟨rfl, hb13⟩
  have b13 : Below w.heap.size w w13 := b12.trans (hb13.mono b12.size)
  have s13 := hb13.size
  have Ot013 := Lib.hid (Ot012.out.below hb13)
  have Ot113 := Lib.hid (Ot112.out.below hb13)
  have Ot213 := Lib.hid (Ot212.out.below hb13)
  have Ow13 := Lib.hid (Ow12.out.below hb13)
  have Ox013 := Lib.hid (Ox012.out.below hb13)
  have Ox113 := Lib.hid (Ox112.out.below hb13)
  have Ox213 := Lib.hid (Ox212.out.below hb13)
  have Og13 := Lib.hid (Og12.out.below hb13)
  have Oy013 := Lib.hid (Oy012.out.below hb13)
  have Oy113 := Lib.hid (Oy112.out.below hb13)
  clear hb13 Ot012 Ot112 Ot212 Ow12 Ox012 Ox112 Ox212 Og12 Oy012 Oy112
  go_wp2_with fail
  refine (toInt64S_any C q f pl _ (HC.out.below b13) (by omega)).mono ?_
  rintro e w14 ⟨gy2, rfl, ho, hb14⟩
  have b14 : Below w.heap.size w w14 := b13.trans (hb14.mono b13.size)
  have s14 := hb14.size
  have Ot014 := Lib.hid (Ot013.out.below hb14)
  have Ot114 := Lib.hid (Ot113.out.below hb14)
  have Ot214 := Lib.hid (Ot213.out.below hb14)
  have Ow14 := Lib.hid (Ow13.out.below hb14)
  have Ox014 := Lib.hid (Ox013.out.below hb14)
  have Ox114 := Lib.hid (Ox113.out.below hb14)
  have Ox214 := Lib.hid (Ox213.out.below hb14)
  have Og14 := Lib.hid (Og13.out.below hb14)
  have Oy014 := Lib.hid (Oy013.out.below hb14)
  have Oy114 := Lib.hid (Oy113.out.below hb14)
  have Oy214 := Lib.hid (OwnIn.new ho)
  clear hb14 Ot013 Ot113 Ot213 Ow13 Ox013 Ox113 Ox213 Og13 Oy013 Oy113 ho
  go_wp2_with fail
  refine (eqInt64S_any _ _ _ pl _ _ _ pl _ Ox214.out.rd Oy214.out.rd).mono ?_
  rw [eqL_self]
  rintro e w15 ⟨rfl, hb15⟩
  have b15 : Below w.heap.size w w15 := b14.trans (hb15.mono b14.size)
  have s15 := hb15.size
  have Ot015 := Lib.hid (Ot014.out.below hb15)
  have Ot115 := Lib.hid (Ot114.out.below hb15)
  have Ot215 := Lib.hid (Ot214.out.below hb15)
  have Ow15 := Lib.hid (Ow14.out.below hb15)
  have Ox015 := Lib.hid (Ox014.out.below hb15)
  have Ox115 := Lib.hid (Ox114.out.below hb15)
  have Ox215 := Lib.hid (Ox214.out.below hb15)
  have Og15 := Lib.hid (Og14.out.below hb15)
  have Oy015 := Lib.hid (Oy014.out.below hb15)
  have Oy115 := Lib.hid (Oy114.out.below hb15)
  have Oy215 := Lib.hid (Oy214.out.below hb15)
  clear hb15 Ot014 Ot114 Ot214 Ow14 Ox014 Ox114 Ox214 Og14 Oy014 Oy114 Oy214
  go_wp2_with fail
  refine (markStringS_any _ _ _ _ rs 1 _ Ox015.out.own (by omega) (by omega)).mono ?_
  rintro e w16 ⟨rfl, ho, hg⟩
  have b16 : Below w.heap.size w w16 := Ox015.out.base b15 hg (by omega) (Nat.le_refl _)
  have s16 := hg.size
  have Ot016 := Lib.hid (Ot015.out.other Ox015.out hg (by omega))
  have Ot116 := Lib.hid (Ot115.out.other Ox015.out hg (by omega))
  have Ot216 := Lib.hid (Ot215.out.other Ox015.out hg (by omega))
  have Ow16 := Lib.hid (Ow15.out.other Ox015.out hg (by omega))
  have Ox016 := Lib.hid (Ox015.out.self ho hg)
  have Ox116 := Lib.hid (Ox115.out.other Ox015.out hg (by omega))
  have Ox216 := Lib.hid (Ox215.out.other Ox015.out hg (by omega))
  have Og16 := Lib.hid (Og15.out.other Ox015.out hg (by omega))
  have Oy016 := Lib.hid (Oy015.out.other Ox015.out hg (by omega))
  have Oy116 := Lib.hid (Oy115.out.other Ox015.out hg (by omega))
  have Oy216 := Lib.hid (Oy215.out.other Ox015.out hg (by omega))
  clear ho hg Ot015 Ot115 Ot215 Ow15 Ox015 Ox115 Ox215 Og15 Oy015 Oy115 Oy215
  go_wp2_with fail
  refine (markCutS_any _ _ _ _ cs _ _ Ox116.out.own (by omega) (by omega)).mono ?_
  rintro e w17 ⟨rfl, ho, hg⟩
  have b17 : Below w.heap.size w w17 := Ox116.out.base b16 hg (by omega) (Nat.le_refl _)
  have s17 := hg.size
  have Ot017 := Lib.hid (Ot016.out.other Ox116.out hg (by omega))
  have Ot117 := Lib.hid (Ot116.out.other Ox116.out hg (by omega))
  have Ot217 := Lib.hid (Ot216.out.other Ox116.out hg (by omega))
  have Ow17 := Lib.hid (Ow16.out.other Ox116.out hg (by omega))
  have Ox017 := Lib.hid (Ox016.out.other Ox116.out hg (by omega))
  have Ox117 := Lib.hid (Ox116.out.self ho hg)
  have Ox217 := Lib.hid (Ox216.out.other Ox116.out hg (by omega))
  have Og17 := Lib.hid (Og16.out.other Ox116.out hg (by omega))
  have Oy017 := Lib.hid (Oy016.out.other Ox116.out hg (by omega))
  have Oy117 := Lib.hid (Oy116.out.other Ox116.out hg (by omega))
  have Oy217 := Lib.hid (Oy216.out.other Ox116.out hg (by omega))
  clear ho hg Ot016 Ot116 Ot216 Ow16 Ox016 Ox116 Ox216 Og16 Oy016 Oy116 Oy216
  go_wp2_with fail
  refine (markInt64S_any _ _ _ _ pl _ _ Ox217.out.own (by omega) (by omega)).mono ?_
  rintro e w18 ⟨rfl, ho, hg⟩
  have b18 : Below w.heap.size w w18 := Ox217.out.base b17 hg (by omega) (Nat.le_refl _)
  have s18 := hg.size
  have Ot018 := Lib.hid (Ot017.out.other Ox217.out hg (by omega))
  have Ot118 := Lib.hid (Ot117.out.other Ox217.out hg (by omega))
  have Ot218 := Lib.hid (Ot217.out.other Ox217.out hg (by omega))
  have Ow18 := Lib.hid (Ow17.out.other Ox217.out hg (by omega))
  have Ox018 := Lib.hid (Ox017.out.other Ox217.out hg (by omega))
  have Ox118 := Lib.hid (Ox117.out.other Ox217.out hg (by omega))
  have Ox218 := Lib.hid (Ox217.out.self ho hg)
  have Og18 := Lib.hid (Og17.out.other Ox217.out hg (by omega))
  have Oy018 := Lib.hid (Oy017.out.other Ox217.out hg (by omega))
  have Oy118 := Lib.hid (Oy117.out.other Ox217.out hg (by omega))
  have Oy218 := Lib.hid (Oy217.out.other Ox217.out hg (by omega))
  clear ho hg Ot017 Ot117 Ot217 Ow17 Ox017 Ox117 Ox217 Og17 Oy017 Oy117 Oy217
  go_wp2_with fail
  refine (eqStringS_any _ _ _ _ _ _ R _ Og18.out.rd Ow18.out.rd).mono ?_
  rintro e w19 ⟨rfl, hb19⟩
  have b19 : Below w.heap.size w w19 := b18.trans (hb19.mono b18.size)
  have s19 := hb19.size
  have Ot019 := Lib.hid (Ot018.out.below hb19)
  have Ot119 := Lib.hid (Ot118.out.below hb19)
  have Ot219 := Lib.hid (Ot218.out.below hb19)
  have Ow19 := Lib.hid (Ow18.out.below hb19)
  have Ox019 := Lib.hid (Ox018.out.below hb19)
  have Ox119 := Lib.hid (Ox118.out.below hb19)
  have Ox219 := Lib.hid (Ox218.out.below hb19)
  have Og19 := Lib.hid (Og18.out.below hb19)
  have Oy019 := Lib.hid (Oy018.out.below hb19)
  have Oy119 := Lib.hid (Oy118.out.below hb19)
  have Oy219 := Lib.hid (Oy218.out.below hb19)
  clear hb19 Ot018 Ot118 Ot218 Ow18 Ox018 Ox118 Ox218 Og18 Oy018 Oy118 Oy218
  go_wp2_with fail
  refine (markStringS_any _ _ _ _ R 1 _ Og19.out.own (by omega) (by omega)).mono ?_
  rintro e w20 ⟨rfl, ho, hg⟩
  have b20 : Below w.heap.size w w20 := Og19.out.base b19 hg (by omega) (Nat.le_refl _)
  have s20 := hg.size
  have Ot020 := Lib.hid (Ot019.out.other Og19.out hg (by omega))
  have Ot120 := Lib.hid (Ot119.out.other Og19.out hg (by omega))
  have Ot220 := Lib.hid (Ot219.out.other Og19.out hg (by omega))
  have Ow20 := Lib.hid (Ow19.out.other Og19.out hg (by omega))
  have Ox020 := Lib.hid (Ox019.out.other Og19.out hg (by omega))
  have Ox120 := Lib.hid (Ox119.out.other Og19.out hg (by omega))
  have Ox220 := Lib.hid (Ox219.out.other Og19.out hg (by omega))
  have Og20 := Lib.hid (Og19.out.self ho hg)
  have Oy020 := Lib.hid (Oy019.out.other Og19.out hg (by omega))
  have Oy120 := Lib.hid (Oy119.out.other Og19.out hg (by omega))
  have Oy220 := Lib.hid (Oy219.out.other Og19.out hg (by omega))
  clear ho hg Ot019 Ot119 Ot219 Ow19 Ox019 Ox119 Ox219 Og19 Oy019 Oy119 Oy219
  go_wp2_with fail
  refine (heldStringS_any _ _ _ 1 _ Og20.out.rd (by omega) (by omega)).mono ?_
  rintro e w21 ⟨rfl, hb21⟩
  have b21 : Below w.heap.size w w21 := b20.trans (hb21.mono b20.size)
  have s21 := hb21.size
  have Ot021 := Lib.hid (Ot020.out.below hb21)
  have Ot121 := Lib.hid (Ot120.out.below hb21)
  have Ot221 := Lib.hid (Ot220.out.below hb21)
  have Ow21 := Lib.hid (Ow20.out.below hb21)
  have Ox021 := Lib.hid (Ox020.out.below hb21)
  have Ox121 := Lib.hid (Ox120.out.below hb21)
  have Ox221 := Lib.hid (Ox220.out.below hb21)
  have Og21 := Lib.hid (Og20.out.below hb21)
  have Oy021 := Lib.hid (Oy020.out.below hb21)
  have Oy121 := Lib.hid (Oy120.out.below hb21)
  have Oy221 := Lib.hid (Oy220.out.below hb21)
  clear hb21 Ot020 Ot120 Ot220 Ow20 Ox020 Ox120 Ox220 Og20 Oy020 Oy120 Oy220
  go_wp2_with fail
  refine (toStringS_any A n c rs _ (HA.out.below b21) (by omega)).mono ?_
  rintro e w22 ⟨gz0, rfl, ho, hb22⟩
  have b22 : Below w.heap.size w w22 := b21.trans (hb22.mono b21.size)
  have s22 := hb22.size
  have Ot022 := Lib.hid (Ot021.out.below hb22)
  have Ot122 := Lib.hid (Ot121.out.below hb22)
  have Ot222 := Lib.hid (Ot221.out.below hb22)
  have Ow22 := Lib.hid (Ow21.out.below hb22)
  have Ox022 := Lib.hid (Ox021.out.below hb22)
  have Ox122 := Lib.hid (Ox121.out.below hb22)
  have Ox222 := Lib.hid (Ox221.out.below hb22)
  have Og22 := Lib.hid (Og21.out.below hb22)
  have Oy022 := Lib.hid (Oy021.out.below hb22)
  have Oy122 := Lib.hid (Oy121.out.below hb22)
  have Oy222 := Lib.hid (Oy221.out.below hb22)
  have Oz022 := Lib.hid (OwnIn.new ho)
  clear hb22 Ot021 Ot121 Ot221 Ow21 Ox021 Ox121 Ox221 Og21 Oy021 Oy121 Oy221 ho
  go_wp2_with fail
  refine (toCutS_any B p d cs _ (HB.out.below b22) (by omega)).mono ?_
  rintro e w23 ⟨gz1, rfl, ho, hb23⟩
  have b23 : Below w.heap.size w w23 := b22.trans (hb23.mono b22.size)
  have s23 := hb23.size
  have Ot023 := Lib.hid (Ot022.out.below hb23)
  have Ot123 := Lib.hid (Ot122.out.below hb23)
  have Ot223 := Lib.hid (Ot222.out.below hb23)
  have Ow23 := Lib.hid (Ow22.out.below hb23)
  have Ox023 := Lib.hid (Ox022.out.below hb23)
  have Ox123 := Lib.hid (Ox122.out.below hb23)
  have Ox223 := Lib.hid (Ox222.out.below hb23)
  have Og23 := Lib.hid (Og22.out.below hb23)
  have Oy023 := Lib.hid (Oy022.out.below hb23)
  have Oy123 := Lib.hid (Oy122.out.below hb23)
  have Oy223 := Lib.hid (Oy222.out.below hb23)
  have Oz023 := Lib.hid (Oz022.out.below hb23)
  have Oz123 := Lib.hid (OwnIn.new ho)
  clear hb23 Ot022 Ot122 Ot222 Ow22 Ox022 Ox122 Ox222 Og22 Oy022 Oy122 Oy222 Oz022 ho
  go_wp2_with fail
  refine (toInt64S_any C q f pl _ (HC.out.below b23) (by omega)).mono ?_
  rintro e w24 ⟨gz2, rfl, ho, hb24⟩
  have b24 : Below w.heap.size w w24 := b23.trans (hb24.mono b23.size)
  have s24 := hb24.size
  have Ot024 := Lib.hid (Ot023.out.below hb24)
  have Ot124 := Lib.hid (Ot123.out.below hb24)
  have Ot224 := Lib.hid (Ot223.out.below hb24)
  have Ow24 := Lib.hid (Ow23.out.below hb24)
  have Ox024 := Lib.hid (Ox023.out.below hb24)
  have Ox124 := Lib.hid (Ox123.out.below hb24)
  have Ox224 := Lib.hid (Ox223.out.below hb24)
  have Og24 := Lib.hid (Og23.out.below hb24)
  have Oy024 := Lib.hid (Oy023.out.below hb24)
  have Oy124 := Lib.hid (Oy123.out.below hb24)
  have Oy224 := Lib.hid (Oy223.out.below hb24)
  have Oz024 := Lib.hid (Oz023.out.below hb24)
  have Oz124 := Lib.hid (Oz123.out.below hb24)
  have Oz224 := Lib.hid (OwnIn.new ho)
  clear hb24 Ot023 Ot123 Ot223 Ow23 Ox023 Ox123 Ox223 Og23 Oy023 Oy123 Oy223 Oz023 Oz123 ho
  go_wp2_with fail
  refine (HIM.out _ _ _ _ _ _ _ _ _ _ Oz024.out.rd Oz124.out.rd Oz224.out.rd).mono ?_
  rintro e w25 ⟨Ah, nh, ch, rfl, ho, hb25⟩
  have b25 : Below w.heap.size w w25 := b24.trans (hb25.mono b24.size)
  have s25 := hb25.size
  have Ot025 := Lib.hid (Ot024.out.below hb25)
  have Ot125 := Lib.hid (Ot124.out.below hb25)
  have Ot225 := Lib.hid (Ot224.out.below hb25)
  have Ow25 := Lib.hid (Ow24.out.below hb25)
  have Ox025 := Lib.hid (Ox024.out.below hb25)
  have Ox125 := Lib.hid (Ox124.out.below hb25)
  have Ox225 := Lib.hid (Ox224.out.below hb25)
  have Og25 := Lib.hid (Og24.out.below hb25)
  have Oy025 := Lib.hid (Oy024.out.below hb25)
  have Oy125 := Lib.hid (Oy124.out.below hb25)
  have Oy225 := Lib.hid (Oy224.out.below hb25)
  have Oz025 := Lib.hid (Oz024.out.below hb25)
  have Oz125 := Lib.hid (Oz124.out.below hb25)
  have Oz225 := Lib.hid (Oz224.out.below hb25)
  have Oh25 := Lib.hid (OwnIn.new ho)
  clear hb25 Ot024 Ot124 Ot224 Ow24 Ox024 Ox124 Ox224 Og24 Oy024 Oy124 Oy224 Oz024 Oz124 Oz224 ho
  go_wp2_with fail
  refine (eqStringS_any _ _ _ _ _ _ R _ Oh25.out.rd Ow25.out.rd).mono ?_
  rintro e w26 ⟨rfl, hb26⟩
  have b26 : Below w.heap.size w w26 := b25.trans (hb26.mono b25.size)
  have s26 := hb26.size
  have Ot026 := Lib.hid (Ot025.out.below hb26)
  have Ot126 := Lib.hid (Ot125.out.below hb26)
  have Ot226 := Lib.hid (Ot225.out.below hb26)
  have Ow26 := Lib.hid (Ow25.out.below hb26)
  have Ox026 := Lib.hid (Ox025.out.below hb26)
  have Ox126 := Lib.hid (Ox125.out.below hb26)
  have Ox226 := Lib.hid (Ox225.out.below hb26)
  have Og26 := Lib.hid (Og25.out.below hb26)
  have Oy026 := Lib.hid (Oy025.out.below hb26)
  have Oy126 := Lib.hid (Oy125.out.below hb26)
  have Oy226 := Lib.hid (Oy225.out.below hb26)
  have Oz026 := Lib.hid (Oz025.out.below hb26)
  have Oz126 := Lib.hid (Oz125.out.below hb26)
  have Oz226 := Lib.hid (Oz225.out.below hb26)
  have Oh26 := Lib.hid (Oh25.out.below hb26)
  clear hb26 Ot025 Ot125 Ot225 Ow25 Ox025 Ox125 Ox225 Og25 Oy025 Oy125 Oy225 Oz025 Oz125 Oz225 Oh25
  go_wp2_with fail
  refine (heldStringS_any _ _ _ 1 _ Og26.out.rd (by omega) (by omega)).mono ?_
  rintro e w27 ⟨rfl, hb27⟩
  have b27 : Below w.heap.size w w27 := b26.trans (hb27.mono b26.size)
  have s27 := hb27.size
  have Ot027 := Lib.hid (Ot026.out.below hb27)
  have Ot127 := Lib.hid (Ot126.out.below hb27)
  have Ot227 := Lib.hid (Ot226.out.below hb27)
  have Ow27 := Lib.hid (Ow26.out.below hb27)
  have Ox027 := Lib.hid (Ox026.out.below hb27)
  have Ox127 := Lib.hid (Ox126.out.below hb27)
  have Ox227 := Lib.hid (Ox226.out.below hb27)
  have Og27 := Lib.hid (Og26.out.below hb27)
  have Oy027 := Lib.hid (Oy026.out.below hb27)
  have Oy127 := Lib.hid (Oy126.out.below hb27)
  have Oy227 := Lib.hid (Oy226.out.below hb27)
  have Oz027 := Lib.hid (Oz026.out.below hb27)
  have Oz127 := Lib.hid (Oz126.out.below hb27)
  have Oz227 := Lib.hid (Oz226.out.below hb27)
  have Oh27 := Lib.hid (Oh26.out.below hb27)
  clear hb27 Ot026 Ot126 Ot226 Ow26 Ox026 Ox126 Ox226 Og26 Oy026 Oy126 Oy226 Oz026 Oz126 Oz226 Oh26
  go_wp2_with fail
  go_ret
  exact ⟨rfl, b27⟩

end Go.Proofs.YtiibhejjeijdaaaDoor
