/- BlocksText (program and reference), and its law. -/
import Derived.Test.YthdbaflihgkomaaDoorNt
import Derived.Test.YthdbaflihgkomaaDoorMa
namespace Go.Proofs.YthdbaflihgkomaaDoor
open Go.RowKit Go.Shelf

theorem keepBP {w0 wr w' : World} {p q : Addr} {x y : Value} (hh : wr.cell? p = some x ∧ wr.cell? q = some y ∧ Below w0.heap.size w0 wr) (hb : Below wr.heap.size wr w') : w'.cell? p = some x ∧ w'.cell? q = some y ∧ Below w0.heap.size w0 w' :=
  ⟨(hb.cell (p := p) (World.block_lt_of_cell? _ _ hh.1)).trans hh.1, (hb.cell (p := q) (World.block_lt_of_cell? _ _ hh.2.1)).trans hh.2.1, hh.2.2.trans (hb.mono hh.2.2.size)⟩

set_option maxRecDepth 100000 in
set_option maxHeartbeats 8000000 in
theorem specBlocksText_any (A : Option Addr) (n c : Nat) (ps : List (Int × Int)) (roll : Int) (w : World) (h : Rd w 2 A n c (pr ps)) :
    Calls Tryd.prog 6 #[.slice A n c, .int .i64 roll] w fun e w' => e = .returned (.string (bkT ps roll)) ∧ Below w.heap.size w w' := by
  have hok := l11Ok_any A n c ps roll w h
  unfold bkT
  cases hz : blocksB ps roll with
  | false =>
    rw [hz] at hok
    have HOK := Lib.hid hok
    clear hok hz h
    go_enter Tryd.func6, Tryd.ntmps6
    go_wp2_with fail
    refine (HOK.out).mono ?_
    rintro e w1 ⟨rfl, rfl⟩
    go_wp2
    go_ret
    exact ⟨rfl, Below.refl _ _⟩
  | true =>
    have ho := bok hz
    have hr0 := ho.r0
    have hr1 := ho.r1
    have h9 := ho.len
    have hl := h.plen
    have h1 := h.cap
    have h2 := h.max
    rw [hz] at hok
    rw [if_pos rfl]
    have hsz := bkL_size ho
    have hst : jnT (bkL roll (ps.take 0)) sepB = dk roll ++ ⟨#[58]⟩ := by
      show jnT [dk roll ++ colB] sepB = _
      rw [jnT_one]; rfl
    have hdr := dk_size (z := roll) (by omega)
    have hsn := fun (k : Nat) (p : Int × Int) (hk : ps[k]? = some p) => bkL_snoc (roll := roll) hk
    obtain ⟨R, hR⟩ : ∃ R : Nat → ByteArray, ∀ k, jnT (bkL roll (ps.take k)) sepB = R k := ⟨_, fun _ => rfl⟩
    have hRn : jnT (bkL roll ps) sepB = R n := by rw [← hR n, List.take_of_length_le (by omega)]
    rw [hRn]
    rw [hR] at hst
    simp only [hR] at hsz hsn
    have hdec := decS_any roll w hr0 (by omega)
    have HOK := Lib.hid hok
    have HDEC := Lib.hid hdec
    have HST := Lib.hid hst
    have HSN := Lib.hid hsn
    have HSZ := Lib.hid hsz
    have HO := Lib.hid ho
    have H := Lib.hid h
    clear hok hdec hst hsn hsz ho h hz hR hRn
    generalize dk roll = dr at *
    go_enter Tryd.func6, Tryd.ntmps6
    go_wp2_with fail
    refine (HOK.out).mono ?_
    rintro e w1 ⟨rfl, rfl⟩
    go_wp2_with fail
    refine (HDEC.out).mono ?_
    rintro e w1 ⟨rfl, hb1⟩
    have HB1 := Lib.hid hb1
    clear hb1
    go_wp2
    rw [← HST.out]
    go_loopw [5, 6] (fun vs vi wr => ∃ k : Nat, k ≤ n ∧ vi = .int .i64 k ∧ vs = .string (R k) ∧ Hid (Below w.heap.size w wr)) (fun _ vi _ => n - (intOf vi).toNat)
    case atStart => exact ⟨0, Nat.zero_le _, rfl, rfl, HB1⟩
    case round =>
      clear HB1
      obtain ⟨k, hk, rfl, rfl, HB⟩ := hrel
      have hs := HB.out.size
      by_cases hlt : k < n
      · obtain ⟨b, o, x, y, hA, hbl, hx, hc1, hc2⟩ := (H.out.below HB.out).pair hlt
        subst hA
        have hxy := HO.out.blk k (x, y) hx
        simp only at hxy
        have hsn := HSN.out k (x, y) hx
        simp only at hsn
        have hsz := HSZ.out k
        have hdx := dk_size (z := x) (by omega)
        have hdy := dk_size (z := y) (by omega)
        have hx1 : x ≤ 100000 := by omega
        have hy1 : y ≤ 100000 := by omega
        have hk0 : (0 : Int) ≤ (k : Int) := by omega
        have hk1 : (k : Int) < (n : Int) := by omega
        generalize R k = R0 at *
        have hq1 : ¬ 9223372036854775807 < 1 + (dk x).size := by omega
        have hq2 : ¬ 9223372036854775807 < 1 + (dk x).size + 1 := by omega
        have hq3 : ¬ 9223372036854775806 < 1 + (dk x).size := by omega
        have hq4 : ¬ 9223372036854775807 < 1 + (dk x).size + 1 + (dk y).size := by omega
        have hq5 : ¬ 9223372036854775807 < R0.size + (1 + (dk x).size + 1 + (dk y).size) := by omega
        have h32 : sepB = ⟨#[32]⟩ := rfl
        have h120 : sepX = ⟨#[120]⟩ := rfl
        rw [h32, h120] at hsn
        clear hx
        go_wp2
        go_region_held3 (fun w' => w'.cell? ⟨b, o + k * 2, none⟩ = some (.int .i64 x) ∧ w'.cell? ⟨b, o + k * 2 + 1, none⟩ = some (.int .i64 y) ∧ Below wr.heap.size wr w')
          (first | exact ⟨hc1, hc2, (Below.refl _ _).drew⟩ | exact keepBP (by assumption) hb | go_keep)
          (first | (go_at_call 27; refine (decS_any _ _ (by omega) (by omega)).mono ?_; rintro e w' ⟨rfl, hb⟩))
        have hbb : Below wr.heap.size wr w' := (‹_ ∧ _ ∧ Below wr.heap.size wr w'›).2.2
        have b3 := Lib.hid (HB.out.trans (hbb.mono hs))
        go_wp2
        rw [← hsn]
        go_roundw
        case rel => exact ⟨k + 1, by omega, by go_num, rfl, b3⟩
        case measure => simp [intOf]; omega
      · obtain rfl : k = n := by omega
        go_wp2
        go_ret
        exact ⟨rfl, HB.out⟩

set_option maxRecDepth 100000 in
set_option maxHeartbeats 8000000 in
theorem implBlocksText_any (A : Option Addr) (n c : Nat) (ps : List (Int × Int)) (roll : Int) (w : World) (h : Rd w 2 A n c (pr ps)) (B : Nat) (ht : PowT B w) (hB : B ≤ w.heap.size) :
    Calls Tryd.prog 8 #[.slice A n c, .int .i64 roll] w fun e w' => e = .returned (.string (bkT ps roll)) ∧ Below w.heap.size w w' := by
  have hok := implValidBlocks_any A n c ps roll w h
  unfold bkT
  cases hz : blocksB ps roll with
  | false =>
    rw [hz] at hok
    have HOK := Lib.hid hok
    clear hok hz h ht
    go_enter Tryd.func8, Tryd.ntmps8
    go_wp2_with fail
    refine (HOK.out).mono ?_
    rintro e w1 ⟨rfl, hb1⟩
    go_wp2
    go_ret
    exact ⟨rfl, hb1⟩
  | true =>
    obtain ⟨i0, hi, hz0, hz1, hz2⟩ := info_parts info_str
    have ho := bok hz
    have hr0 := ho.r0
    have hr1 := ho.r1
    have h9 := ho.len
    have hl := h.plen
    have h1 := h.cap
    have h2 := h.max
    rw [hz] at hok
    rw [if_pos rfl]
    have hdr := dk_size (z := roll) (by omega)
    have hLS : ∀ (k : Nat) (p : Int × Int), ps[k]? = some p → txs (bkL roll (ps.take k)) ++ [.string (blkT p)] = txs (bkL roll (ps.take (k + 1))) := fun k p hk => by rw [bkL_take hk, txs_append]; rfl
    have hL0 : txs (bkL roll (ps.take 0)) = [.string (dk roll ++ ⟨#[58]⟩)] := rfl
    have hT : ps.take n = ps := List.take_of_length_le (by omega)
    have hJ : ∀ (go co : Nat) (W : World), W.ownsRow w.heap.size 9 1 (.slice (some ⟨go, 0, none⟩) (n + 1) co) (n + 1) (txs (bkL roll (ps.take n))) → Calls Tryd.prog 32 #[.slice (some ⟨go, 0, none⟩) (n + 1) co, .string ⟨#[32]⟩] W fun e w' => e = .returned (.string (jnT (bkL roll ps) sepB)) ∧ Below W.heap.size W w' := fun go co W h => by
      have hs := bkL_size ho n
      rw [hT] at h hs
      exact joinS_any (some ⟨go, 0, none⟩) (n + 1) co _ sepB W (Rd.of_own h) (by omega) (Nat.le_trans hs (by omega))
    have HLS := Lib.hid hLS
    have HL0 := Lib.hid hL0
    have HJ := Lib.hid hJ
    have HOK := Lib.hid hok
    have HO := Lib.hid ho
    have H := Lib.hid h
    have HT := Lib.hid ht
    generalize bkL roll = F at *
    generalize jnT (F ps) sepB = R at *
    clear hok hLS hL0 hT hJ ho h hz ht
    go_enter Tryd.func8, Tryd.ntmps8
    go_wp2_with fail
    refine (HOK.out).mono ?_
    rintro e w1 ⟨rfl, hb1⟩
    have HB1 := Lib.hid hb1
    have HT1 := Lib.hid (HT.out.on (hb1.mono hB))
    have hs1 := hb1.size
    clear hb1 HT HOK
    go_wp2_with fail
    refine (decI_any roll _ (by omega) (by omega) B HT1.out).mono ?_
    rintro e w2 ⟨rfl, hb2⟩
    have hb2' := HB1.out.trans (hb2.mono hs1)
    have hs2 := hb2'.size
    have HT2 := Lib.hid (HT1.out.on (hb2.mono (by omega)))
    have hb3 : Below w.heap.size w (w2.alloc (.cells #[.string (dk roll ++ ⟨#[58]⟩)] 9)) := hb2'.alloc hs2 _
    have HO0 := Lib.hid (show (w2.alloc (.cells #[.string (dk roll ++ ⟨#[58]⟩)] 9)).ownsRow w.heap.size 9 1 (.slice (some ⟨w2.heap.size, 0, none⟩) 1 1) 1 (txs (F (ps.take 0))) from by
      rw [HL0.out]
      exact World.ownsRow_lit (base := w.heap.size) (e := 9) (size := 1) w2 #[.string (dk roll ++ ⟨#[58]⟩)] 1 hs2 (by unfold maxLen; omega) rfl)
    have HB0 := Lib.hid hb3
    have HT0 := Lib.hid (HT2.out.on (B := B) (w' := w2.alloc (.cells #[.string (dk roll ++ ⟨#[58]⟩)] 9)) ((Below.refl _ _).alloc (by omega) _))
    clear hb2 hb2' hb3 HB1 HT1 HT2
    go_wp2
    go_loopw [5, 7, 18] (fun vo _ vi wr => ∃ (k l go co : Nat), k ≤ n ∧ l ≤ k + 1 ∧ k + 1 ≤ l ∧ vi = .int .i64 k ∧ vo = .slice (some ⟨go, 0, none⟩) l co ∧ Hid (wr.ownsRow w.heap.size 9 1 (.slice (some ⟨go, 0, none⟩) l co) l (txs (F (ps.take k)))) ∧ Hid (PowT B wr) ∧ Hid (Below w.heap.size w wr)) (fun _ _ vi _ => n - (intOf vi).toNat)
    case atStart => exact ⟨0, 1, _, _, Nat.zero_le _, by omega, by omega, rfl, rfl, HO0, HT0, HB0⟩
    case round =>
      clear HO0 HB0 HT0
      obtain ⟨k, l, go, co, hk, hlk, hlk2, rfl, rfl, HOW, HTB, HB⟩ := hrel
      have hcap2 := (Rd.of_own HOW.out).cap
      have hmax2 := (Rd.of_own HOW.out).max
      have hs := HB.out.size
      by_cases hlt : k < n
      · obtain ⟨b, o, x, y, hA, hbl, hx, hc1, hc2⟩ := (H.out.below HB.out).pair hlt
        subst hA
        have hxy := HO.out.blk k (x, y) hx
        simp only at hxy
        have hls := HLS.out k (x, y) hx
        have HLS1 := Lib.hid hls
        have hk0 : (0 : Int) ≤ (k : Int) := by omega
        have hk1 : (k : Int) < (n : Int) := by omega
        have hx1 : x ≤ 100000 := by omega
        have hy1 : y ≤ 100000 := by omega
        have hal1 : Below wr.heap.size wr (wr.alloc (.cells #[.int .i64 x, .int .i64 y] 49)) := (Below.refl _ _).alloc (Nat.le_refl _) _
        have hal2 : Below wr.heap.size wr ((wr.alloc (.cells #[.int .i64 x, .int .i64 y] 49)).alloc (.cells #[.int .i64 x, .int .i64 y] 2)) := hal1.alloc (by simp) _
        have HA2 := Lib.hid hal2
        clear hx hls hal1 hal2
        go_wp2_with fail
        have hn1 : ((wr.alloc (.cells #[.int .i64 x, .int .i64 y] 49)).alloc (.cells #[.int .i64 x, .int .i64 y] 2)).cell? ⟨wr.heap.size + 1, 0, none⟩ = some (.int .i64 x) := by
          simp
        have hn2 : ((wr.alloc (.cells #[.int .i64 x, .int .i64 y] 49)).alloc (.cells #[.int .i64 x, .int .i64 y] 2)).cell? ⟨wr.heap.size + 1, 1, none⟩ = some (.int .i64 y) := by
          simp
        have HNT := Lib.hid (numbersText_any (wr.heap.size + 1) 2 x y _ hn1 hn2 (by omega) hx1 (by omega) hy1 B (HTB.out.on (HA2.out.mono (by omega))) (by simp; omega))
        have HO2 := Lib.hid (own_below HOW.out HA2.out)
        have HT2 := Lib.hid (HTB.out.on (HA2.out.mono (by omega)))
        have HB2 := Lib.hid (HB.out.trans (HA2.out.mono hs))
        have hs2 := HB2.out.size
        clear hn1 hn2 HA2
        generalize (wr.alloc (.cells #[.int .i64 x, .int .i64 y] 49)).alloc (.cells #[.int .i64 x, .int .i64 y] 2) = W2 at *
        refine (HNT.out).mono ?_
        rintro e w3 ⟨rfl, hb3⟩
        have HO3 := Lib.hid (own_below HO2.out hb3)
        have HT3 := Lib.hid (HT2.out.on (hb3.mono (by omega)))
        have HB3 := Lib.hid (HB2.out.trans (hb3.mono hs2))
        have hs3 := HB3.out.size
        generalize blkT (x, y) = t at *
        clear hb3 HO2 HT2 HB2 HNT HOW HTB HB
        go_wp2_with (at_builtin; refine wpList_append_own_at _ rfl (.tmp 22) (.tmp 29) 54 rfl w.heap.size 9 i0 (.string ByteArray.empty) 1 16 Tryd.underlying54 hi hz0 hz1 hz2 rfl (by decide) (Value.slice (some ⟨go, 0, none⟩) l co) _ _ rfl (HO3.out.alloc _) ⟨_, 0, none⟩ 1 1 [.string t] rfl rfl (cell_one_new _ _ _) (by intro u hu; simp at hu; subst hu; rfl) (by unfold maxLen; omega) (by omega) (by simp; omega) ?_; intro v' wa hown' hga hdel hblk; clear hdel)
        have hal : Below w3.heap.size w3 (w3.alloc (.cells #[.string t] 9)) := (Below.refl _ _).alloc (Nat.le_refl _) _
        obtain ⟨g3, d3, hv, hg3, _⟩ := own_form hown' (by omega)
        have hgo := (own_block HO3.out go rfl)
        have b3 : Below w3.heap.size w3 (w3.alloc (.cells #[.string t] 9)) := hal
        have b4 : Below w.heap.size w wa := (HB3.out.trans (hal.mono hs3)).grown hga (by simp; omega) (fun j hj => by simp [Value.ownBlock] at hj; omega)
        have b5 : Below w.heap.size w3 wa := (hal.mono hs3).grown hga (by simp; omega) (fun j hj => by simp [Value.ownBlock] at hj; omega)
        rw [HLS1.out] at hown'
        subst hv
        have HO4 := Lib.hid hown'
        have HB4 := Lib.hid b4
        have HT4 := Lib.hid (HT3.out.on (b5.mono hB))
        clear hown' hga hal b3 b4 b5 hblk HT3 HO3 HB3
        go_wp2
        go_roundw
        case rel => exact ⟨k + 1, l + 1, g3, d3, by omega, by omega, by omega, by go_num, rfl, HO4, HT4, HB4⟩
        case measure => simp [intOf]; omega
      · obtain rfl : k = n := by omega
        obtain rfl : l = k + 1 := by omega
        have HJ1 := Lib.hid (HJ.out go co wr HOW.out)
        go_wp2_with fail
        refine (HJ1.out).mono ?_
        rintro e w3 ⟨rfl, hb3⟩
        have HB1 := Lib.hid (HB.out.trans (hb3.mono hs))
        clear hb3
        go_wp2
        go_ret
        exact ⟨rfl, HB1.out⟩

set_option maxHeartbeats 4000000 in
theorem law_BlocksText (A : Option Addr) (n c : Nat) (ps : List (Int × Int)) (roll : Int) (w : World) (h : Rd w 2 A n c (pr ps)) (ht : PowT w.heap.size w) :
    Calls Tryd.prog 3 #[.slice A n c, .int .i64 roll] w fun e w' => e = .returned (.bool true) ∧ Below w.heap.size w w' := by
  have h1 := h.cap
  have h2 := h.max
  have HA := Lib.hid h
  clear h
  by_cases hn : (1048576 : Int) < (n : Int)
  · go_enter Tryd.func3, Tryd.ntmps3
    go_wp2_with fail
    refine (szPrS_any _ _ _ _ _ (by omega) (by omega) (by omega)).mono ?_
    rw [if_pos (by omega)]
    rintro e w' ⟨rfl, rfl⟩
    go_wp2
    go_ret
    exact ⟨rfl, Below.refl _ _⟩
  have b0 : Below w.heap.size w w := Below.refl _ _
  go_enter Tryd.func3, Tryd.ntmps3
  go_wp2_with fail
  refine (szPrS_any _ _ _ _ _ (by omega) (by omega) (by omega)).mono ?_
  rw [if_neg (by omega)]
  rintro e w' ⟨rfl, rfl⟩
  have h5 : ¬ 1048576 - (n : Int) < 0 := by omega
  go_wp2_with fail
  refine (toPrS_any A n c ps _ (HA.out.below b0) (by omega)).mono ?_
  rintro e w1 ⟨gp, rfl, ho, hb⟩
  have b1 : Below w.heap.size w w1 := b0.trans (hb.mono b0.size)
  have Rp1 := Lib.hid (Rd.of_own ho)
  clear hb b0 ho
  go_wp2_with fail
  refine (specBlocksText_any _ _ _ ps roll _ Rp1.out).mono ?_
  rintro e w2 ⟨rfl, hb⟩
  have b2 : Below w.heap.size w w2 := b1.trans (hb.mono b1.size)
  clear hb b1 Rp1
  go_wp2_with fail
  refine (toPrS_any A n c ps _ (HA.out.below b2) (by omega)).mono ?_
  rintro e w3 ⟨gx, rfl, ho, hb⟩
  have b3 : Below w.heap.size w w3 := b2.trans (hb.mono b2.size)
  have Rx3 := Lib.hid (Rd.of_own ho)
  clear hb b2 ho
  go_wp2_with fail
  refine (implBlocksText_any _ _ _ ps roll _ Rx3.out w.heap.size (ht.on b3) b3.size).mono ?_
  rintro e w4 ⟨rfl, hb⟩
  have b4 : Below w.heap.size w w4 := b3.trans (hb.mono b3.size)
  have Rx4 := Lib.hid (Rx3.out.below hb)
  clear hb b3 Rx3
  generalize bkT ps roll = t
  go_wp2_with fail
  refine (toPrS_any A n c ps _ (HA.out.below b4) (by omega)).mono ?_
  rintro e w5 ⟨gz, rfl, ho, hb⟩
  have b5 : Below w.heap.size w w5 := b4.trans (hb.mono b4.size)
  have Rx5 := Lib.hid (Rx4.out.below hb)
  have Rz5 := Lib.hid (Rd.of_own ho)
  clear hb b4 Rx4 ho
  go_wp2_with fail
  refine (eqPrS_any _ _ _ ps _ _ _ ps _ Rx5.out Rz5.out).mono ?_
  rw [eqG_self]
  rintro e w6 ⟨rfl, hb⟩
  have b6 : Below w.heap.size w w6 := b5.trans (hb.mono b5.size)
  clear hb b5
  go_wp2
  go_ret
  exact ⟨rfl, b6⟩
end Go.Proofs.YthdbaflihgkomaaDoor
