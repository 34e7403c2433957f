/- ChartLines: the program, and the law. Printed by mkci.py. -/
import Derived.Test.YtfjmohnlllbgmaaCs
import Derived.Test.YtfjmohnlllbgmaaSrc
import Derived.Deep.CutRange
import Derived.Test.YtfjmohnlllbgmaaPr3
namespace Go.Proofs.Ytfjmohnlllbgmaa
open Go.RowKit Go.Shelf

theorem setCell_grown (w : World) (g i : Nat) (v : Value) : w.grownBy (w.setCell ⟨g, i, none⟩ v) (some g) := grown_set (World.grownBy.refl w (some g)) v
theorem own_form0 {w : World} {base : Nat} {e : TypeId} {A : Option Addr} {n c : Nat} {cs : List Value} (h : w.ownsRow base e 1 (.slice A n c) n cs) (hn : 0 < n) : ∃ g, A = some ⟨g, 0, none⟩ ∧ base ≤ g ∧ g < w.heap.size := by
  obtain ⟨g, c', hv, h1, h2⟩ := own_form h hn
  injection hv with hv
  exact ⟨g, hv, h1, h2⟩
theorem rep_dots (n : Nat) : bys (List.replicate n 46) ++ [.int .u8 46] = bys (List.replicate (n + 1) 46) := by rw [bys_snoc, List.replicate_succ']
theorem Box.keep {w w1 : World} {b : Nat} {cs : Array Value} {row : Option Nat} (h : Box w b cs) (hg : w.grownBy w1 row) (hne : row ≠ some b) : Box w1 b cs :=
  ⟨fun k => (World.cell?_of_block (hg.block b h.lt (fun e => hne e.symm))).trans (h.cell k), fun k => (World.frozen?_of_block (hg.block b h.lt (fun e => hne e.symm))).trans (h.froz k), Nat.lt_of_lt_of_le h.lt hg.size⟩
theorem OwnIn.keepR {w w1 : World} {lo hi k n c : Nat} {t : TypeId} {A : Option Addr} {cs : List Value} {row : Option Nat} (h : OwnIn w lo hi t k A n c cs) (hg : w.grownBy w1 row) (hr : ∀ g, row = some g → g < lo ∨ hi ≤ g) : OwnIn w1 lo hi t k A n c cs := by
  refine ⟨h.own.kept hg ?_, h.top, Nat.le_trans h.le hg.size⟩
  cases e : (Value.slice A n c).ownBlock with
  | none => exact .inl rfl
  | some g =>
    refine .inr fun e' => ?_
    have k1 := h.top g e
    have k2 := (own_block h.own g e).1
    have := hr g e'.symm
    omega
def dots (n : Nat) : List Value := bys (List.replicate n 46)
theorem dots_snoc (n : Nat) : dots n ++ [.int .u8 46] = dots (n + 1) := rep_dots n
/-- How far the two lines have been filled. -/
def LnR (gL B0 N : Nat) (wr : World) (i : Nat) : Prop :=
  (i = 0 ∧ Box wr gL #[.slice none 0 0, .slice none 0 0]) ∨
  (i = 1 ∧ ∃ A1 c1, Box wr gL #[.slice A1 N c1, .slice none 0 0] ∧ wr.ownsRow B0 5 1 (.slice A1 N c1) N (dots N)) ∨
  (i = 2 ∧ ∃ A1 c1 A2 c2 M, Box wr gL #[.slice A1 N c1, .slice A2 N c2] ∧ OwnIn wr B0 M 5 1 A1 N c1 (dots N) ∧ wr.ownsRow M 5 1 (.slice A2 N c2) N (dots N))
/-- A row of bytes that may be nil when it is empty. -/
def RowH (w : World) (A : Option Addr) (N : Nat) (F : Nat → Int) : Prop := (A = none ∧ N = 0) ∨ ∃ p, A = some ⟨p, 0, none⟩ ∧ p < w.heap.size ∧ HoldsF w p N F
theorem conv_row {w : World} {A : Option Addr} {N c : Nat} {F : Nat → Int} (h : RowH w A N F) : (convert 31 9 (.slice A N c)).run Try.prog w = .ok (.string (strOfNums (rowF 0 N F))) w := by
  rcases h with ⟨rfl, rfl⟩ | ⟨p, rfl, _, hf⟩
  · exact run_convert_bytes_nil (P := Try.prog) w 31 5 Try.underlying31 Try.underlying5 0 c 9 Try.underlying9
  · exact run_convert_bytes_arg (P := Try.prog) w 31 5 Try.underlying31 Try.underlying5 p 0 N c (rowF 0 N F) (rowF_len _ _ _) (hf.conv (by omega)) 9 Try.underlying9
theorem row_of_own {w : World} {base : Nat} {e : TypeId} {A : Option Addr} {N c : Nat} {F : Nat → Int} (h : w.ownsRow base e 1 (.slice A N c) N (bys (List.replicate N 46))) (hF : ∀ t, F t = 46) : RowH w A N F := by
  rcases h.2 with ⟨h', h0⟩ | ⟨g, cap, cur, h', hb, hg, _⟩
  · injection h' with h1
    exact .inl ⟨h1, h0⟩
  · injection h' with h1 h2 h3
    subst h1
    refine .inr ⟨g, rfl, (Array.getElem?_eq_some_iff.1 hg).1, (HoldsF.own h).congr fun j hj => ?_⟩
    rw [hF]
    simp [List.getD, hj]
theorem RowH.below {w w' : World} {A : Option Addr} {N : Nat} {F : Nat → Int} (h : RowH w A N F) (hb : Below w.heap.size w w') : RowH w' A N F := by
  rcases h with h | ⟨p, hA, hp, hf⟩
  · exact .inl h
  · exact .inr ⟨p, hA, Nat.lt_of_lt_of_le hp hb.size, hf.below hp hb⟩
set_option maxRecDepth 100000 in
set_option maxHeartbeats 4000000 in
theorem implChart_any (A : Option Addr) (n c : Nat) (ps : List (Int × Int)) (B : Option Addr) (m d : Nat) (os : List Int) (w : World) (h : Rd w 2 A n c (pr ps)) (hB : Rd w 1 B m d (ints os)) (hm : m ≤ 1048576) :
    Calls Try.prog 48 #[.slice A n c, .slice B m d] w (StrPost w (chZ ps os).1 (chZ ps os).2) := by
  have hcode := jobsCode_any A n c ps B m d os w h hB hm
  by_cases hz : ¬ codeJ ps os = 0
  · rw [chZ_n hz]
    simp only
    have hne : (codeJ ps os != 0) = true := by simpa using hz
    have HC := Lib.hid hcode
    generalize codeJ ps os = F at *
    clear hcode h hB hz
    go_enter Try.func48, Try.ntmps48
    go_wp2_with fail
    refine (HC.out).mono ?_
    rintro e w1 ⟨rfl, hb⟩
    go_wp2_with fail
    go_ret2
    exact strPost_nil hb
  have hz : codeJ ps os = 0 := Decidable.not_not.mp hz
  obtain ⟨i8, gi, gz0, gz1, gz2⟩ := info_parts info_u8
  have hl := h.plen
  have hl' := hB.ilen
  obtain ⟨hj, hp⟩ := codeJ_ok hz
  obtain ⟨hon, hin⟩ := perm_in hp
  have hn7 := hj.len
  have hmn : m = n := by omega
  subst hmn
  have hm7 : m ≤ 7 := by omega
  have a1 := h.cap
  have a2 := h.max
  have a3 := hB.cap
  have a4 := hB.max
  have hin2 : ∀ (j : Nat) (i : Int), os[j]? = some i → 0 ≤ i ∧ i < (m : Nat) := fun j i hx => by have := hin j i hx; omega
  have htm := fun W (hb : Below w.heap.size w W) => spanOf_any A m c ps B m d os W (h.below hb) (hB.below hb) hj hm7 hin2
  have hrun := fun W (hb : Below w.heap.size w W) => run_any A m c ps B m d os W (h.below hb) (hB.below hb) hj hm7 hin2
  have htb := timB_all hj (fun j i hx => hin j i hx) m (by omega)
  have hp' : os.Perm (upto m) := hl ▸ hp
  have hfit := fun i (hi : i < m) => tim_fits hj hl hp' hi
  clear hp'
  rw [hz] at hcode
  have hjob := hj.job
  have HC := Lib.hid hcode
  have h120 : ∀ T : Tim, timK ps os m = T → (120 < T.b → chZ ps os = ([], 5)) ∧ (¬ 120 < T.b → chZ ps os = (chL ps T m, 0)) := fun T hT => by
    subst hT
    refine ⟨fun h => ?_, fun h => ?_⟩
    · rw [chZ_5 hz (by rw [hl']; exact h)]
    · rw [chZ_0 hz (by rw [hl']; exact h), hl', hl]
  generalize hT : timK ps os m = T at *
  obtain ⟨hq5, hq0⟩ := h120 T rfl
  have hTb0 := htb.b0
  rw [hl] at htb
  have hTF := htb.fl
  have hTB := htb.bl
  have hTS := htb.sl
  have HTM := Lib.hid htm
  have HRN := Lib.hid hrun
  by_cases hb120 : 120 < T.b
  · rw [hq5 hb120]
    simp only
    have hd : decide (T.b > 120) = true := by simpa using hb120
    clear hcode h hB hz hl hl' hj hp hon hin hn7 htm htb hfit hjob h120 hT hq5 hq0 hTF hTB hin2 hrun hTS
    go_enter Try.func48, Try.ntmps48
    go_wp2_with fail
    refine (HC.out).mono ?_
    rintro e w1 ⟨rfl, hb1⟩
    go_wp2_with fail
    refine (HTM.out _ hb1).mono ?_
    rintro e w2 ⟨rfl, hb2⟩
    go_wp2_with fail
    go_ret2
    exact strPost_nil (hb1.trans (hb2.mono hb1.size))
  rw [hq0 hb120]
  simp only
  have hd : decide (T.b > 120) = false := by simpa using hb120
  obtain ⟨N, hN⟩ := Int.eq_ofNat_of_zero_le hTb0
  have hN120 : N ≤ 120 := by omega
  have hrow : chL ps T m = [strOfNums (rowF 0 N (chK (fLo ps T.F) (fHi T.F) m)), strOfNums (rowF 0 N (chK (sLo T.B) (sHi ps T.B) m))] := by unfold chL; rw [hN]; rfl
  rw [hrow]
  have hfb : ∀ i : Nat, i < m → 0 ≤ T.F.getD i 0 ∧ T.F.getD i 0 ≤ 7000 := fun i hi => by
    have := htb.fb i _ (getD_of (by rw [hTF]; exact hi)); omega
  have hbb : ∀ i : Nat, i < m → 0 ≤ T.B.getD i 0 ∧ T.B.getD i 0 ≤ 14000 := fun i hi => by
    have := htb.bb i _ (getD_of (by rw [hTB]; exact hi)); omega
  have HFB := Lib.hid hfb
  have HBB := Lib.hid hbb
  have HTF := Lib.hid hTF
  have HTB := Lib.hid hTB
  have HTS := Lib.hid hTS
  have HFI := Lib.hid hfit
  have HA := Lib.hid h
  have HJ := Lib.hid hjob
  have hTF2 := fun (i : Nat) (x y : Int) (hx : ps[i]? = some (x, y)) (t : Nat) => (show (fLo ps T.F i = T.F.getD i 0 - x ∧ fHi T.F i = T.F.getD i 0 ∧ sLo T.B i = T.B.getD i 0 ∧ sHi ps T.B i = T.B.getD i 0 + y) from by unfold fLo fHi sLo sHi; rw [pair_at hx]; exact ⟨rfl, rfl, rfl, rfl⟩)
  have HLH := Lib.hid hTF2
  generalize hFA : chK (fLo ps T.F) (fHi T.F) = FA at *
  generalize hFB : chK (sLo T.B) (sHi ps T.B) = FB at *
  have hA0 : ∀ t, FA 0 t = 46 := fun t => by rw [← hFA]; rfl
  have hB0 : ∀ t, FB 0 t = 46 := fun t => by rw [← hFB]; rfl
  have hAS : ∀ (i t : Nat), (fLo ps T.F i ≤ (t : Int) ∧ (t : Int) < fHi T.F i → FA (i + 1) t = 97 + (i : Int)) ∧ (¬ (fLo ps T.F i ≤ (t : Int) ∧ (t : Int) < fHi T.F i) → FA (i + 1) t = FA i t) := fun i t => by rw [← hFA]; exact ⟨fun h => chK_yes h, fun h => chK_no h⟩
  have hBS : ∀ (i t : Nat), (sLo T.B i ≤ (t : Int) ∧ (t : Int) < sHi ps T.B i → FB (i + 1) t = 97 + (i : Int)) ∧ (¬ (sLo T.B i ≤ (t : Int) ∧ (t : Int) < sHi ps T.B i) → FB (i + 1) t = FB i t) := fun i t => by rw [← hFB]; exact ⟨fun h => chK_yes h, fun h => chK_no h⟩
  have HAS := Lib.hid hAS
  have HBS := Lib.hid hBS
  have HA0 := Lib.hid hA0
  have HB0 := Lib.hid hB0
  rw [hN] at hd HTM
  have hNI : ¬ (N : Int) > 120 := by omega
  clear hcode h hB hz hl hl' hj hp hon hin hn7 htm htb hfit hjob h120 hT hq5 hq0 hTF hTB hin2 hrow hfb hbb hTF2 hFA hFB hA0 hB0 hAS hBS hTb0 hb120 hrun hTS
  go_enter Try.func48, Try.ntmps48
  go_wp2_with fail
  refine (HC.out).mono ?_
  rintro e w1 ⟨rfl, hb1⟩
  go_wp2_with fail
  refine (HTM.out _ hb1).mono ?_
  rintro e w2 ⟨rfl, hb2⟩
  have hb12 := hb1.trans (hb2.mono hb1.size)
  have hgw := hb12.size
  obtain ⟨w3, hv3⟩ : ∃ w', w' = w2.alloc (.cells #[.slice none 0 0, .slice none 0 0] 76) := ⟨_, rfl⟩
  have bw3 : Below w2.heap.size w2 w3 := by rw [hv3]; exact (Below.refl _ _).alloc (Nat.le_refl _) _
  have hbx3 : Box w3 w2.heap.size #[.slice none 0 0, .slice none 0 0] := by rw [hv3]; exact Box.new w2 _ _
  have hgl : w2.heap.size < w3.heap.size := by rw [hv3]; simp
  have HB3 := Lib.hid (hb12.trans (bw3.mono hgw))
  clear hb1 hb2 hb12 bw3
  go_upto_region 7 with fail
  rw [← hv3]
  clear hv3
  generalize w2.heap.size = gL at *
  have HL3 := Lib.hid (show LnR gL w3.heap.size N w3 0 from .inl ⟨rfl, hbx3⟩)
  clear hbx3
  go_wp2
  go_loopw [29] (fun vi wr => ∃ i : Nat, i ≤ 2 ∧ vi = .int .i64 i ∧ Hid (LnR gL w3.heap.size N wr i) ∧ w3.heap.size ≤ wr.heap.size ∧ Hid (Below w.heap.size w wr)) (fun vi _ => 2 - (intOf vi).toNat)
  case atStart => exact ⟨0, by omega, rfl, HL3, Nat.le_refl _, HB3⟩
  case round =>
    clear HL3 HB3
    obtain ⟨i, hi2, rfl, HL, s5, HB⟩ := hrel
    rcases HL.out with ⟨rfl, hbx⟩ | ⟨rfl, A1, c1, hbx, hoa⟩ | ⟨rfl, A1, c1, A2, c2, M, hbx, hoa, hob⟩
    · clear HL
      go_wp2_with fail
      refine (HTM.out _ HB.out).mono ?_
      rintro e w6 ⟨rfl, hb6⟩
      have BX6 := Lib.hid (hbx.below hb6)
      have HB6 := Lib.hid (HB.out.trans (hb6.mono HB.out.size))
      have s6 : w3.heap.size ≤ w6.heap.size := Nat.le_trans s5 hb6.size
      clear hb6 hbx HB
      go_wp2
      go_loopw [35] (fun vk wr => ∃ (k : Nat) (AX : Option Addr) (cx : Nat), k ≤ N ∧ vk = .int .i64 k ∧ Hid (Box wr gL #[.slice AX k cx, .slice none 0 0]) ∧ Hid (wr.ownsRow w3.heap.size 5 1 (.slice AX k cx) k (dots k)) ∧ w3.heap.size ≤ wr.heap.size ∧ Hid (Below w.heap.size w wr)) (fun vk _ => N - (intOf vk).toNat)
      case atStart => exact ⟨0, none, 0, Nat.zero_le _, rfl, BX6, Lib.hid (World.ownsRow_nil _ _ _ _), s6, HB6⟩
      case round =>
        clear BX6 HB6 s6
        obtain ⟨k, AX, cx, hk, rfl, BX, HO, s7, HB⟩ := hrel
        have hbx := BX.out
        by_cases hkl : k < N
        · have hk0 : (0 : Int) ≤ (k : Int) := by omega
          have hk1 : (k : Int) < (N : Int) := by omega
          have cc := hbx.cell 0
          have cf := hbx.froz 0
          simp at cc
          have hcap := (Rd.of_own HO.out).cap
          have hmax := (Rd.of_own HO.out).max
          have hxb : ∀ g, (Value.slice AX k cx).ownBlock = some g → w3.heap.size ≤ g ∧ g < wr.heap.size := fun g hg => own_block HO.out g hg
          have HXB := Lib.hid hxb
          clear hxb
          go_wp2_with
            (at_builtin
             refine wpList_append_own_at _ rfl (.tmp 40) (.tmp 41) 31 rfl w3.heap.size 5 i8 (.int .u8 0) 1 1 Try.underlying31 gi gz0 gz1 gz2 rfl (by decide) (Value.slice AX k cx) _ _ rfl (HO.out.alloc _) ⟨_, 0, none⟩ 1 1 [.int .u8 46] rfl rfl (cell_one_new _ _ _) (by intro u hu; simp at hu; subst hu; rfl) (by unfold maxLen; omega) (by omega) (by simp; omega) ?_
             intro v' wa hown' hga hdel hblk
             clear hdel hblk
             have hal : Below wr.heap.size wr (wr.alloc (.cells #[.int .u8 46] 5)) := (Below.refl _ _).alloc (Nat.le_refl _) _
             obtain ⟨g3, d3, hv, hg3, _⟩ := own_form hown' (by omega)
             subst hv
             have hbxa := (hbx.below hal).keep hga (fun e => by have := HXB.out gL e; omega)
             have hba : Below w.heap.size w wa := (HB.out.trans (hal.mono HB.out.size)).grown hga (by simp; have := HB.out.size; omega) (fun j hj => by have := HXB.out j hj; omega)
             rw [dots_snoc] at hown'
             have cf2 := hbxa.froz 0
             have cc2 := hbxa.cell 0
             simp at cc2)
          have hs2 := setCell_grown wa gL 0 (.slice (some ⟨g3, 0, none⟩) (k + 1) d3)
          have hb2 : Below w.heap.size w (wa.setCell ⟨gL, 0, none⟩ (.slice (some ⟨g3, 0, none⟩) (k + 1) d3)) := hba.setCell (show w.heap.size ≤ gL from hgw) _
          have hbx2 := hbxa.set 0 (.slice (some ⟨g3, 0, none⟩) (k + 1) d3) (by simp)
          have ho2 := own_other (g' := gL) hown' hs2 (by omega)
          have s8 : w3.heap.size ≤ (wa.setCell ⟨gL, 0, none⟩ (.slice (some ⟨g3, 0, none⟩) (k + 1) d3)).heap.size := by have := hga.size; simp at this; simp; omega
          have BX2 := Lib.hid hbx2
          have HO2 := Lib.hid ho2
          have HB2 := Lib.hid hb2
          clear hown' hga hal hbxa hba hs2 hb2 hbx2 ho2 hbx cc HO HB BX
          go_wp2
          go_roundw
          case rel => exact ⟨k + 1, some ⟨g3, 0, none⟩, d3, by omega, by go_num, BX2, HO2, s8, HB2⟩
          case measure => simp [intOf]; omega
        · have hkn : k = N := by omega
          subst hkn
          have HL := Lib.hid (show LnR gL w3.heap.size k wr 1 from .inr (.inl ⟨rfl, AX, cx, hbx, HO.out⟩))
          clear hbx HO BX
          go_wp2
          go_roundw
          case rel => exact ⟨1, by omega, by go_num, HL, s7, HB⟩
          case measure => simp [intOf]
    · clear HL
      go_wp2_with fail
      refine (HTM.out _ HB.out).mono ?_
      rintro e w6 ⟨rfl, hb6⟩
      have BX6 := Lib.hid (hbx.below hb6)
      have HB6 := Lib.hid (HB.out.trans (hb6.mono HB.out.size))
      have s6 : w3.heap.size ≤ w6.heap.size := Nat.le_trans s5 hb6.size
      obtain ⟨M, hM⟩ : ∃ M, M = w6.heap.size := ⟨_, rfl⟩
      have HA1 := Lib.hid (show OwnIn w6 w3.heap.size M 5 1 A1 N c1 (dots N) by
        have ho := own_below hoa hb6
        exact ⟨ho, fun g hg => by rw [hM]; exact (own_block ho g hg).2, by rw [hM]; exact Nat.le_refl _⟩)
      have hM1 : w3.heap.size ≤ M := by omega
      have s6 : M ≤ w6.heap.size := by omega
      clear hM
      clear hb6 hbx hoa HB
      go_wp2
      go_loopw [35] (fun vk wr => ∃ (k : Nat) (AX : Option Addr) (cx : Nat), k ≤ N ∧ vk = .int .i64 k ∧ Hid (Box wr gL #[.slice A1 N c1, .slice AX k cx]) ∧ Hid (wr.ownsRow M 5 1 (.slice AX k cx) k (dots k)) ∧ M ≤ wr.heap.size ∧ Hid (OwnIn wr w3.heap.size M 5 1 A1 N c1 (dots N)) ∧ Hid (Below w.heap.size w wr)) (fun vk _ => N - (intOf vk).toNat)
      case atStart => exact ⟨0, none, 0, Nat.zero_le _, rfl, BX6, Lib.hid (World.ownsRow_nil _ _ _ _), s6, HA1, HB6⟩
      case round =>
        clear BX6 HB6 s6 HA1
        obtain ⟨k, AX, cx, hk, rfl, BX, HO, s7, HA, HB⟩ := hrel
        have hbx := BX.out
        by_cases hkl : k < N
        · have hk0 : (0 : Int) ≤ (k : Int) := by omega
          have hk1 : (k : Int) < (N : Int) := by omega
          have cc := hbx.cell 1
          have cf := hbx.froz 1
          simp at cc
          have hcap := (Rd.of_own HO.out).cap
          have hmax := (Rd.of_own HO.out).max
          have hxb : ∀ g, (Value.slice AX k cx).ownBlock = some g → M ≤ g ∧ g < wr.heap.size := fun g hg => own_block HO.out g hg
          have HXB := Lib.hid hxb
          clear hxb
          go_wp2_with
            (at_builtin
             refine wpList_append_own_at _ rfl (.tmp 40) (.tmp 41) 31 rfl M 5 i8 (.int .u8 0) 1 1 Try.underlying31 gi gz0 gz1 gz2 rfl (by decide) (Value.slice AX k cx) _ _ rfl (HO.out.alloc _) ⟨_, 0, none⟩ 1 1 [.int .u8 46] rfl rfl (cell_one_new _ _ _) (by intro u hu; simp at hu; subst hu; rfl) (by unfold maxLen; omega) (by omega) (by simp; omega) ?_
             intro v' wa hown' hga hdel hblk
             clear hdel hblk
             have hal : Below wr.heap.size wr (wr.alloc (.cells #[.int .u8 46] 5)) := (Below.refl _ _).alloc (Nat.le_refl _) _
             obtain ⟨g3, d3, hv, hg3, _⟩ := own_form hown' (by omega)
             subst hv
             have hbxa := (hbx.below hal).keep hga (fun e => by have := HXB.out gL e; omega)
             have hba : Below w.heap.size w wa := (HB.out.trans (hal.mono HB.out.size)).grown hga (by simp; have := HB.out.size; omega) (fun j hj => by have := HXB.out j hj; omega)
             rw [dots_snoc] at hown'
             have HAa := (HA.out.below hal).keepR hga (fun g e => .inr (HXB.out g e).1)
             have cf2 := hbxa.froz 1
             have cc2 := hbxa.cell 1
             simp at cc2)
          have hs2 := setCell_grown wa gL 1 (.slice (some ⟨g3, 0, none⟩) (k + 1) d3)
          have hb2 : Below w.heap.size w (wa.setCell ⟨gL, 1, none⟩ (.slice (some ⟨g3, 0, none⟩) (k + 1) d3)) := hba.setCell (show w.heap.size ≤ gL from hgw) _
          have hbx2 := hbxa.set 1 (.slice (some ⟨g3, 0, none⟩) (k + 1) d3) (by simp)
          have ho2 := own_other (g' := gL) hown' hs2 (by omega)
          have s8 : M ≤ (wa.setCell ⟨gL, 1, none⟩ (.slice (some ⟨g3, 0, none⟩) (k + 1) d3)).heap.size := by have := hga.size; simp at this; simp; omega
          have HA2 := Lib.hid (HAa.keepR hs2 (fun g e => by injection e with e; left; omega))
          have BX2 := Lib.hid hbx2
          have HO2 := Lib.hid ho2
          have HB2 := Lib.hid hb2
          clear hown' hga hal hbxa hba hs2 hb2 hbx2 ho2 hbx cc HO HB BX HA HAa
          go_wp2
          go_roundw
          case rel => exact ⟨k + 1, some ⟨g3, 0, none⟩, d3, by omega, by go_num, BX2, HO2, s8, HA2, HB2⟩
          case measure => simp [intOf]; omega
        · have hkn : k = N := by omega
          subst hkn
          have HL := Lib.hid (show LnR gL w3.heap.size k wr 2 from .inr (.inr ⟨rfl, A1, c1, AX, cx, M, hbx, HA.out, HO.out⟩))
          have s7 : w3.heap.size ≤ wr.heap.size := by omega
          clear hbx HO BX
          go_wp2
          go_roundw
          case rel => exact ⟨2, by omega, by go_num, HL, s7, HB⟩
          case measure => simp [intOf]
    · clear HL
      obtain ⟨w7, rfl⟩ : ∃ w', w' = wr := ⟨_, rfl⟩
      have hMl := hoa.le
      have r1 := row_of_own (F := FA 0) hoa.own HA0.out
      have r2 := row_of_own (F := FB 0) hob HB0.out
      have hap : ∀ p, A1 = some ⟨p, 0, none⟩ → w3.heap.size ≤ p ∧ p < M := fun p hp => by subst hp; exact ⟨(own_block hoa.own p rfl).1, hoa.top p rfl⟩
      have hbp : ∀ p, A2 = some ⟨p, 0, none⟩ → M ≤ p ∧ p < w7.heap.size := fun p hp => by subst hp; exact own_block hob p rfl
      have hM3 : N = 0 ∨ w3.heap.size ≤ M := by
        rcases Nat.eq_zero_or_pos N with h0 | h0
        · exact .inl h0
        · obtain ⟨p, hp, _⟩ := own_form0 hoa.own h0
          have := hap p hp
          exact .inr (by omega)
      have hc1 := (Rd.of_own hoa.own).cap
      have hm1 := (Rd.of_own hoa.own).max
      have hc2 := (Rd.of_own hob).cap
      have hm2 := (Rd.of_own hob).max
      have HAP := Lib.hid hap
      have HBP := Lib.hid hbp
      have HX := Lib.hid hbx
      have HR1 := Lib.hid r1
      have HR2 := Lib.hid r2
      clear hoa hob r1 r2 hap hbp hbx
      go_wp2_with fail
      refine (HRN.out _ HB.out).mono ?_
      rintro e w8 ⟨g1, g2, rfl, hgne, q1, q2, hb8⟩
      have hq1 := own_block q1 g1 rfl
      have hq2 := own_block q2 g2 rfl
      have HO1 := Lib.hid q1
      have HO2 := Lib.hid q2
      have HX8 := Lib.hid (HX.out.below hb8)
      have HR18 := Lib.hid (HR1.out.below hb8)
      have HR28 := Lib.hid (HR2.out.below hb8)
      have HB8 := Lib.hid (HB.out.trans (hb8.mono HB.out.size))
      have s8 := hb8.size
      have s8w := HB8.out.size
      clear q1 q2 hb8 HX HR1 HR2 HB
      go_wp2
      go_loopw [54] (fun vi wr => ∃ i : Nat, i ≤ m ∧ vi = .int .i64 i ∧ Hid (RowH wr A1 N (FA i)) ∧ Hid (RowH wr A2 N (FB i)) ∧ Hid (Box wr gL #[.slice A1 N c1, .slice A2 N c2]) ∧ Hid (wr.ownsRow w7.heap.size 2 1 (.slice (some ⟨g1, 0, none⟩) m m) m (ints T.F)) ∧ Hid (wr.ownsRow w7.heap.size 2 1 (.slice (some ⟨g2, 0, none⟩) m m) m (ints T.S)) ∧ Hid (Below w.heap.size w wr)) (fun vi _ => m - (intOf vi).toNat)
      case atStart => exact ⟨0, Nat.zero_le _, rfl, HR18, HR28, HX8, HO1, HO2, HB8⟩
      case round =>
        clear HR18 HR28 HX8 HO1 HO2 HB8
        obtain ⟨i, him, rfl, HR1, HR2, HX, HO1, HO2, HB⟩ := hrel
        obtain ⟨wi, rfl⟩ : ∃ w', w' = wr := ⟨_, rfl⟩
        by_cases hil : i < m
        · have hi0 : (0 : Int) ≤ (i : Int) := by omega
          have hi1 : (i : Int) < (m : Int) := by omega
          obtain ⟨b, o, x, y, hAe, hbl, hx, c0, c1'⟩ := (HA.out.below HB.out).pair hil
          subst hAe
          have hpj := HJ.out i _ hx
          simp only at hpj
          obtain ⟨e1, e2, e3, e4⟩ := HLH.out i x y hx 0
          have hfit := HFI.out i hil
          have hf0 := hfit.f0
          have hfb := hfit.fb
          have hss := hfit.s
          have hsb := hfit.sb
          rw [pair_at hx] at hss
          rw [e1] at hf0
          rw [hN] at hsb
          simp only at hss
          have hasy := fun t => HAS.out i t
          have hbsy := fun t => HBS.out i t
          simp only [e1, e2] at hasy
          simp only [e3, e4] at hbsy
          obtain ⟨f, hfv⟩ := Int.eq_ofNat_of_zero_le (show 0 ≤ T.F.getD i 0 by omega)
          obtain ⟨s, hsv⟩ := Int.eq_ofNat_of_zero_le (show 0 ≤ T.S.getD i 0 by omega)
          obtain ⟨lo, hlv⟩ := Int.eq_ofNat_of_zero_le hf0
          obtain ⟨bl, hbv⟩ := Int.eq_ofNat_of_zero_le (show 0 ≤ T.B.getD i 0 by omega)
          rw [hfv] at hlv hasy hfb
          rw [hbv] at hbsy hss hfb
          rw [hsv] at hss hsb
          have HFV := Lib.hid hfv
          have HSV := Lib.hid hsv
          have hfN : f ≤ N := by omega
          have hsN : s ≤ N := by omega
          have hlf : (lo : Int) = (f : Int) - x := hlv.symm
          have hbs : (bl : Int) = (s : Int) - y := by omega
          have hN0 : 0 < N := by omega
          have HASY := Lib.hid hasy
          have HBSY := Lib.hid hbsy
          obtain ⟨p1, hA1⟩ : ∃ p1, A1 = some ⟨p1, 0, none⟩ := by
            rcases HR1.out with ⟨_, h0⟩ | ⟨p, hp, _⟩
            · omega
            · exact ⟨p, hp⟩
          obtain ⟨p2, hA2⟩ : ∃ p2, A2 = some ⟨p2, 0, none⟩ := by
            rcases HR2.out with ⟨_, h0⟩ | ⟨p, hp, _⟩
            · omega
            · exact ⟨p, hp⟩
          have hb1 := HAP.out p1 hA1
          have hb2 := HBP.out p2 hA2
          subst hA1
          subst hA2
          have hr1 : p1 < wi.heap.size ∧ HoldsF wi p1 N (FA i) := by
            rcases HR1.out with ⟨h0, _⟩ | ⟨p, hp, h⟩
            · cases h0
            · cases hp; exact h
          have hr2 : p2 < wi.heap.size ∧ HoldsF wi p2 N (FB i) := by
            rcases HR2.out with ⟨h0, _⟩ | ⟨p, hp, h⟩
            · cases h0
            · cases hp; exact h
          have hpn0 : p1 ≠ p2 := by omega
          have hpn1 : p2 ≠ p1 := by omega
          obtain ⟨wj, hvj⟩ : ∃ w', w' = wi.alloc (.cells #[.int .i64 x, .int .i64 y] 46) := ⟨_, rfl⟩
          have bwj : Below wi.heap.size wi wj := by rw [hvj]; exact (Below.refl _ _).alloc (Nat.le_refl _) _
          have HJ0 := Lib.hid (show Box wj wi.heap.size #[.int .i64 x, .int .i64 y] by rw [hvj]; exact Box.new wi _ _)
          have hgj : wi.heap.size < wj.heap.size := by rw [hvj]; simp
          have swi := HB.out.size
          have HX0 := Lib.hid (HX.out.below bwj)
          have HO1' := Lib.hid (own_below HO1.out bwj)
          have HO2' := Lib.hid (own_below HO2.out bwj)
          have HBc := Lib.hid (HB.out.trans (bwj.mono swi))
          have HP00 := Lib.hid (((hr1.2).below hr1.1 bwj).congr (G := fun t => if lo ≤ t ∧ t < lo then 97 + (i : Int) else FA i t) (fun j _ => (if_neg (by omega)).symm))
          have HQ00 := Lib.hid ((hr2.2).below hr2.1 bwj)
          have hl1 : p1 < wj.heap.size := by omega
          have hl2 : p2 < wj.heap.size := by omega
          have hj1 : p1 ≠ wi.heap.size := by omega
          have hj2 : p2 ≠ wi.heap.size := by omega
          clear hx e1 e2 e3 e4 hfit hf0 hfb hss hsb hasy hbsy hfv hsv hlv hbv HR1 HR2 HX HO1 HO2 HB hr1 hr2 bwj hbl
          have HO1 := HO1'
          have HO2 := HO2'
          clear HO1' HO2'
          go_upto_region 19 with fail
          rw [← hvj]
          clear hvj c0 c1'
          generalize wi.heap.size = gj at *
          have ck0 := own_int HO1.out (i := i) (by omega) HTF.out
          rw [HFV.out] at ck0
          have cj0 := HJ0.out.cell 0
          simp at cj0
          go_wp2
          go_quiet (fail)
          have HJ0 := Lib.hid (HJ0.out.below (below_drewN (Below.refl _ _) nq))
          have HX0 := Lib.hid (HX0.out.below (below_drewN (Below.refl _ _) nq))
          have HO1 := Lib.hid (own_below HO1.out (below_drewN (Below.refl _ _) nq))
          have HO2 := Lib.hid (own_below HO2.out (below_drewN (Below.refl _ _) nq))
          have HBc := Lib.hid (below_drewN HBc.out nq)
          have HP00 := Lib.hid (HP00.out.drewN nq)
          have HQ00 := Lib.hid (HQ00.out.drewN nq)
          have hl1 : p1 < (wj.drewN nq).heap.size := hl1
          have hl2 : p2 < (wj.drewN nq).heap.size := hl2
          generalize wj.drewN nq = wk at *
          clear ck0 cj0
          go_wp2
          (try rw [← hlf])
          go_loopw [14] (fun vk wr => ∃ k : Nat, lo ≤ k ∧ k ≤ f ∧ vk = .int .i64 k ∧ Hid (HoldsF wr p1 N (fun t => if lo ≤ t ∧ t < k then 97 + (i : Int) else FA i t)) ∧ Hid (HoldsF wr p2 N (FB i)) ∧ Hid (Box wr gL #[.slice (some ⟨p1, 0, none⟩) N c1, .slice (some ⟨p2, 0, none⟩) N c2]) ∧ Hid (wr.ownsRow w7.heap.size 2 1 (.slice (some ⟨g1, 0, none⟩) m m) m (ints T.F)) ∧ Hid (wr.ownsRow w7.heap.size 2 1 (.slice (some ⟨g2, 0, none⟩) m m) m (ints T.S)) ∧ Hid (Box wr gj #[.int .i64 x, .int .i64 y]) ∧ p1 < wr.heap.size ∧ p2 < wr.heap.size ∧ Hid (Below w.heap.size w wr)) (fun vk _ => f - (intOf vk).toNat)
          case atStart => exact ⟨lo, Nat.le_refl _, by omega, rfl, HP00, HQ00, HX0, HO1, HO2, HJ0, hl1, hl2, HBc⟩
          case round =>
            clear HP00 HQ00 HX0 HO1 HO2 HJ0 hl1 hl2 HBc
            obtain ⟨k, hk1, hk2, rfl, HP, HQ, HX0, HO1, HO2, HJ0, hl1, hl2, HBc⟩ := hrel
            have ck := own_int HO1.out (i := i) (by omega) HTF.out
            rw [HFV.out] at ck
            have cl := HX0.out.cell 0
            simp at cl
            by_cases hkl : k < f
            · have hkN : k < N := by omega
              have hk0 : (0 : Int) ≤ (k : Int) := by omega
              have hkI : (k : Int) < (N : Int) := by omega
              have hkI2 : (k : Int) < (f : Int) := by omega
              have hold := (HP.out k hkN).1
              have hfr := (HP.out k hkN).2
              have hgs := setCell_grown wr p1 k (.int .u8 (97 + (i : Int)))
              have HP2 := Lib.hid ((HP.out.set hkN (97 + (i : Int))).congr (G := fun t => if lo ≤ t ∧ t < k + 1 then 97 + (i : Int) else FA i t) (fun j _ => by
                by_cases e : j = k
                · rw [if_pos e, if_pos (by omega)]
                · rw [if_neg e]
                  by_cases hh : lo ≤ j ∧ j < k
                  · rw [if_pos hh, if_pos (by omega)]
                  · rw [if_neg hh, if_neg (by omega)]))
              have HQ2 := Lib.hid (HQ.out.far (g' := p1) (x := k) hpn0 (.int .u8 (97 + (i : Int))))
              have HX2 := Lib.hid (HX0.out.keep hgs (fun e => by injection e with e; omega))
              have HJ2 := Lib.hid (HJ0.out.keep hgs (fun e => by injection e with e; omega))
              have HO12 := Lib.hid (own_other (g' := p1) HO1.out hgs (by omega))
              have HO22 := Lib.hid (own_other (g' := p1) HO2.out hgs (by omega))
              have HB2 := Lib.hid (HBc.out.setCell (p := ⟨p1, k, none⟩) (show w.heap.size ≤ p1 by omega) (.int .u8 (97 + (i : Int))))
              clear hgs HP HQ HX0 HJ0 HO1 HO2 HBc
              go_wp2
              go_roundw
              case rel => exact ⟨k + 1, by omega, by omega, by go_num, HP2, HQ2, HX2, HO12, HO22, HJ2, (by simpa using hl1), (by simpa using hl2), HB2⟩
              case measure => simp [intOf]; omega
            · have hkf : k = f := by omega
              subst hkf
              have HQ10 := Lib.hid (HP.out.congr (G := FA (i + 1)) (fun j _ => by
                by_cases hh : lo ≤ j ∧ j < k
                · rw [if_pos hh]; exact ((HASY.out j).1 ⟨by omega, by omega⟩).symm
                · rw [if_neg hh]; exact ((HASY.out j).2 (fun h => hh ⟨by omega, by omega⟩)).symm))
              have HP10 := Lib.hid (HQ.out.congr (G := fun t => if bl ≤ t ∧ t < bl then 97 + (i : Int) else FB i t) (fun j _ => (if_neg (by omega)).symm))
              clear HP HQ cl ck
              have ck0 := own_int HO2.out (i := i) (by omega) HTS.out
              rw [HSV.out] at ck0
              have cj0 := HJ0.out.cell 1
              simp at cj0
              have ckf := own_int HO1.out (i := i) (by omega) HTF.out
              rw [HFV.out] at ckf
              go_wp2
              go_quiet (fail)
              have HJ0 := Lib.hid (HJ0.out.below (below_drewN (Below.refl _ _) nq))
              have HX0 := Lib.hid (HX0.out.below (below_drewN (Below.refl _ _) nq))
              have HO1 := Lib.hid (own_below HO1.out (below_drewN (Below.refl _ _) nq))
              have HO2 := Lib.hid (own_below HO2.out (below_drewN (Below.refl _ _) nq))
              have HBc := Lib.hid (below_drewN HBc.out nq)
              have HP10 := Lib.hid (HP10.out.drewN nq)
              have HQ10 := Lib.hid (HQ10.out.drewN nq)
              have hl1 : p1 < (wr.drewN nq).heap.size := hl1
              have hl2 : p2 < (wr.drewN nq).heap.size := hl2
              generalize wr.drewN nq = wk2 at *
              clear ck0 cj0 ckf
              go_wp2
              (try rw [← hbs])
              go_loopw [15] (fun vk wr => ∃ k : Nat, bl ≤ k ∧ k ≤ s ∧ vk = .int .i64 k ∧ Hid (HoldsF wr p2 N (fun t => if bl ≤ t ∧ t < k then 97 + (i : Int) else FB i t)) ∧ Hid (HoldsF wr p1 N (FA (i + 1))) ∧ Hid (Box wr gL #[.slice (some ⟨p1, 0, none⟩) N c1, .slice (some ⟨p2, 0, none⟩) N c2]) ∧ Hid (wr.ownsRow w7.heap.size 2 1 (.slice (some ⟨g1, 0, none⟩) m m) m (ints T.F)) ∧ Hid (wr.ownsRow w7.heap.size 2 1 (.slice (some ⟨g2, 0, none⟩) m m) m (ints T.S)) ∧ Hid (Box wr gj #[.int .i64 x, .int .i64 y]) ∧ p1 < wr.heap.size ∧ p2 < wr.heap.size ∧ Hid (Below w.heap.size w wr)) (fun vk _ => s - (intOf vk).toNat)
              case atStart => exact ⟨bl, Nat.le_refl _, by omega, rfl, HP10, HQ10, HX0, HO1, HO2, HJ0, hl1, hl2, HBc⟩
              case round =>
                clear HP10 HQ10 HX0 HO1 HO2 HJ0 hl1 hl2 HBc
                obtain ⟨k, hk1, hk2, rfl, HP, HQ, HX0, HO1, HO2, HJ0, hl1, hl2, HBc⟩ := hrel
                have ck := own_int HO2.out (i := i) (by omega) HTS.out
                rw [HSV.out] at ck
                have cl := HX0.out.cell 1
                simp at cl
                by_cases hkl : k < s
                · have hkN : k < N := by omega
                  have hk0 : (0 : Int) ≤ (k : Int) := by omega
                  have hkI : (k : Int) < (N : Int) := by omega
                  have hkI2 : (k : Int) < (s : Int) := by omega
                  have hold := (HP.out k hkN).1
                  have hfr := (HP.out k hkN).2
                  have hgs := setCell_grown wr p2 k (.int .u8 (97 + (i : Int)))
                  have HP2 := Lib.hid ((HP.out.set hkN (97 + (i : Int))).congr (G := fun t => if bl ≤ t ∧ t < k + 1 then 97 + (i : Int) else FB i t) (fun j _ => by
                    by_cases e : j = k
                    · rw [if_pos e, if_pos (by omega)]
                    · rw [if_neg e]
                      by_cases hh : bl ≤ j ∧ j < k
                      · rw [if_pos hh, if_pos (by omega)]
                      · rw [if_neg hh, if_neg (by omega)]))
                  have HQ2 := Lib.hid (HQ.out.far (g' := p2) (x := k) hpn1 (.int .u8 (97 + (i : Int))))
                  have HX2 := Lib.hid (HX0.out.keep hgs (fun e => by injection e with e; omega))
                  have HJ2 := Lib.hid (HJ0.out.keep hgs (fun e => by injection e with e; omega))
                  have HO12 := Lib.hid (own_other (g' := p2) HO1.out hgs (by omega))
                  have HO22 := Lib.hid (own_other (g' := p2) HO2.out hgs (by omega))
                  have HB2 := Lib.hid (HBc.out.setCell (p := ⟨p2, k, none⟩) (show w.heap.size ≤ p2 by omega) (.int .u8 (97 + (i : Int))))
                  clear hgs HP HQ HX0 HJ0 HO1 HO2 HBc
                  go_wp2
                  go_roundw
                  case rel => exact ⟨k + 1, by omega, by omega, by go_num, HP2, HQ2, HX2, HO12, HO22, HJ2, (by simpa using hl1), (by simpa using hl2), HB2⟩
                  case measure => simp [intOf]; omega
                · have hkf : k = s := by omega
                  subst hkf
                  have HR2n := Lib.hid (show RowH wr (some ⟨p2, 0, none⟩) N (FB (i + 1)) from .inr ⟨p2, rfl, hl2, HP.out.congr (fun j _ => by
                    by_cases hh : bl ≤ j ∧ j < k
                    · rw [if_pos hh]; exact ((HBSY.out j).1 ⟨by omega, by omega⟩).symm
                    · rw [if_neg hh]; exact ((HBSY.out j).2 (fun h => hh ⟨by omega, by omega⟩)).symm)⟩)
                  have HR1n := Lib.hid (show RowH wr (some ⟨p1, 0, none⟩) N (FA (i + 1)) from .inr ⟨p1, rfl, hl1, HQ.out⟩)
                  clear HP HQ cl
                  go_wp2
                  go_roundw
                  case rel => exact ⟨i + 1, by omega, by go_num, HR1n, HR2n, HX0, HO1, HO2, HBc⟩
                  case measure => simp [intOf]; omega
        · have him2 : i = m := by omega
          subst him2
          have hv1 := conv_row (c := c1) HR1.out
          have hv2 := conv_row (c := c2) HR2.out
          generalize strOfNums (rowF 0 N (FA i)) = S1 at *
          generalize strOfNums (rowF 0 N (FB i)) = S2 at *
          have l0 := HX.out.cell 0
          have l1 := HX.out.cell 1
          simp at l0 l1
          clear HR1 HR2 HX
          go_wp2
          go_ret2
          refine ⟨_, _, _, rfl, ?_, HB.out.alloc HB.out.size _⟩
          exact World.ownsRow_lit (e := 9) (size := 1) wi #[.string S1, .string S2] 2 HB.out.size (by unfold maxLen; omega) rfl
set_option maxRecDepth 100000 in
set_option maxHeartbeats 8000000 in
theorem law_ChartLines (A : Option Addr) (n c : Nat) (ps : List (Int × Int)) (B : Option Addr) (m d : Nat) (os : List Int) (w : World) (hA : Rd w 2 A n c (pr ps)) (hB : Rd w 1 B m d (ints os)) :
    Calls Try.prog 15 #[.slice A n c, .slice B m d] w fun e w' => e = .returned (.bool true) ∧ Below w.heap.size w w' := by
  have eA1 := hA.cap
  have eA2 := hA.max
  have eB1 := hB.cap
  have eB2 := hB.max
  have lA := hA.plen
  have lB := hB.ilen
  have hsp := fun A n c B m d W h1 h2 => specChart_any A n c ps B m d os W h1 h2
  have him := fun A n c B m d W h1 h2 hm => implChart_any A n c ps B m d os W h1 h2 hm
  have hlen := chZ_len ps os
  generalize (chZ ps os).1 = R at *
  generalize (chZ ps os).2 = z at *
  have HA := Lib.hid hA
  have HB := Lib.hid hB
  have HSP := Lib.hid hsp
  have HIM := Lib.hid him
  clear hA hB hsp him lA lB
  by_cases gB : (1048576 : Int) < (m : Int)
  · go_enter Try.func15, Try.ntmps15
    go_wp2
    go_ret
    exact ⟨rfl, Below.refl _ _⟩
  by_cases gA : (1048576 : Int) < (n : Int)
  · go_enter Try.func15, Try.ntmps15
    go_wp2_with fail
    refine (szPrS_any _ _ _ _ _ (by omega) (by omega) (by omega)).mono ?_
    rw [if_pos (by omega)]
    rintro e w' ⟨rfl, rfl⟩
    go_wp2
    go_ret
    exact ⟨rfl, Below.refl _ _⟩
  have b0 : Below w.heap.size w w := Below.refl _ _
  go_enter Try.func15, Try.ntmps15
  go_wp2_with fail
  refine (szPrS_any _ _ _ _ _ (by omega) (by omega) (by omega)).mono ?_
  rw [if_neg (by omega)]
  rintro e w' ⟨rfl, rfl⟩
  have sA : ¬ 1048576 - (n : Int) < 0 := by omega
  go_wp2_with fail
  refine (toPrS_any A n c ps _ (HA.out.below b0) (by omega)).mono ?_
  rintro e w1 ⟨gt0, rfl, ho, hb1⟩
  have b1 : Below w.heap.size w w1 := b0.trans (hb1.mono b0.size)
  have s1 := hb1.size
  have Ot01 := Lib.hid (OwnIn.new ho)
  clear hb1 ho
  go_wp2_with fail
  refine (toInt64S_any B m d os _ (HB.out.below b1) (by omega)).mono ?_
  rintro e w2 ⟨gt1, rfl, ho, hb2⟩
  have b2 : Below w.heap.size w w2 := b1.trans (hb2.mono b1.size)
  have s2 := hb2.size
  have Ot02 := Lib.hid (Ot01.out.below hb2)
  have Ot12 := Lib.hid (OwnIn.new ho)
  clear hb2 Ot01 ho
  go_wp2_with fail
  refine (HSP.out _ _ _ _ _ _ _ Ot02.out.rd Ot12.out.rd).mono ?_
  rintro e w3 ⟨Aw, nw, cw, rfl, ho, hb3⟩
  have b3 : Below w.heap.size w w3 := b2.trans (hb3.mono b2.size)
  have s3 := hb3.size
  have Ot03 := Lib.hid (Ot02.out.below hb3)
  have Ot13 := Lib.hid (Ot12.out.below hb3)
  have Ow3 := Lib.hid (OwnIn.new ho)
  clear hb3 Ot02 Ot12 ho
  go_wp2_with fail
  refine (toPrS_any A n c ps _ (HA.out.below b3) (by omega)).mono ?_
  rintro e w4 ⟨gx0, rfl, ho, hb4⟩
  have b4 : Below w.heap.size w w4 := b3.trans (hb4.mono b3.size)
  have s4 := hb4.size
  have Ot04 := Lib.hid (Ot03.out.below hb4)
  have Ot14 := Lib.hid (Ot13.out.below hb4)
  have Ow4 := Lib.hid (Ow3.out.below hb4)
  have Ox04 := Lib.hid (OwnIn.new ho)
  clear hb4 Ot03 Ot13 Ow3 ho
  go_wp2_with fail
  refine (toInt64S_any B m d os _ (HB.out.below b4) (by omega)).mono ?_
  rintro e w5 ⟨gx1, rfl, ho, hb5⟩
  have b5 : Below w.heap.size w w5 := b4.trans (hb5.mono b4.size)
  have s5 := hb5.size
  have Ot05 := Lib.hid (Ot04.out.below hb5)
  have Ot15 := Lib.hid (Ot14.out.below hb5)
  have Ow5 := Lib.hid (Ow4.out.below hb5)
  have Ox05 := Lib.hid (Ox04.out.below hb5)
  have Ox15 := Lib.hid (OwnIn.new ho)
  clear hb5 Ot04 Ot14 Ow4 Ox04 ho
  go_wp2_with fail
  refine (HIM.out _ _ _ _ _ _ _ Ox05.out.rd Ox15.out.rd (by omega)).mono ?_
  rintro e w6 ⟨Ag, ng, cg, rfl, ho, hb6⟩
  have b6 : Below w.heap.size w w6 := b5.trans (hb6.mono b5.size)
  have s6 := hb6.size
  have Ot06 := Lib.hid (Ot05.out.below hb6)
  have Ot16 := Lib.hid (Ot15.out.below hb6)
  have Ow6 := Lib.hid (Ow5.out.below hb6)
  have Ox06 := Lib.hid (Ox05.out.below hb6)
  have Ox16 := Lib.hid (Ox15.out.below hb6)
  have Og6 := Lib.hid (OwnIn.new ho)
  clear hb6 Ot05 Ot15 Ow5 Ox05 Ox15 ho
  have lg := Og6.out.tlen
  go_wp2_with fail
  refine (eqStringS_any _ _ _ _ _ _ R _ Og6.out.rd Ow6.out.rd).mono ?_
  rintro e w7 ⟨rfl, hb7⟩
  have b7 : Below w.heap.size w w7 := b6.trans (hb7.mono b6.size)
  have s7 := hb7.size
  have Ot07 := Lib.hid (Ot06.out.below hb7)
  have Ot17 := Lib.hid (Ot16.out.below hb7)
  have Ow7 := Lib.hid (Ow6.out.below hb7)
  have Ox07 := Lib.hid (Ox06.out.below hb7)
  have Ox17 := Lib.hid (Ox16.out.below hb7)
  have Og7 := Lib.hid (Og6.out.below hb7)
  clear hb7 Ot06 Ot16 Ow6 Ox06 Ox16 Og6
  go_wp2_with fail
  refine (toPrS_any A n c ps _ (HA.out.below b7) (by omega)).mono ?_
  rintro e w8 ⟨gy0, rfl, ho, hb8⟩
  have b8 : Below w.heap.size w w8 := b7.trans (hb8.mono b7.size)
  have s8 := hb8.size
  have Ot08 := Lib.hid (Ot07.out.below hb8)
  have Ot18 := Lib.hid (Ot17.out.below hb8)
  have Ow8 := Lib.hid (Ow7.out.below hb8)
  have Ox08 := Lib.hid (Ox07.out.below hb8)
  have Ox18 := Lib.hid (Ox17.out.below hb8)
  have Og8 := Lib.hid (Og7.out.below hb8)
  have Oy08 := Lib.hid (OwnIn.new ho)
  clear hb8 Ot07 Ot17 Ow7 Ox07 Ox17 Og7 ho
  go_wp2_with fail
  refine (eqPrS_any _ _ _ ps _ _ _ ps _ Ox08.out.rd Oy08.out.rd).mono ?_
  rw [eqG_self]
  rintro e w9 ⟨rfl, hb9⟩
  have b9 : Below w.heap.size w w9 := b8.trans (hb9.mono b8.size)
  have s9 := hb9.size
  have Ot09 := Lib.hid (Ot08.out.below hb9)
  have Ot19 := Lib.hid (Ot18.out.below hb9)
  have Ow9 := Lib.hid (Ow8.out.below hb9)
  have Ox09 := Lib.hid (Ox08.out.below hb9)
  have Ox19 := Lib.hid (Ox18.out.below hb9)
  have Og9 := Lib.hid (Og8.out.below hb9)
  have Oy09 := Lib.hid (Oy08.out.below hb9)
  clear hb9 Ot08 Ot18 Ow8 Ox08 Ox18 Og8 Oy08
  go_wp2_with fail
  refine (toInt64S_any B m d os _ (HB.out.below b9) (by omega)).mono ?_
  rintro e w10 ⟨gy1, rfl, ho, hb10⟩
  have b10 : Below w.heap.size w w10 := b9.trans (hb10.mono b9.size)
  have s10 := hb10.size
  have Ot010 := Lib.hid (Ot09.out.below hb10)
  have Ot110 := Lib.hid (Ot19.out.below hb10)
  have Ow10 := Lib.hid (Ow9.out.below hb10)
  have Ox010 := Lib.hid (Ox09.out.below hb10)
  have Ox110 := Lib.hid (Ox19.out.below hb10)
  have Og10 := Lib.hid (Og9.out.below hb10)
  have Oy010 := Lib.hid (Oy09.out.below hb10)
  have Oy110 := Lib.hid (OwnIn.new ho)
  clear hb10 Ot09 Ot19 Ow9 Ox09 Ox19 Og9 Oy09 ho
  go_wp2_with fail
  refine (eqInt64S_any _ _ _ os _ _ _ os _ Ox110.out.rd Oy110.out.rd).mono ?_
  rw [eqL_self]
  rintro e w11 ⟨rfl, hb11⟩
  have b11 : Below w.heap.size w w11 := b10.trans (hb11.mono b10.size)
  have s11 := hb11.size
  have Ot011 := Lib.hid (Ot010.out.below hb11)
  have Ot111 := Lib.hid (Ot110.out.below hb11)
  have Ow11 := Lib.hid (Ow10.out.below hb11)
  have Ox011 := Lib.hid (Ox010.out.below hb11)
  have Ox111 := Lib.hid (Ox110.out.below hb11)
  have Og11 := Lib.hid (Og10.out.below hb11)
  have Oy011 := Lib.hid (Oy010.out.below hb11)
  have Oy111 := Lib.hid (Oy110.out.below hb11)
  clear hb11 Ot010 Ot110 Ow10 Ox010 Ox110 Og10 Oy010 Oy110
  go_wp2_with fail
  refine (markPrS_any _ _ _ _ ps _ _ Ox011.out.own (by omega) (by omega)).mono ?_
  rintro e w12 ⟨rfl, ho, hg⟩
  have b12 : Below w.heap.size w w12 := Ox011.out.base b11 hg (by omega) (Nat.le_refl _)
  have s12 := hg.size
  have Ot012 := Lib.hid (Ot011.out.other Ox011.out hg (by omega))
  have Ot112 := Lib.hid (Ot111.out.other Ox011.out hg (by omega))
  have Ow12 := Lib.hid (Ow11.out.other Ox011.out hg (by omega))
  have Ox012 := Lib.hid (Ox011.out.self ho hg)
  have Ox112 := Lib.hid (Ox111.out.other Ox011.out hg (by omega))
  have Og12 := Lib.hid (Og11.out.other Ox011.out hg (by omega))
  have Oy012 := Lib.hid (Oy011.out.other Ox011.out hg (by omega))
  have Oy112 := Lib.hid (Oy111.out.other Ox011.out hg (by omega))
  clear ho hg Ot011 Ot111 Ow11 Ox011 Ox111 Og11 Oy011 Oy111
  go_wp2_with fail
  refine (markInt64S_any _ _ _ _ os _ _ Ox112.out.own (by omega) (by omega)).mono ?_
  rintro e w13 ⟨rfl, ho, hg⟩
  have b13 : Below w.heap.size w w13 := Ox112.out.base b12 hg (by omega) (Nat.le_refl _)
  have s13 := hg.size
  have Ot013 := Lib.hid (Ot012.out.other Ox112.out hg (by omega))
  have Ot113 := Lib.hid (Ot112.out.other Ox112.out hg (by omega))
  have Ow13 := Lib.hid (Ow12.out.other Ox112.out hg (by omega))
  have Ox013 := Lib.hid (Ox012.out.other Ox112.out hg (by omega))
  have Ox113 := Lib.hid (Ox112.out.self ho hg)
  have Og13 := Lib.hid (Og12.out.other Ox112.out hg (by omega))
  have Oy013 := Lib.hid (Oy012.out.other Ox112.out hg (by omega))
  have Oy113 := Lib.hid (Oy112.out.other Ox112.out hg (by omega))
  clear ho hg Ot012 Ot112 Ow12 Ox012 Ox112 Og12 Oy012 Oy112
  go_wp2_with fail
  refine (eqStringS_any _ _ _ _ _ _ R _ Og13.out.rd Ow13.out.rd).mono ?_
  rintro e w14 ⟨rfl, hb14⟩
  have b14 : Below w.heap.size w w14 := b13.trans (hb14.mono b13.size)
  have s14 := hb14.size
  have Ot014 := Lib.hid (Ot013.out.below hb14)
  have Ot114 := Lib.hid (Ot113.out.below hb14)
  have Ow14 := Lib.hid (Ow13.out.below hb14)
  have Ox014 := Lib.hid (Ox013.out.below hb14)
  have Ox114 := Lib.hid (Ox113.out.below hb14)
  have Og14 := Lib.hid (Og13.out.below hb14)
  have Oy014 := Lib.hid (Oy013.out.below hb14)
  have Oy114 := Lib.hid (Oy113.out.below hb14)
  clear hb14 Ot013 Ot113 Ow13 Ox013 Ox113 Og13 Oy013 Oy113
  go_wp2_with fail
  refine (markStringS_any _ _ _ _ R 1 _ Og14.out.own (by omega) (by omega)).mono ?_
  rintro e w15 ⟨rfl, ho, hg⟩
  have b15 : Below w.heap.size w w15 := Og14.out.base b14 hg (by omega) (Nat.le_refl _)
  have s15 := hg.size
  have Ot015 := Lib.hid (Ot014.out.other Og14.out hg (by omega))
  have Ot115 := Lib.hid (Ot114.out.other Og14.out hg (by omega))
  have Ow15 := Lib.hid (Ow14.out.other Og14.out hg (by omega))
  have Ox015 := Lib.hid (Ox014.out.other Og14.out hg (by omega))
  have Ox115 := Lib.hid (Ox114.out.other Og14.out hg (by omega))
  have Og15 := Lib.hid (Og14.out.self ho hg)
  have Oy015 := Lib.hid (Oy014.out.other Og14.out hg (by omega))
  have Oy115 := Lib.hid (Oy114.out.other Og14.out hg (by omega))
  clear ho hg Ot014 Ot114 Ow14 Ox014 Ox114 Og14 Oy014 Oy114
  go_wp2_with fail
  refine (heldStringS_any _ _ _ 1 _ Og15.out.rd (by omega) (by omega)).mono ?_
  rintro e w16 ⟨rfl, hb16⟩
  have b16 : Below w.heap.size w w16 := b15.trans (hb16.mono b15.size)
  have s16 := hb16.size
  have Ot016 := Lib.hid (Ot015.out.below hb16)
  have Ot116 := Lib.hid (Ot115.out.below hb16)
  have Ow16 := Lib.hid (Ow15.out.below hb16)
  have Ox016 := Lib.hid (Ox015.out.below hb16)
  have Ox116 := Lib.hid (Ox115.out.below hb16)
  have Og16 := Lib.hid (Og15.out.below hb16)
  have Oy016 := Lib.hid (Oy015.out.below hb16)
  have Oy116 := Lib.hid (Oy115.out.below hb16)
  clear hb16 Ot015 Ot115 Ow15 Ox015 Ox115 Og15 Oy015 Oy115
  go_wp2_with fail
  refine (toPrS_any A n c ps _ (HA.out.below b16) (by omega)).mono ?_
  rintro e w17 ⟨gz0, rfl, ho, hb17⟩
  have b17 : Below w.heap.size w w17 := b16.trans (hb17.mono b16.size)
  have s17 := hb17.size
  have Ot017 := Lib.hid (Ot016.out.below hb17)
  have Ot117 := Lib.hid (Ot116.out.below hb17)
  have Ow17 := Lib.hid (Ow16.out.below hb17)
  have Ox017 := Lib.hid (Ox016.out.below hb17)
  have Ox117 := Lib.hid (Ox116.out.below hb17)
  have Og17 := Lib.hid (Og16.out.below hb17)
  have Oy017 := Lib.hid (Oy016.out.below hb17)
  have Oy117 := Lib.hid (Oy116.out.below hb17)
  have Oz017 := Lib.hid (OwnIn.new ho)
  clear hb17 Ot016 Ot116 Ow16 Ox016 Ox116 Og16 Oy016 Oy116 ho
  go_wp2_with fail
  refine (toInt64S_any B m d os _ (HB.out.below b17) (by omega)).mono ?_
  rintro e w18 ⟨gz1, rfl, ho, hb18⟩
  have b18 : Below w.heap.size w w18 := b17.trans (hb18.mono b17.size)
  have s18 := hb18.size
  have Ot018 := Lib.hid (Ot017.out.below hb18)
  have Ot118 := Lib.hid (Ot117.out.below hb18)
  have Ow18 := Lib.hid (Ow17.out.below hb18)
  have Ox018 := Lib.hid (Ox017.out.below hb18)
  have Ox118 := Lib.hid (Ox117.out.below hb18)
  have Og18 := Lib.hid (Og17.out.below hb18)
  have Oy018 := Lib.hid (Oy017.out.below hb18)
  have Oy118 := Lib.hid (Oy117.out.below hb18)
  have Oz018 := Lib.hid (Oz017.out.below hb18)
  have Oz118 := Lib.hid (OwnIn.new ho)
  clear hb18 Ot017 Ot117 Ow17 Ox017 Ox117 Og17 Oy017 Oy117 Oz017 ho
  go_wp2_with fail
  refine (HIM.out _ _ _ _ _ _ _ Oz018.out.rd Oz118.out.rd (by omega)).mono ?_
  rintro e w19 ⟨Ah, nh, ch, rfl, ho, hb19⟩
  have b19 : Below w.heap.size w w19 := b18.trans (hb19.mono b18.size)
  have s19 := hb19.size
  have Ot019 := Lib.hid (Ot018.out.below hb19)
  have Ot119 := Lib.hid (Ot118.out.below hb19)
  have Ow19 := Lib.hid (Ow18.out.below hb19)
  have Ox019 := Lib.hid (Ox018.out.below hb19)
  have Ox119 := Lib.hid (Ox118.out.below hb19)
  have Og19 := Lib.hid (Og18.out.below hb19)
  have Oy019 := Lib.hid (Oy018.out.below hb19)
  have Oy119 := Lib.hid (Oy118.out.below hb19)
  have Oz019 := Lib.hid (Oz018.out.below hb19)
  have Oz119 := Lib.hid (Oz118.out.below hb19)
  have Oh19 := Lib.hid (OwnIn.new ho)
  clear hb19 Ot018 Ot118 Ow18 Ox018 Ox118 Og18 Oy018 Oy118 Oz018 Oz118 ho
  go_wp2_with fail
  refine (eqStringS_any _ _ _ _ _ _ R _ Oh19.out.rd Ow19.out.rd).mono ?_
  rintro e w20 ⟨rfl, hb20⟩
  have b20 : Below w.heap.size w w20 := b19.trans (hb20.mono b19.size)
  have s20 := hb20.size
  have Ot020 := Lib.hid (Ot019.out.below hb20)
  have Ot120 := Lib.hid (Ot119.out.below hb20)
  have Ow20 := Lib.hid (Ow19.out.below hb20)
  have Ox020 := Lib.hid (Ox019.out.below hb20)
  have Ox120 := Lib.hid (Ox119.out.below hb20)
  have Og20 := Lib.hid (Og19.out.below hb20)
  have Oy020 := Lib.hid (Oy019.out.below hb20)
  have Oy120 := Lib.hid (Oy119.out.below hb20)
  have Oz020 := Lib.hid (Oz019.out.below hb20)
  have Oz120 := Lib.hid (Oz119.out.below hb20)
  have Oh20 := Lib.hid (Oh19.out.below hb20)
  clear hb20 Ot019 Ot119 Ow19 Ox019 Ox119 Og19 Oy019 Oy119 Oz019 Oz119 Oh19
  go_wp2_with fail
  refine (heldStringS_any _ _ _ 1 _ Og20.out.rd (by omega) (by omega)).mono ?_
  rintro e w21 ⟨rfl, hb21⟩
  have b21 : Below w.heap.size w w21 := b20.trans (hb21.mono b20.size)
  have s21 := hb21.size
  have Ot021 := Lib.hid (Ot020.out.below hb21)
  have Ot121 := Lib.hid (Ot120.out.below hb21)
  have Ow21 := Lib.hid (Ow20.out.below hb21)
  have Ox021 := Lib.hid (Ox020.out.below hb21)
  have Ox121 := Lib.hid (Ox120.out.below hb21)
  have Og21 := Lib.hid (Og20.out.below hb21)
  have Oy021 := Lib.hid (Oy020.out.below hb21)
  have Oy121 := Lib.hid (Oy120.out.below hb21)
  have Oz021 := Lib.hid (Oz020.out.below hb21)
  have Oz121 := Lib.hid (Oz120.out.below hb21)
  have Oh21 := Lib.hid (Oh20.out.below hb21)
  clear hb21 Ot020 Ot120 Ow20 Ox020 Ox120 Og20 Oy020 Oy120 Oz020 Oz120 Oh20
  go_wp2_with fail
  go_ret
  exact ⟨rfl, b21⟩

end Go.Proofs.Ytfjmohnlllbgmaa
