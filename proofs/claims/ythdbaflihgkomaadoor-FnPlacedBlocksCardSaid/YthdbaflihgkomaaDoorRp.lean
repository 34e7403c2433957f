/- PlacesOnRoll: program, reference. Printed by mkpr.py. -/
import Derived.Test.YthdbaflihgkomaaDoorSsR
import Derived.Test.YthdbaflihgkomaaDoorMa
import Derived.StillTailTactics
import Derived.Deep.CutRange
import Derived.Deep.AppendLies
namespace Go.Proofs.YthdbaflihgkomaaDoor
open Go.RowKit Go.Shelf

theorem info_sl : (Tryd.prog.info? 31).map (fun i => (i.zero, i.size, i.bytes)) = some (some (.slice none 0 0), 1, 24) := by kernel_rfl
/-- Where the k-th block lies. -/
def ptK (ps : List (Int × Int)) (rs : List Int) (n k : Nat) : List Int := [(rowsK ps rs k).1.getD (rs.getD k 0).toNat 0, sumI ((rowsK ps rs n).2.take (rs.getD k 0).toNat)]
def ptL (ps : List (Int × Int)) (rs : List Int) (n : Nat) : Nat → List (List Int)
  | 0 => []
  | k + 1 => ptL ps rs n k ++ [ptK ps rs n k]
theorem ptL_len (ps : List (Int × Int)) (rs : List Int) (n : Nat) : ∀ k, (ptL ps rs n k).length = k
  | 0 => rfl
  | k + 1 => by unfold ptL; rw [List.length_append, ptL_len ps rs n k]; rfl
def poZ (ps : List (Int × Int)) (roll : Int) (rs : List Int) : List (List Int) × Int := if fineZ ps roll rs = 0 then (ptL ps rs rs.length rs.length, 0) else ([], fineZ ps roll rs)
theorem poZ_0 {ps : List (Int × Int)} {roll : Int} {rs : List Int} (h : fineZ ps roll rs = 0) : poZ ps roll rs = (ptL ps rs rs.length rs.length, 0) := if_pos h
theorem poZ_n {ps : List (Int × Int)} {roll : Int} {rs : List Int} (h : ¬ fineZ ps roll rs = 0) : poZ ps roll rs = ([], fineZ ps roll rs) := if_neg h
theorem totL_pt (ps : List (Int × Int)) (rs : List Int) (n : Nat) : ∀ k, totL (ptL ps rs n k) = 2 * k
  | 0 => rfl
  | k + 1 => by unfold ptL; rw [totL_snoc, totL_pt ps rs n k]; show _ + 2 = _; omega
theorem poZ_tot (ps : List (Int × Int)) (roll : Int) (rs : List Int) : totL (poZ ps roll rs).1 ≤ 1000 := by
  by_cases h : fineZ ps roll rs = 0
  · rw [poZ_0 h]
    show totL (ptL _ _ _ _) ≤ _
    obtain ⟨ho, hlen, hr⟩ := rowsC_ok (fine_ok h).1
    have := ho.len
    rw [totL_pt]; omega
  · rw [poZ_n h]; show 0 ≤ 1000; omega
theorem take_get {xs : List Int} {i k : Nat} (h : k < i) : (xs.take i)[k]? = xs[k]? := by rw [List.getElem?_take, if_pos h]
theorem rowsK_take (ps : List (Int × Int)) (rs : List Int) (j : Nat) : ∀ i, i ≤ j → rowsK ps (rs.take j) i = rowsK ps rs i
  | 0, _ => rfl
  | i + 1, h => by
    unfold rowsK
    rw [take_get (by omega), rowsK_take ps rs j i (by omega)]
theorem sum_step {xs : List Int} {k : Nat} {x : Int} (h : xs[k]? = some x) : sumI (xs.take (k + 1)) = sumI (xs.take k) + x := by
  rw [List.take_add_one, h]
  exact sumI_app _ _
def SsPost (w : World) (L : List (List Int)) (z : Int) (e : Ending) (w' : World) : Prop :=
  ∃ A n c cs G, e = .returned (.tuple #[.slice A n c, .int .i64 z]) ∧ OwnL w' w.heap.size A n c cs L G ∧ Below w.heap.size w w'
theorem ssPost_nil {w w' : World} {z : Int} (hb : Below w.heap.size w w') : SsPost w [] z (.returned (.tuple #[.slice none 0 0, .int .i64 z])) w' :=
  ⟨none, 0, 0, [], _, rfl, ownL_nil _ _, hb⟩
theorem OwnL.base {w : World} {lo lo' n c : Nat} {A : Option Addr} {cs : List Value} {L : List (List Int)} {G : Nat → Nat} (h : OwnL w lo A n c cs L G) (hle : lo' ≤ lo) : OwnL w lo' A n c cs L G :=
  ⟨own_base h.own hle, h.ll, fun k xs hx => by
    obtain ⟨m, d, hc, ho⟩ := h.nest k xs hx
    exact ⟨m, d, hc, own_base ho hle⟩, h.far, h.sep⟩
/-- A block ahead of all of them is written. -/
theorem OwnL.ahead {w w1 : World} {lo n c g : Nat} {A : Option Addr} {cs : List Value} {L : List (List Int)} {G : Nat → Nat} (h : OwnL w lo A n c cs L G) (hg : w.grownBy w1 (some g)) (hlt : g < lo) : OwnL w1 lo A n c cs L G :=
  ⟨h.own.kept hg (by
    cases e : (Value.slice A n c).ownBlock with
    | none => exact .inl rfl
    | some q => exact .inr fun e' => by have := (own_block h.own q e).1; injection e' with e'; omega), h.ll, fun k xs hx => by
    obtain ⟨m, d, hc, ho⟩ := h.nest k xs hx
    exact ⟨m, d, hc, ho.kept hg (.inr fun e' => by have := (own_block ho (G k) rfl).1; simp [Value.ownBlock] at e'; omega)⟩, h.far, h.sep⟩

theorem rowsTake_any (A : Option Addr) (n c : Nat) (ps : List (Int × Int)) (roll : Int) (b o m d i : Nat) (rs : List Int) (w : World) (h : Rd w 2 A n c (pr ps)) (hB : Rd w 1 (some ⟨b, o, none⟩) m d (ints rs)) (ho : BOk ps roll) (hm : m ≤ n) (hi : i ≤ m) (hr : ∀ (j : Nat) (r : Int), rs[j]? = some r → 0 ≤ r ∧ r ≤ 8) :
    Calls Tryd.prog 35 #[.slice A n c, .slice (some ⟨b, o, none⟩) i d] w fun e w' => ∃ g1 g2, e = .returned (.tuple #[.slice (some ⟨g1, 0, none⟩) 9 9, .slice (some ⟨g2, 0, none⟩) 9 9]) ∧ g1 ≠ g2 ∧
      w'.ownsRow w.heap.size 2 1 (.slice (some ⟨g1, 0, none⟩) 9 9) 9 (ints (rowsK ps rs i).1) ∧ w'.ownsRow w.heap.size 2 1 (.slice (some ⟨g2, 0, none⟩) 9 9) 9 (ints (rowsK ps rs i).2) ∧ Below w.heap.size w w' := by
  have hh := rowsOf_any A n c ps roll (some ⟨b, o, none⟩) i d (rs.take i) w h (hB.takeI hi) ho (by omega) (fun j r hx => hr j r (by
    rw [List.getElem?_take] at hx
    split at hx
    · exact hx
    · cases hx))
  rw [rowsK_take ps rs i i (Nat.le_refl _)] at hh
  exact hh
set_option maxRecDepth 100000 in
set_option maxHeartbeats 4000000 in
theorem implPlacesOnRoll_any (A : Option Addr) (n c : Nat) (ps : List (Int × Int)) (roll : Int) (B : Option Addr) (m d : Nat) (rs : List Int) (w : World) (h : Rd w 2 A n c (pr ps)) (hB : Rd w 1 B m d (ints rs)) :
    Calls Tryd.prog 12 #[.slice A n c, .int .i64 roll, .slice B m d] w (SsPost w (poZ ps roll rs).1 (poZ ps roll rs).2) := by
  have hcode := fun W h hB => implHeightOfRows_any A n c ps roll B m d rs W h hB
  by_cases hz : ¬ fineZ ps roll rs = 0
  · rw [poZ_n hz]
    simp only
    have hne : (fineZ ps roll rs != 0) = true := by simpa using hz
    have HC := Lib.hid (hcode w h hB)
    generalize fineZ ps roll rs = F at *
    generalize heightOfZ ps roll rs = F2 at *
    clear hcode h hB hz
    go_enter Tryd.func12, Tryd.ntmps12
    go_wp2_with fail
    refine (HC.out).mono ?_
    rintro e w1 ⟨rfl, hb⟩
    go_wp2_with fail
    go_ret2
    exact ssPost_nil hb
  have hz : fineZ ps roll rs = 0 := Decidable.not_not.mp hz
  obtain ⟨i1, hj, hy0, hy1, hy2⟩ := info_parts info_sl
  have hl := h.plen
  have hl' := hB.ilen
  obtain ⟨ho, hlen, hr⟩ := rowsC_ok (fine_ok hz).1
  have hmn : m = n := by omega
  subst hmn
  have hn9 := ho.len
  have hm9 : m ≤ 9 := by omega
  have hb4 := hB.cap
  have hb5 := hB.max
  have ha4 := h.cap
  rw [poZ_0 hz, hl']
  simp only
  have HC := Lib.hid (hcode w h hB)
  rw [hz] at HC
  have hbd := rowsK_B ho hr m (by omega) (by omega)
  have hbd2 := fun i (hi : i ≤ m) => rowsK_B ho hr i (by omega) (by omega)
  have hrow := fun W (hb : Below w.heap.size w W) => rowsOf_any A m c ps roll B m d rs W (h.below hb) (hB.below hb) ho (Nat.le_refl _) hr
  have hsum := fun (T : List Int) (hT : T = (rowsK ps rs m).2) A c W q (hq : q ≤ 9) (hh : Rd W 1 A q c (ints (T.take q))) => sumOf_any A q c (T.take q) W hh hq (fun j x hx => by
      rw [List.getElem?_take] at hx
      split at hx
      · subst hT; exact hbd.hb j x hx
      · cases hx)
  have hpt : ∀ k, ptL ps rs m (k + 1) = ptL ps rs m k ++ [[(rowsK ps rs k).1.getD (rs.getD k 0).toNat 0, sumI ((rowsK ps rs m).2.take (rs.getD k 0).toNat)]] := fun k => rfl
  have hp0 : ptL ps rs m 0 = [] := rfl
  generalize hT : (rowsK ps rs m).2 = T at *
  have hTl := hbd.hl
  have hTb := sumI_bd hbd.hb
  have HS := Lib.hid (hsum T rfl)
  have HR := Lib.hid hrow
  have HA := Lib.hid h
  have HOK := Lib.hid ho
  have HB := Lib.hid hB
  have HRB := Lib.hid hr
  have HBD := Lib.hid hbd2
  have HPT := Lib.hid hpt
  have HTB := Lib.hid hTb
  have HTL := Lib.hid hTl
  generalize hLL : ptL ps rs m = LL at *
  clear hcode hrow hsum h hB hl hl' ho hlen hr hz hbd hbd2 hpt hTb hTl hn9
  generalize heightOfZ ps roll rs = F2 at *
  go_enter Tryd.func12, Tryd.ntmps12
  go_wp2_with fail
  refine (HC.out).mono ?_
  rintro e w1 ⟨rfl, hb1⟩
  go_wp2_with fail
  refine (HR.out _ hb1).mono ?_
  rintro e w2 ⟨g1, g2, rfl, hne, o1, o2, hb2⟩
  have hbw2 := hb1.trans (hb2.mono hb1.size)
  have hg2 := own_block o2 g2 rfl
  have HO2 := Lib.hid o2
  obtain ⟨w3, hv3⟩ : ∃ w', w' = w2.alloc (.cells #[] 31) := ⟨_, rfl⟩
  have bw23 : Below w2.heap.size w2 w3 := by rw [hv3]; exact (Below.refl _ _).alloc (Nat.le_refl _) _
  have HL3 := Lib.hid (show OwnL w3 w2.heap.size (some ⟨w2.heap.size, 0, none⟩) 0 0 [] [] (fun _ => 0) by rw [hv3]; exact ownL_made w2 _ (Nat.le_refl _))
  have HBW2 := Lib.hid hbw2
  have HB23 := Lib.hid bw23
  have s2 := hbw2.size
  clear hb1 hb2 o1 o2 hne hbw2 bw23
  go_upto_region 6 with fail
  rw [← hv3]
  clear hv3
  go_wp2
  go_loopw [12, 36] (fun vo vk wr => ∃ (k go co : Nat) (cs : List Value) (G : Nat → Nat), k ≤ m ∧ vk = .int .i64 k ∧ vo = .slice (some ⟨go, 0, none⟩) k co ∧ Hid (OwnL wr w2.heap.size (some ⟨go, 0, none⟩) k co cs (LL k) G) ∧ Hid (Below w2.heap.size w2 wr)) (fun _ vk _ => m - (intOf vk).toNat)
  case atStart => exact ⟨0, _, _, [], _, Nat.zero_le _, rfl, rfl, by rw [hp0]; exact HL3, HB23⟩
  case round =>
    clear HL3 HB23
    obtain ⟨k, go, co, cs, G, hk, rfl, rfl, HL, HBX⟩ := hrel
    obtain ⟨w4, rfl⟩ : ∃ w', w' = wr := ⟨_, rfl⟩
    have hgo := own_block HL.out.own go rfl
    have hcap := (Rd.of_own HL.out.own).cap
    have hmax := (Rd.of_own HL.out.own).max
    have s4 := HBX.out.size
    by_cases hlt : k < m
    · have hk0 : (0 : Int) ≤ (k : Int) := by omega
      have hk1 : (k : Int) < (m : Int) := by omega
      have b4 := HBW2.out.trans (HBX.out.mono s2)
      obtain ⟨b, o, r, hBe, hbl, hrx, c0⟩ := (HB.out.below b4).int hlt
      have hr8 := HRB.out k r hrx
      have hrd : rs.getD k 0 = r := by simp [List.getD, hrx]
      have hptk := HPT.out k
      rw [hrd] at hptk
      obtain ⟨q, rfl⟩ := Int.eq_ofNat_of_zero_le hr8.1
      rw [Int.toNat_natCast] at hptk
      subst hBe
      have hcall := rowsTake_any A m c ps roll b o m d k rs w4 (HA.out.below b4) (HB.out.below b4) HOK.out (Nat.le_refl _) (by omega) HRB.out
      have hbk := HBD.out k (by omega)
      generalize (rowsK ps rs k).1 = V at *
      generalize (rowsK ps rs k).2 = V2 at *
      have hq9 : q ≤ 9 := by omega
      have hsl := slice_head b o m d k (k : Int) rfl (by omega)
      have HCA := Lib.hid hcall
      have HPK := Lib.hid hptk
      have HBK := Lib.hid hbk
      have B4 := Lib.hid b4
      clear hcall hptk hbk hrx hrd b4
      go_wp2_with fail
      refine (HCA.out).mono ?_
      rintro e w5 ⟨f1, f2, rfl, hne, p1, p2, hb5⟩
      have cv := own_int p1 (i := q) (by omega) HBK.out.wl
      have vb := HBK.out.wb q _ (getD_of (by rw [HBK.out.wl]; omega))
      have hf1 := own_block p1 f1 rfl
      have o5 := own_below (own_below HO2.out HBX.out) hb5
      have R5 := (Rd.of_own o5).takeI (j := q) hq9
      have hsA := HS.out _ _ w5 q hq9 R5
      have hsB := HS.out _ _ w5.drew q hq9 (R5.below (Below.drew (Below.refl _ _)))
      have hsl2 := slice_head g2 0 9 9 q (q : Int) rfl hq9
      have tb := HTB.out q (by rw [HTL.out]; omega)
      generalize V.getD q 0 = x at *
      generalize sumI (T.take q) = s at *
      have HSA := Lib.hid hsA
      have HSB := Lib.hid hsB
      have HL5 := Lib.hid (HL.out.below hb5)
      have HBX5 := Lib.hid (HBX.out.trans (hb5.mono s4))
      have hq0 : (0 : Int) ≤ (q : Int) := by omega
      have hq9' : (q : Int) < 9 := by omega
      have s5 := HBX5.out.size
      have hf5 := World.block_lt_of_cell? _ _ cv
      have hlit := World.ownsRow_lit (e := 2) (size := 1) (base := w2.heap.size) w5 #[.int .i64 x, .int .i64 s] 2 s5 (by unfold maxLen; omega) (by simp)
      have hz1' : (w5.alloc (.cells #[.int .i64 x, .int .i64 s] 2)).heap.size = w5.heap.size + 1 := by simp
      obtain ⟨WX, hWX⟩ : ∃ WX, WX = ((w5.alloc (.cells #[.int .i64 x, .int .i64 s] 2)).alloc (.cells #[.slice (some ⟨w5.heap.size, 0, none⟩) 2 2] 31)).drew := ⟨_, rfl⟩
      have ha2 : Below w5.heap.size w5 WX := by rw [hWX]; exact (((Below.refl _ _).alloc (Nat.le_refl _) _).alloc (by simp) _).drew
      have ha3 : Below (w5.alloc (.cells #[.int .i64 x, .int .i64 s] 2)).heap.size (w5.alloc (.cells #[.int .i64 x, .int .i64 s] 2)) WX := by rw [hWX]; exact ((Below.refl _ _).alloc (Nat.le_refl _) _).drew
      have HLI := Lib.hid (own_below hlit ha3)
      have HA2 := Lib.hid ha2
      have hsz2 : WX.heap.size = w5.heap.size + 2 := by rw [hWX]; simp
      have HZ2 := Lib.hid hsz2
      have HWX := Lib.hid hWX
      have HNEW : Hid (∀ (j : Nat) (u : Value), [Value.slice (some ⟨w5.heap.size, 0, none⟩) 2 2][j]? = some u → ((w5.alloc (.cells #[.int .i64 x, .int .i64 s] 2)).alloc (.cells #[.slice (some ⟨w5.heap.size, 0, none⟩) 2 2] 31)).drew.cell? ((⟨w5.heap.size + 1, 0, none⟩ : Addr).add j) = some u) :=
        Lib.hid (World.news_of_block (cs := #[.slice (some ⟨w5.heap.size, 0, none⟩) 2 2]) (t := 31) (fr := (0, 0)) (by
          have := heap_alloc_new (w5.alloc (.cells #[.int .i64 x, .int .i64 s] 2)) (.cells #[.slice (some ⟨w5.heap.size, 0, none⟩) 2 2] 31)
          rw [hz1'] at this
          exact this))
      clear hsA hsB p1 p2 o5 R5 hb5 HL HBX hne HBK HCA hlit hz1' ha2 ha3 hWX hsz2
      go_wp2
      go_region_held3 (fun w' => w'.cell? ⟨f1, q, none⟩ = some (.int .i64 x))
        (first
          | exact cv
          | go_keep
          | (rw [hgrow.cell_far ⟨f1, q, none⟩ (show f1 < _ by simp; omega) (show some f1 ≠ some go by simp; omega)]; assumption))
        (first
          | (go_at_call 36; refine (HSA.out).mono ?_; rintro e w' ⟨rfl, rfl⟩)
          | (go_at_call 36; refine (HSB.out).mono ?_; rintro e w' ⟨rfl, rfl⟩)
          | (refine step_append_lies _ (by rfl) _ _ _ (by rfl) w2.heap.size 31 i1 _ 1 24 Tryd.underlying34 hj hy0 hy1 hy2 rfl (by omega) (Value.slice (some ⟨go, 0, none⟩) k co) k cs (by rfl) (((HL5.out.own.alloc _).alloc _).drew) ⟨w5.heap.size + 1, 0, none⟩ 1 1 [.slice (some ⟨w5.heap.size, 0, none⟩) 2 2] (by rfl) (by rfl) HNEW.out (by simp [Value.oneCell']) (by omega) (by unfold maxLen; omega) (by omega) (by simp; omega) (w5.heap.size + 2) (by simp) ?_; intro gg cap wa hown' hgrow hat hlt'))
      have hgrow2 := hgrow
      rw [← HWX.out] at hgrow2
      have hP := HL5.out.push (xs := [x, s]) HA2.out (Nat.le_refl _) HLI.out hown' hgrow2 (by rcases hat with e | e; exact .inl e.symm; exact .inr (by rw [e, HZ2.out]; rfl))
      have b5 := (HBX5.out.trans (HA2.out.mono s5)).grown hgrow2 (by rw [HZ2.out]; omega) (fun k hk => by simp [Value.ownBlock] at hk; omega)
      rw [← HPK.out] at hP
      have HP := Lib.hid hP
      have HB6 := Lib.hid b5
      clear hown' hgrow hgrow2 hat hlt' hP b5
      go_wp2
      go_roundw
      case rel => exact ⟨k + 1, gg, cap, _, _, by omega, by go_num, rfl, HP, HB6⟩
      case measure => simp [intOf]; omega
    · have hkm : k = m := by omega
      subst hkm
      go_wp2
      go_ret2
      exact ⟨_, _, _, _, _, rfl, HL.out.base s2, HBW2.out.trans (HBX.out.mono s2)⟩
set_option maxRecDepth 100000 in
set_option maxHeartbeats 4000000 in
theorem specPlacesOnRoll_any (A : Option Addr) (n c : Nat) (ps : List (Int × Int)) (roll : Int) (B : Option Addr) (m d : Nat) (rs : List Int) (w : World) (h : Rd w 2 A n c (pr ps)) (hB : Rd w 1 B m d (ints rs)) :
    Calls Tryd.prog 13 #[.slice A n c, .int .i64 roll, .slice B m d] w (SsPost w (poZ ps roll rs).1 (poZ ps roll rs).2) := by
  have hcode := fun W h hB => l11Fine_any A n c ps roll B m d rs W h hB
  by_cases hz : ¬ fineZ ps roll rs = 0
  · rw [poZ_n hz]
    simp only
    have hne : (fineZ ps roll rs != 0) = true := by simpa using hz
    have HC := Lib.hid (hcode w h hB)
    generalize fineZ ps roll rs = F at *
    clear hcode h hB hz
    go_enter Tryd.func13, Tryd.ntmps13
    go_wp2_with fail
    refine (HC.out).mono ?_
    rintro e w1 ⟨rfl, hb⟩
    go_wp2_with fail
    go_ret2
    exact ssPost_nil hb
  have hz : fineZ ps roll rs = 0 := Decidable.not_not.mp hz
  obtain ⟨i1, hj, hy0, hy1, hy2⟩ := info_parts info_sl
  have hl := h.plen
  have hl' := hB.ilen
  obtain ⟨ho, hlen, hr⟩ := rowsC_ok (fine_ok hz).1
  have hmn : m = n := by omega
  subst hmn
  have hn9 := ho.len
  have hm9 : m ≤ 9 := by omega
  have hb4 := hB.cap
  have hb5 := hB.max
  have ha4 := h.cap
  have ha5 := h.max
  rw [poZ_0 hz, hl']
  simp only
  have HC := Lib.hid (hcode w h hB)
  rw [hz] at HC
  have hbd := rowsK_B ho hr m (by omega) (by omega)
  have hbd2 := fun i (hi : i ≤ m) => rowsK_B ho hr i (by omega) (by omega)
  have hrow := fun W (hb : Below w.heap.size w W) => l11Sums_any A m c ps roll B m d rs W (h.below hb) (hB.below hb) ho (Nat.le_refl _) hr
  have hpt : ∀ k, ptL ps rs m (k + 1) = ptL ps rs m k ++ [[(rowsK ps rs k).1.getD (rs.getD k 0).toNat 0, sumI ((rowsK ps rs m).2.take (rs.getD k 0).toNat)]] := fun k => rfl
  have hp0 : ptL ps rs m 0 = [] := rfl
  generalize hT : (rowsK ps rs m).2 = T at *
  have hTl := hbd.hl
  have hTb := sumI_bd hbd.hb
  have HTH := Lib.hid hbd.hb
  have HR := Lib.hid hrow
  have HA := Lib.hid h
  have HOK := Lib.hid ho
  have HB := Lib.hid hB
  have HRB := Lib.hid hr
  have HBD := Lib.hid hbd2
  have HPT := Lib.hid hpt
  have HTB := Lib.hid hTb
  have HTL := Lib.hid hTl
  generalize hLL : ptL ps rs m = LL at *
  clear hcode hrow h hB hl hl' ho hlen hr hz hbd hbd2 hpt hTb hTl hn9
  go_enter Tryd.func13, Tryd.ntmps13
  go_wp2_with fail
  refine (HC.out).mono ?_
  rintro e w1 ⟨rfl, hb1⟩
  go_wp2_with fail
  refine (HR.out _ hb1).mono ?_
  rintro e w2 ⟨g1, g2, rfl, hne, o1, o2, hb2⟩
  have hbw2 := hb1.trans (hb2.mono hb1.size)
  have hg2 := own_block o2 g2 rfl
  have HO2 := Lib.hid o2
  obtain ⟨w3, hv3⟩ : ∃ w', w' = w2.alloc (.cells c9 2) := ⟨_, rfl⟩
  have bw23 : Below w2.heap.size w2 w3 := by rw [hv3]; exact (Below.refl _ _).alloc (Nat.le_refl _) _
  have hat3 : w3.ownsRow w2.heap.size 2 1 (.slice (some ⟨w2.heap.size, 0, none⟩) 9 9) 9 (ints z9) := by rw [hv3]; exact own9 w2 _ (Nat.le_refl _)
  have h23 : w2.heap.size < w3.heap.size := by rw [hv3]; simp
  obtain ⟨w4, hv4⟩ : ∃ w', w' = w3.alloc (.cells #[] 31) := ⟨_, rfl⟩
  have bw34 : Below w3.heap.size w3 w4 := by rw [hv4]; exact (Below.refl _ _).alloc (Nat.le_refl _) _
  have HL4 := Lib.hid (show OwnL w4 w3.heap.size (some ⟨w3.heap.size, 0, none⟩) 0 0 [] [] (fun _ => 0) by rw [hv4]; exact ownL_made w3 _ (Nat.le_refl _))
  have HAT4 := Lib.hid (own_below hat3 bw34)
  have HBW2 := Lib.hid hbw2
  have HB24 := Lib.hid (bw23.trans (bw34.mono bw23.size))
  have s34 := bw34.size
  have s2 := hbw2.size
  clear hb1 hb2 o1 o2 hne hbw2 bw23 bw34 hat3
  go_upto_region 6 with fail
  rw [← hv3]
  clear hv3
  go_upto_region 7 with fail
  rw [← hv4]
  clear hv4
  go_wp2
  go_loopw [12, 13] (fun vo vk wr => ∃ (k go co : Nat) (cs : List Value) (G : Nat → Nat) (V : List Int), k ≤ m ∧ vk = .int .i64 k ∧ vo = .slice (some ⟨go, 0, none⟩) k co ∧ Hid ((rowsK ps rs k).1 = V) ∧ Hid (OwnL wr w3.heap.size (some ⟨go, 0, none⟩) k co cs (LL k) G) ∧ Hid (wr.ownsRow w2.heap.size 2 1 (.slice (some ⟨w2.heap.size, 0, none⟩) 9 9) 9 (ints V)) ∧ w3.heap.size ≤ wr.heap.size ∧ Hid (Below w2.heap.size w2 wr)) (fun _ vk _ => m - (intOf vk).toNat)
  case atStart => exact ⟨0, _, _, [], _, z9, Nat.zero_le _, rfl, rfl, Lib.hid rfl, by rw [hp0]; exact HL4, HAT4, s34, HB24⟩
  case round =>
    clear HL4 HB24 HAT4 s34
    obtain ⟨k, go, co, cs, G, V, hk, rfl, rfl, HV, HL, HAT, s35, HBX⟩ := hrel
    obtain ⟨w5, rfl⟩ : ∃ w', w' = wr := ⟨_, rfl⟩
    have hgo := own_block HL.out.own go rfl
    have hcap := (Rd.of_own HL.out.own).cap
    have hmax := (Rd.of_own HL.out.own).max
    have s5 := HBX.out.size
    by_cases hlt : k < m
    · have hk0 : (0 : Int) ≤ (k : Int) := by omega
      have hk1 : (k : Int) < (m : Int) := by omega
      have b5 := HBW2.out.trans (HBX.out.mono s2)
      obtain ⟨b, o, r, hBe, hbl, hrx, _⟩ := HB.out.int hlt
      obtain ⟨bp, op, x, y, hAe, hblp, hpx, _, _⟩ := HA.out.pair hlt
      have HCL := Lib.hid (show ∀ W, Below w.heap.size w W → W.cell? ⟨b, o + k, none⟩ = some (.int .i64 r) ∧ W.cell? ⟨bp, op + k * 2, none⟩ = some (.int .i64 x) from fun W hb => by
        obtain ⟨b', o', r', hBe', _, hrx', c'⟩ := (HB.out.below hb).int hlt
        obtain ⟨bp', op', x', y', hAe', _, hpx', cp', _⟩ := (HA.out.below hb).pair hlt
        rw [hBe] at hBe'; rw [hAe] at hAe'; rw [hrx] at hrx'; rw [hpx] at hpx'
        cases hBe'; cases hAe'; cases hrx'; cases hpx'
        exact ⟨c', cp'⟩)
      have hr8 := HRB.out k r hrx
      have hrd : rs.getD k 0 = r := by simp [List.getD, hrx]
      have hptk := HPT.out k
      have hbk := HBD.out k (by omega)
      have hst := rowsK_step (W := (rowsK ps rs k).1) (H := (rowsK ps rs k).2) rfl hrx hpx
      have hxy := HOK.out.blk k _ hpx
      have hr1 := HOK.out.r1
      have x0 : 1 ≤ x ∧ x ≤ 5000 := ⟨hxy.1.1, by have := hxy.1.2; simp at this; omega⟩
      rw [hrd, HV.out] at hptk
      rw [HV.out] at hst hbk
      obtain ⟨q, rfl⟩ := Int.eq_ofNat_of_zero_le hr8.1
      rw [Int.toNat_natCast] at hptk hst
      have hst1 : (rowsK ps rs (k + 1)).1 = V.set q (V.getD q 0 + x) := by rw [hst]
      have vb := hbk.wb q _ (getD_of (by rw [hbk.wl]; omega))
      have hwl := hbk.wl
      have hq9 : q ≤ 9 := by omega
      have q8 : q ≤ 8 := by omega
      subst hBe
      subst hAe
      obtain ⟨c0, c1⟩ := HCL.out w5 b5
      have o5 := Lib.hid (own_below HO2.out HBX.out)
      have HPK := Lib.hid hptk
      have HWL := Lib.hid hwl
      have HST := Lib.hid hst1
      have B5 := Lib.hid b5
      have tb := HTB.out q (by rw [HTL.out]; omega)
      have hq0 : (0 : Int) ≤ (q : Int) := by omega
      have hq9' : (q : Int) < 9 := by omega
      have hsum0 : sumI (T.take 0) = 0 := rfl
      clear hptk hbk hst hst1 hrx hpx hrd hxy hr8 b5 hwl
      go_wp2
      go_loopw [14, 15] (fun vy vj wr => ∃ j : Nat, j ≤ q ∧ vj = .int .i64 j ∧ vy = .int .i64 (sumI (T.take j)) ∧ w5 = wr) (fun _ vj _ => q - (intOf vj).toNat)
      case atStart => exact ⟨0, Nat.zero_le _, rfl, by rw [hsum0], rfl⟩
      case round =>
        obtain ⟨j, hjq, rfl, rfl, hwe⟩ := hrel
        subst hwe
        by_cases hjl : j < q
        · have hj0 : (0 : Int) ≤ (j : Int) := by omega
          have hj1 : (j : Int) < (q : Int) := by omega
          have hj9 : (j : Int) < 9 := by omega
          have cj := own_int o5.out (i := j) (by omega) HTL.out
          have hg := getD_of (l := T) (j := j) (by rw [HTL.out]; omega)
          have hstep := sum_step hg
          have tj := HTB.out j (by rw [HTL.out]; omega)
          have hgb := HTH.out j _ hg
          generalize T.getD j 0 = tv at *
          generalize sumI (T.take j) = sv at *
          have HSTEP := Lib.hid hstep
          clear hstep hg
          go_wp2
          go_roundw
          case rel => exact ⟨j + 1, by omega, by go_num, by rw [HSTEP.out], by trivial⟩
          case measure => simp [intOf]; omega
        · have hjq2 : j = q := by omega
          subst hjq2
          have hjj : ¬ (j : Int) < (j : Int) := by omega
          have cv := own_int HAT.out (i := j) (by omega) HWL.out
          have s6 : w3.heap.size ≤ w5.heap.size := s35
          have HL5 := HL
          generalize hxx : V.getD j 0 = xw at *
          generalize sumI (T.take j) = s at *
          have hlit := World.ownsRow_lit (e := 2) (size := 1) (base := w3.heap.size) w5 #[.int .i64 xw, .int .i64 s] 2 s6 (by unfold maxLen; omega) (by simp)
          have ha1 : Below w5.heap.size w5 (w5.alloc (.cells #[.int .i64 xw, .int .i64 s] 2)) := (Below.refl _ _).alloc (Nat.le_refl _) _
          have hz1' : (w5.alloc (.cells #[.int .i64 xw, .int .i64 s] 2)).heap.size = w5.heap.size + 1 := by simp
          have ha2 : Below w5.heap.size w5 ((w5.alloc (.cells #[.int .i64 xw, .int .i64 s] 2)).alloc (.cells #[.slice (some ⟨w5.heap.size, 0, none⟩) 2 2] 31)) := ha1.alloc (by simp) _
          have ha3 : Below (w5.alloc (.cells #[.int .i64 xw, .int .i64 s] 2)).heap.size (w5.alloc (.cells #[.int .i64 xw, .int .i64 s] 2)) ((w5.alloc (.cells #[.int .i64 xw, .int .i64 s] 2)).alloc (.cells #[.slice (some ⟨w5.heap.size, 0, none⟩) 2 2] 31)) := (Below.refl _ _).alloc (Nat.le_refl _) _
          have hlit2 := own_below hlit ha3
          have hsz2 : ((w5.alloc (.cells #[.int .i64 xw, .int .i64 s] 2)).alloc (.cells #[.slice (some ⟨w5.heap.size, 0, none⟩) 2 2] 31)).heap.size = w5.heap.size + 2 := by simp
          have HA2 := Lib.hid ha2
          have HLI := Lib.hid hlit2
          have HZ1 := Lib.hid hz1'
          have HZ2 := Lib.hid hsz2
          clear hlit ha1 ha2 ha3 hlit2 hz1' hsz2
          go_wp2_with (at_builtin; refine wpList_append_own_at _ rfl (.tmp 51) (.tmp 61) 34 rfl w3.heap.size 31 i1 (.slice none 0 0) 1 24 Tryd.underlying34 hj hy0 hy1 hy2 rfl (by decide) (Value.slice (some ⟨go, 0, none⟩) k co) _ _ rfl ((HL5.out.own.alloc _).alloc _) ⟨_, 0, none⟩ 1 1 [.slice (some ⟨w5.heap.size, 0, none⟩) 2 2] rfl rfl (by have := cell_one_new (w5.alloc (.cells #[.int .i64 xw, .int .i64 s] 2)) (.slice (some ⟨w5.heap.size, 0, none⟩) 2 2) 31; rw [HZ1.out] at this; exact this) (by intro u hu; simp at hu; subst hu; rfl) (by unfold maxLen; omega) (by omega) (by rw [HZ2.out]; omega) ?_; intro v' wa hown' hga' hdel hblk; clear hdel)
          obtain ⟨g3, d3, hv', hg3, _⟩ := own_form hown' (by omega)
          subst hv'
          have hP := HL5.out.push (xs := [xw, s]) HA2.out (Nat.le_refl _) HLI.out hown' hga' hblk
          have hga := hga'
          have hgne : go ≠ w2.heap.size := by omega
          have at6 := own_other (g' := go) (own_below HAT.out HA2.out) hga' (fun e => hgne e.symm)
          have b6 := (HBX.out.trans (HA2.out.mono s5)).grown hga' (by rw [HZ2.out]; omega) (fun k hk => by simp [Value.ownBlock] at hk; omega)
          rw [← HPK.out] at hP
          obtain ⟨e0, e1⟩ := HCL.out wa (HBW2.out.trans (b6.mono s2))
          have cw := own_int at6 (i := j) (by omega) HWL.out
          rw [hxx] at cw
          have f1 := at6.frozenAt
          have HP := Lib.hid hP
          have HB6 := Lib.hid b6
          have HAT6 := Lib.hid at6
          have s7 := hga'.size
          rw [HZ2.out] at s7
          have n1 : bp ≠ w2.heap.size := by omega
          have n2 : b ≠ w2.heap.size := by omega
          clear hown' hga' hga hblk hP b6 at6 c0 c1 cv HL HL5 HAT o5 HA2 HLI HZ1 HZ2
          go_wp2
          go_region
          have hs8 := (own_iset HAT6.out j (xw + x))
          have p1 := hs8.1.drew
          have G1 := grown_drew hs8.2
          have HP2 := Lib.hid (HP.out.ahead G1 h23)
          have b8 : Below w2.heap.size w2 (wa.setCell ⟨w2.heap.size, j, none⟩ (.int .i64 (xw + x))).drew := (HB6.out.setCell (Nat.le_refl _) _).drew
          have s8 := G1.size
          generalize (wa.setCell ⟨w2.heap.size, j, none⟩ (.int .i64 (xw + x))).drew = w8 at *
          have P1 := Lib.hid p1
          have B8 := Lib.hid b8
          clear hs8 p1 G1 b8 cw f1 e0 e1
          go_wp2
          go_roundw
          case rel => exact ⟨k + 1, g3, d3, _, _, _, by omega, by go_num, rfl, Lib.hid (by rw [HST.out]), HP2, P1, by omega, B8⟩
          case measure => simp [intOf]; omega
    · have hkm : k = m := by omega
      subst hkm
      go_wp2
      go_ret2
      exact ⟨_, _, _, _, _, rfl, HL.out.base (by omega), HBW2.out.trans (HBX.out.mono s2)⟩
end Go.Proofs.YthdbaflihgkomaaDoor
