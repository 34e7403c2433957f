/- Drawn operations: l13Bent of the reference's source. -/
import Derived.Test.YtgghjieeckkpbaaDoorDo
import Derived.Laws.BytesArg
import Derived.Deep.RegionLaw
namespace Go.Proofs.YtgghjieeckkpbaaDoor
open Go.RowKit Go.Shelf

theorem lit_rd (W : World) (xs : List Int) (hx : xs.length ≤ 1000) : Rd (W.alloc (.cells (ints xs).toArray 2)) 1 (some ⟨W.heap.size, 0, none⟩) xs.length xs.length (ints xs) :=
  Rd.of_own (World.ownsRow_lit (base := 0) (e := 2) (size := 1) W (ints xs).toArray xs.length (Nat.zero_le _) (by unfold maxLen; omega) (by simp [ints]))
theorem lit_rdt (W : World) (xs : List ByteArray) (hx : xs.length ≤ 1000) : Rd (W.alloc (.cells (txs xs).toArray 9)) 1 (some ⟨W.heap.size, 0, none⟩) xs.length xs.length (txs xs) :=
  Rd.of_own (World.ownsRow_lit (base := 0) (e := 9) (size := 1) W (txs xs).toArray xs.length (Nat.zero_le _) (by unfold maxLen; omega) (by simp [txs]))

theorem grown_alc (w : World) (o : Obj) (row : Option Nat) : w.grownBy (w.alloc o) row := ⟨rfl, rfl, rfl, by simp, fun q hq _ => Below.heap_alloc w o q hq⟩
theorem set_len {L : List (OpV × Value)} {r : Nat} {p : OpV} {V V' : Value} {s : ByteArray} {z : Int} (h : L[r]? = some (p, V)) (hF : ∀ q ∈ L, q.1.bf.length ≤ 7) : ∀ q ∈ L.set r (⟨s, z, p.bf⟩, V'), q.1.bf.length ≤ 15 := fun q hq => by
  rcases List.mem_or_eq_of_mem_set hq with hq | rfl
  · exact Nat.le_trans (hF q hq) (by omega)
  · have := hF _ (List.mem_of_getElem? h)
    show p.bf.length ≤ 15
    simp only at this
    omega
set_option maxRecDepth 100000 in
set_option maxHeartbeats 4000000 in
theorem l13Bent_any (g : Nat) (A : Option Addr) (n c N : Nat) (w : World) (h : Src w g A n c N) (hN : N ≤ 700000000) (hn : n ≤ 9223372036854775807) :
    Calls Tryd.prog 39 #[.pointer (some ⟨g, 0, none⟩)] w (DrawPost 15 w g A n c (N + 124)) := by
  obtain ⟨i6, gi, gz0, gz1, gz2⟩ := info_parts info_i64r
  obtain ⟨i0, hi, hz0, hz1, hz2⟩ := info_parts info_op
  have hgl := h.lt
  have H := Lib.hid h
  clear h
  go_enter Tryd.func39, Tryd.ntmps39
  go_wp2_with fail
  refine (l13Draw_any g A n c N _ H.out (by omega) hn).mono ?_
  rintro e w1 ⟨go1, k1, co1, L1, rfl, hk1, hG1, ⟨hbf1, _⟩, hS1, hW1⟩
  have HG1 := Lib.hid hG1
  have HF1 := Lib.hid hbf1
  have HS1 := Lib.hid hS1
  have HW1 := Lib.hid hW1
  clear hG1 hS1 hW1 hbf1 H
  go_upto_if 9 with (go_at_call 57; refine (one_any g A n c (N + 114) 24 _ HS1.out (by omega) hn).mono ?_; rintro e w2 ⟨b, rfl, hs2, hg2⟩)
  have HS2 := Lib.hid hs2
  have HG2 := Lib.hid (HG1.out.keep hg2 hgl)
  have HW2 := Lib.hid (grown_low hg2 HW1.out)
  clear hs2 hg2 HS1 HG1 HW1
  go_cut [3, 4] from 6 (fun v3 _ wx => ∃ go k co L, v3 = .slice (some ⟨go, 0, none⟩) k co ∧ k ≤ 15 ∧ Hid (GO wx w.heap.size go k co L) ∧ Hid (∀ q ∈ L, q.1.bf.length ≤ 7) ∧ Hid (Src wx g A n c (N + 118)) ∧ Hid (w.grownBy wx (some g)))
  case first =>
    cases b with
    | false =>
      go_wp2
      go_meet
      exact ⟨_, _, _, _, rfl, by omega, HG2, HF1, Lib.hid (HS2.out.more (by omega)), HW2⟩
    | true =>
      have hs2 := HW2.out.size
      have hgl2 := HS2.out.lt
      have hO := GO.nil w2 w.heap.size hs2
      have hsz1 : (w2.alloc (.cells #[] 53)).heap.size = w2.heap.size + 1 := by simp
      have hR := lit_rd (w2.alloc (.cells #[] 53)) [10, 11, 14, 15] (by decide)
      rw [hsz1] at hR
      have HR := Lib.hid hR
      have HAL : Hid (Below w2.heap.size w2 ((w2.alloc (.cells #[] 53)).alloc (.cells (ints [10, 11, 14, 15]).toArray 2))) := Lib.hid (((Below.refl _ _).alloc (Nat.le_refl _) _).alloc (by simp) _)
      have HO := Lib.hid (hO.below (w1 := (w2.alloc (.cells #[] 53)).alloc (.cells (ints [10, 11, 14, 15]).toArray 2)) ((Below.refl _ _).alloc (Nat.le_refl _) _))
      clear hR hO hsz1
      go_wp2_with fail
      refine (among_any g A n c (N + 114 + 2) (w2.heap.size + 1) 0 4 4 [10, 11, 14, 15] _ (HS2.out.below HAL.out) (by omega) hn HR.out (by omega) (by omega)).mono ?_
      rintro e w3 ⟨T, hTm, rfl, hs3, hg3⟩
      have hT : 10 ≤ T ∧ T ≤ 15 := by simp at hTm; omega
      obtain ⟨T, rfl⟩ := Int.eq_ofNat_of_zero_le (show 0 ≤ T by omega)
      have hTn : T ≤ 15 := by omega
      have HS3 := Lib.hid hs3
      have HG3 := Lib.hid (HO.out.keep hg3 hgl)
      have HW3 := Lib.hid (grown_low hg3 (grown_bel HW2.out HAL.out))
      clear hs3 hg3 hTm HR HAL HO HS2 HG2 HW2 hs2 hgl2
      go_wp2
      go_loopg [3, 4] T (fun gg v3 v4 wr => ∃ (i go co : Nat) (L : List (OpV × Value)), i ≤ T ∧ T - i ≤ gg ∧ v4 = .int .i64 ((T : Int) - (i : Int)) ∧ v3 = .slice (some ⟨go, 0, none⟩) i co ∧ Hid (GO wr w.heap.size go i co L) ∧ Hid (∀ q ∈ L, q.1.bf.length ≤ 7) ∧ Hid (Src wr g A n c (N + 118)) ∧ Hid (w.grownBy wr (some g)))
      case atStart => exact ⟨0, _, _, [], Nat.zero_le _, by omega, by simp, rfl, HG3, Lib.hid (by simp), HS3, HW3⟩
      case round =>
        clear HG3 HS3 HW3
        obtain ⟨i, go, co, L, hiT, hgg, rfl, rfl, HG, HF, HS, HW⟩ := hrel
        have hcap := (Rd.of_own HG.out.own).cap
        have hmax := (Rd.of_own HG.out.own).max
        by_cases hlt : i < T
        · have hk0 : decide ((0 : Int) < (T : Int) - (i : Int)) = true := decide_eq_true (by omega)
          have hk1 : (0 : Int) < (T : Int) - (i : Int) := by omega
          have hcv := run_convert_bytes_arg (P := Tryd.prog) (wr.alloc (Obj.cells #[Value.int .u8 (97 + (i : Int))] 5)) 29 5 Tryd.underlying29 Tryd.underlying5 wr.heap.size 0 1 1 [97 + (i : Int)] rfl (fun q hq => by
            have : q = 0 := by omega
            subst this
            simp) 9 Tryd.underlying9
          have hs1 : (strOfNums [97 + (i : Int)]).size = 1 := rfl
          generalize strOfNums [97 + (i : Int)] = s1 at *
          have hgo := own_block HG.out.own go rfl
          have hs := HW.out.size
          have hgs := HS.out.lt
          have HAL : Hid (Below wr.heap.size wr ((wr.alloc (Obj.cells #[Value.int .u8 (97 + (i : Int))] 5)).alloc (.cells #[.string (⟨#[111]⟩ ++ s1), .int .i64 1, .slice none 0 0] 53))) := Lib.hid (((Below.refl _ _).alloc (Nat.le_refl _) _).alloc (by simp) _)
          have hnew := World.news_of_block (heap_alloc_new (wr.alloc (Obj.cells #[Value.int .u8 (97 + (i : Int))] 5)) (.cells #[.string (⟨#[111]⟩ ++ s1), .int .i64 1, .slice none 0 0] 53))
          rw [World.size_alloc] at hnew
          have HNEW := Lib.hid hnew
          have HTOP := Lib.hid HG.out.top
          clear hnew
          go_wp2_with (at_builtin; refine wpList_append_own_at _ rfl (.tmp 18) (.tmp 27) 25 rfl w.heap.size 53 i0 (.agg #[.string ByteArray.empty, .int .i64 0, .slice none 0 0]) 3 48 Tryd.underlying25 hi hz0 hz1 hz2 rfl (by decide) (Value.slice (some ⟨go, 0, none⟩) i co) _ _ rfl (own_below HG.out.own HAL.out) ⟨_, 0, none⟩ 1 1 [.string (⟨#[111]⟩ ++ s1), .int .i64 1, .slice none 0 0] rfl rfl HNEW.out (by intro u hu; simp at hu; rcases hu with rfl | rfl | rfl <;> rfl) (by unfold maxLen; omega) (by omega) (by simp; omega) ?_; intro v' wa hown' hga hdel hblk; clear hdel)
          obtain ⟨g7, d7, hv, hg7, _⟩ := own_form hown' (by omega)
          subst hv
          have hg71 : g7 = go ∨ ((wr.alloc (Obj.cells #[Value.int .u8 (97 + (i : Int))] 5)).alloc (.cells #[.string (⟨#[111]⟩ ++ s1), .int .i64 1, .slice none 0 0] 53)).heap.size ≤ g7 := by
            rcases hblk with e | e
            · simp [Value.ownBlock] at e
              exact .inl e
            · simp [Value.ownBlock] at e
              exact .inr (by simp; omega)
          have hG9 := (HG.out.below HAL.out).snoc (p := ⟨⟨#[111]⟩ ++ s1, 1, []⟩) (V := .slice none 0 0) (b1 := wr.heap.size) (World.ownsRow_nil _ _ _ _) (by omega) (fun k q U hk b hb => HTOP.out k q U hk b hb) (by omega) hown' hga hg71 (by show (⟨#[111]⟩ ++ s1 : ByteArray).size ≤ 12; rw [ByteArray.size_append, hs1]; decide)
          have HG9 := Lib.hid hG9
          have HF9 : Hid (∀ q ∈ L ++ [((⟨⟨#[111]⟩ ++ s1, 1, []⟩ : OpV), Value.slice none 0 0)], q.1.bf.length ≤ 7) := Lib.hid (fun q hq => by
            rcases List.mem_append.1 hq with hq | hq
            · exact HF.out q hq
            · simp at hq
              subst hq
              show 0 ≤ 7
              omega)
          have HS9 : Hid (Src wa g A n c (N + 118)) := Lib.hid (by
            refine (HS.out.below HAL.out).keep ?_
            exact (Below.refl _ _).grown hga (by simp; omega) (fun y hy => by simp [Value.ownBlock] at hy; omega))
          have HW9 := Lib.hid (grown_new (grown_bel HW.out HAL.out) hga (fun y hy => by simp [Value.ownBlock] at hy; omega))
          clear hown' hga hblk hg71 hG9 HG HAL HNEW HS HW
          go_wp2
          go_roundg (T - (i + 1))
          case measure => omega
          case rel => exact ⟨i + 1, g7, d7, _, by omega, by omega, by go_num, rfl, HG9, HF9, HS9, HW9⟩
        · go_wp2
          go_meet
          exact ⟨_, _, _, _, rfl, by omega, HG, HF, HS, HW⟩
  case rest =>
    clear HG2 HS2 HW2
    obtain ⟨go, k, co, L, rfl, hk, HG, HF, HS, HW⟩ := hcut
    obtain ⟨w3, rfl⟩ : ∃ w', w' = wc := ⟨_, rfl⟩
    have hcap := (Rd.of_own HG.out.own).cap
    have hmax := (Rd.of_own HG.out.own).max
    by_cases hk0 : k = 0
    · subst hk0
      go_wp2
      go_ret
      exact ⟨_, _, _, _, rfl, by omega, HG.out, fun q hq => Nat.le_trans (HF.out q hq) (by omega), HS.out.more (by omega), HW.out⟩
    · have hd0 : ((k : Int) == 0) = false := by simp; omega
      go_wp2_with fail
      refine (pick_any g A n c (N + 118) k _ HS.out (by omega) hn).mono ?_
      rintro e w4 ⟨r, ⟨hr0, hr1, hr2⟩, rfl, hs4, hg4⟩
      obtain ⟨r, rfl⟩ := Int.eq_ofNat_of_zero_le hr0
      have hrk : r < k := by
        by_cases e : k = 1
        · have := hr2 (by omega); omega
        · have := hr1 (by omega); omega
      have hri0 : (0 : Int) ≤ (r : Int) := by omega
      have hri1 : (r : Int) < (k : Int) := by omega
      have HG4 := Lib.hid (HG.out.keep hg4 hgl)
      have HS4 := Lib.hid hs4
      have HW4 := Lib.hid (grown_low hg4 HW.out)
      clear hs4 hg4 hr1 hr2 hr0 HG HS HW
      go_wp2_with fail
      refine (pick_any g A n c (N + 118 + 2) 24 _ HS4.out (by omega) hn).mono ?_
      rintro e w5 ⟨r5, ⟨hr50, hr51, _⟩, rfl, hs5, hg5⟩
      have HG5 := Lib.hid (HG4.out.keep hg5 hgl)
      have HS5 := Lib.hid hs5
      have HW5 := Lib.hid (grown_low hg5 HW4.out)
      have hgl5 := hs5.lt
      clear hs5 hg5 hr51 HG4 HS4 HW4
      obtain ⟨p, V, hL⟩ : ∃ p V, L[r]? = some (p, V) := ⟨_, _, List.getElem?_eq_getElem (by have := HG5.out.len; omega)⟩
      have HL := Lib.hid hL
      have hgo := own_block HG5.out.own go rfl
      have hs5 := HW5.out.size
      have CELLS := Lib.hid (fun (W : World) (h : GO W w.heap.size go k co L) => show W.cell? ⟨go, r * 3, none⟩ = some (.string p.nm) ∧ W.cell? ⟨go, r * 3 + 1, none⟩ = some (.int .i64 p.mn) ∧ W.cell? ⟨go, r * 3 + 2, none⟩ = some V ∧ (∀ i, W.frozen? ⟨go, i, none⟩ = false) from by
        obtain ⟨e0, e1, e2⟩ := opc_at HL.out
        refine ⟨?_, ?_, ?_, h.own.frozenAt⟩
        · rw [h.own.cellAt (r * 3) (by omega)]; exact e0
        · rw [h.own.cellAt (r * 3 + 1) (by omega)]; exact e1
        · rw [h.own.cellAt (r * 3 + 2) (by omega)]; exact e2)
      clear hL
      by_cases h0 : r5 = 0
      · subst h0
        have hR := lit_rdt w5 [⟨#[]⟩, ⟨#[66, 111, 120]⟩, ⟨#[99, 108, 111, 115, 105, 110, 103]⟩] (by decide)
        have HR := Lib.hid hR
        have HAL : Hid (Below w5.heap.size w5 (w5.alloc (.cells (txs [⟨#[]⟩, ⟨#[66, 111, 120]⟩, ⟨#[99, 108, 111, 115, 105, 110, 103]⟩]).toArray 9))) := Lib.hid ((Below.refl _ _).alloc (Nat.le_refl _) _)
        clear hR
        go_wp2_with fail
        refine (text_any g A n c (N + 118 + 2 + 2) w5.heap.size 0 3 3 [⟨#[]⟩, ⟨#[66, 111, 120]⟩, ⟨#[99, 108, 111, 115, 105, 110, 103]⟩] _ (HS5.out.below HAL.out) (by omega) hn HR.out (by omega) (by omega)).mono ?_
        rintro e w6 ⟨s, hsm, rfl, hs6, hg6⟩
        have hs12 : s.size ≤ 12 := by
          simp at hsm
          rcases hsm with rfl | rfl | rfl <;> decide
        have HG6 := Lib.hid ((HG5.out.below HAL.out).keep hg6 hgl)
        have HS6 := Lib.hid hs6
        have HW6 := Lib.hid (grown_low hg6 (grown_bel HW5.out HAL.out))
        obtain ⟨q0, q1, q2, qf⟩ := CELLS.out w6 HG6.out
        clear hsm hs6 hg6 HR HAL HG5 HS5 HW5
        go_wp2
        go_ret
        have hF := HG6.out.name HL.out s hs12
        exact ⟨_, _, _, _, rfl, by omega, hF.1, set_len HL.out HF.out, (HS6.out.set (by omega) _).more (by omega), grown_new HW6.out hF.2 (fun y hy => by injection hy with hy; omega)⟩
      by_cases h1 : r5 = 1
      · subst h1
        have hR := lit_rd w5 [0, 1, 600, 601, -9223372036854775808] (by decide)
        have HR := Lib.hid hR
        have HAL : Hid (Below w5.heap.size w5 (w5.alloc (.cells (ints [0, 1, 600, 601, -9223372036854775808]).toArray 2))) := Lib.hid ((Below.refl _ _).alloc (Nat.le_refl _) _)
        clear hR
        go_wp2_with fail
        refine (among_any g A n c (N + 118 + 2 + 2) w5.heap.size 0 5 5 [0, 1, 600, 601, -9223372036854775808] _ (HS5.out.below HAL.out) (by omega) hn HR.out (by omega) (by omega)).mono ?_
        rintro e w6 ⟨z, _, rfl, hs6, hg6⟩
        have HG6 := Lib.hid ((HG5.out.below HAL.out).keep hg6 hgl)
        have HS6 := Lib.hid hs6
        have HW6 := Lib.hid (grown_low hg6 (grown_bel HW5.out HAL.out))
        obtain ⟨q0, q1, q2, qf⟩ := CELLS.out w6 HG6.out
        clear hs6 hg6 HR HAL HG5 HS5 HW5
        go_wp2
        go_ret
        have hF := HG6.out.mins HL.out z
        exact ⟨_, _, _, _, rfl, by omega, hF.1, set_len HL.out HF.out, (HS6.out.set (by omega) _).more (by omega), grown_new HW6.out hF.2 (fun y hy => by injection hy with hy; omega)⟩
      have hd1 : (r5 == 0) = false := by simpa using h0
      have hd2 : (r5 == 1) = false := by simpa using h1
      by_cases h2 : r5 = 2
      · subst h2
        obtain ⟨q0, q1, q2, qf⟩ := CELLS.out w5 HG5.out
        have hn7 := HF.out _ (List.mem_of_getElem? HL.out)
        simp only at hn7
        have hV := (HG5.out.nest r p V HL.out).1
        obtain ⟨AV, cV, hVe⟩ := own_shape hV
        have hcV := (Rd.of_own (show w5.ownsRow w.heap.size 2 1 (.slice AV p.bf.length cV) p.bf.length (ints p.bf) from by rw [← hVe]; exact hV)).cap
        subst hVe
        have HAL : Hid (Below w5.heap.size w5 (w5.alloc (.cells #[.int .i64 (-1), .int .i64 0, .int .i64 ((k : Int) - 1), .int .i64 k] 2)).drew) := Lib.hid ((Below.refl _ _).alloc (Nat.le_refl _) _).drew
        have HR : Hid (Rd (w5.alloc (.cells #[.int .i64 (-1), .int .i64 0, .int .i64 ((k : Int) - 1), .int .i64 k] 2)).drew 1 (some ⟨w5.heap.size, 0, none⟩) 4 4 (ints [-1, 0, (k : Int) - 1, k])) := Lib.hid ((lit_rd w5 [-1, 0, (k : Int) - 1, k] (by show 4 ≤ 1000; omega)).below (Below.refl _ _).drew)
        have HNEST : Hid (∀ W : World, GO W w.heap.size go k co L → W.ownsRow w.heap.size 2 1 (.slice AV p.bf.length cV) p.bf.length (ints p.bf)) := Lib.hid (fun W h => (h.nest r p _ HL.out).1)
        have HNX : Hid (∀ (W W2 : World) (o : Obj), GO W w.heap.size go k co L → (W.alloc o).grownBy W2 (Value.slice AV p.bf.length cV).ownBlock → W2.cell? ⟨go, r * 3 + 2, none⟩ = some (.slice AV p.bf.length cV) ∧ ∀ i, W2.frozen? ⟨go, i, none⟩ = false) := Lib.hid (fun W W2 o h hg => by
          have h2 := h.below (w1 := W.alloc o) ((Below.refl _ _).alloc (Nat.le_refl _) _)
          obtain ⟨e0, e1, e2, e3⟩ := CELLS.out _ h2
          have hbk := hg.block go (own_block h2.own go rfl).2 (fun e => (h.nest r p _ HL.out).2 e.symm)
          exact ⟨(World.cell?_of_block hbk).trans e2, fun i => (World.frozen?_of_block hbk).trans (e3 i)⟩)
        have HGR : Hid (∀ (W W1 : World) (V1 : Value) (z : Int), GO W w.heap.size go k co L → W1.ownsRow w.heap.size 2 1 V1 (p.bf.length + 1) (ints p.bf ++ [.int .i64 z]) → W.grownBy W1 (Value.slice AV p.bf.length cV).ownBlock → (V1.ownBlock = (Value.slice AV p.bf.length cV).ownBlock ∨ ∃ b, V1.ownBlock = some b ∧ W.heap.size ≤ b) →
            GO (W1.setCell ⟨go, r * 3 + 2, none⟩ V1) w.heap.size go k co (L.set r (⟨p.nm, p.mn, p.bf ++ [z]⟩, V1)) ∧ ∀ q ∈ L.set r ((⟨p.nm, p.mn, p.bf ++ [z]⟩ : OpV), V1), q.1.bf.length ≤ 15) := Lib.hid (fun W W1 V1 z h ho hg hb => by
          have e1 : ints p.bf ++ [.int .i64 z] = ints (p.bf ++ [z]) := by simp [ints]
          have e2 : p.bf.length + 1 = (p.bf ++ [z]).length := by simp
          rw [e1, e2] at ho
          refine ⟨h.grow HL.out ho hg hb, fun q hq => ?_⟩
          rcases List.mem_or_eq_of_mem_set hq with hq | rfl
          · exact Nat.le_trans (HF.out q hq) (by omega)
          · show (p.bf ++ [z]).length ≤ 15
            rw [← e2]
            omega)
        clear hV
        generalize p.bf.length = m at *
        have hwk : IntKind.i64.wrap ((k : Int) - 1) = (k : Int) - 1 := IntWalk.i64_in _ (by omega)
        go_upto_region 17 with fail
        rename_i kk3 z6
        clear hi hz0 hz1 hz2
        go_region_law (first
          | (refine step_append_lies _ (by rfl) _ _ _ (by rfl) w.heap.size 2 i6 _ 1 8 Tryd.underlying32 gi gz0 gz1 gz2 rfl (by omega) (Value.slice AV m cV) m (ints p.bf) (by rfl) (own_belowV (HNEST.out _ hG6) ((Below.refl _ _).alloc (Nat.le_refl _) _)) ⟨w6.heap.size, 0, none⟩ 1 1 [.int .i64 z] (by rfl) (by rfl) (World.news_of_block (heap_alloc_new w6 (.cells #[.int .i64 z] 2))) (by simp [Value.oneCell']) (by omega) (by unfold maxLen; omega) (by omega) (by simp; omega) (w6.heap.size + 1) (by simp) ?_; intro gg cap wa hown' hgrow hat hlt'; obtain ⟨kx2, kxf⟩ := HNX.out _ _ _ hG6 hgrow)
          | (go_simp; go_at_call 47; refine (among_any g A n c (N + 118 + 2 + 2) w5.heap.size 0 4 4 [-1, 0, (k : Int) - 1, k] _ (HS5.out.below HAL.out) (by omega) hn HR.out (by omega) (by omega)).mono ?_; rintro e w6 ⟨z, _, rfl, hs6, hg6⟩; have hG6 := (HG5.out.below HAL.out).keep hg6 hgl; obtain ⟨p0, p1, p2, pf⟩ := CELLS.out w6 hG6; have hz6 := hg6.size; have hgo6 := own_block hG6.own go rfl))
        all_goals
          have hrow : ∀ y, (Value.slice AV m cV).ownBlock = some y → w.heap.size ≤ y := fun y hy => ((HNEST.out _ hG6).lt y hy).1
          have hgw : w6.grownBy wa (Value.slice AV m cV).ownBlock := World.grownBy.trans (grown_alc w6 (.cells #[.int .i64 z] 2) _) hgrow
          have hG9 := HGR.out w6 wa (.slice (some ⟨gg, 0, none⟩) (m + 1) cap) z hG6 hown' hgw (by
            rcases hat with e | e
            · exact .inl e.symm
            · exact .inr ⟨gg, rfl, by omega⟩)
          have hW6 : w.grownBy w6 (some g) := grown_low hg6 (grown_bel HW5.out HAL.out)
          have HW9 := Lib.hid (grown_new (grown_new hW6 hgw hrow) (grown_setO wa go (r * 3 + 2) (.slice (some ⟨gg, 0, none⟩) (m + 1) cap)) (fun y hy => by injection hy with hy; omega))
          have HS9 : Hid (Src wa g A n c (N + 118 + 2 + 2 + 2)) := Lib.hid (hs6.keep ((Below.refl _ _).grown hgw (by omega) (fun y hy => by have := hrow y hy; omega)))
          have HG9 := Lib.hid hG9
          clear hG9 hW6 hgw hrow hgrow hat hown' hs6 hg6 hG6 kx2 kxf p0 p1 p2 pf
          go_wp2
          go_ret
          exact ⟨_, _, _, _, rfl, by omega, HG9.out.1, HG9.out.2, (HS9.out.set (by omega) _).more (by omega), HW9.out⟩
      · have hd3 : (r5 == 2) = false := by simpa using h2
        go_wp2
        go_ret
        exact ⟨_, _, _, _, rfl, by omega, HG5.out, fun q hq => Nat.le_trans (HF.out q hq) (by omega), HS5.out.more (by omega), HW5.out⟩
end Go.Proofs.YtgghjieeckkpbaaDoor
