/- TallRows of the program. -/
import Derived.Test.YthdbaflihgkomaaTl4
namespace Go.Proofs.Ythdbaflihgkomaa
open Go.RowKit Go.Shelf

def tallH (ps : List (Int × Int)) (i : Int) : Int := (ps.getD i.toNat (0, 0)).2
def tallC (ps : List (Int × Int)) (i j : Int) : Int := cmpZ (tallH ps j) (tallH ps i)
theorem cmpZ_bd (a b : Int) : -1 ≤ cmpZ a b ∧ cmpZ a b ≤ 1 := by unfold cmpZ; split <;> (try split) <;> omega
theorem cmpZ_neg (a b : Int) : decide (cmpZ a b < 0) = decide (a < b) := by
  unfold cmpZ
  by_cases h : a < b
  · rw [if_pos h]; simp [h]
  · rw [if_neg h]; split <;> simp [h]
theorem tall_lt (ps : List (Int × Int)) (i j : Int) : ltC (tallC ps) i j = decide (tallH ps j < tallH ps i) := by
  unfold ltC tallC
  exact cmpZ_neg _ _
def tallZ (ps : List (Int × Int)) (roll : Int) : List Int × Int := if blocksB ps roll = true then ((firstK ps roll (sortK (ltC (tallC ps)) (upto ps.length) ps.length) ps.length).1, 0) else ([], 1)
theorem tall_len (ps : List (Int × Int)) (roll : Int) : (tallZ ps roll).1.length ≤ ps.length := by
  unfold tallZ
  split
  · rw [firstK_len]; exact Nat.le_refl _
  · simp
theorem mem_upto {n : Nat} {i : Int} (h : i ∈ upto n) : ∃ a : Nat, i = (a : Int) ∧ a < n := by
  obtain ⟨j, hj⟩ := List.getElem?_of_mem h
  exact ⟨j, upto_get hj⟩
theorem pairD {ps : List (Int × Int)} {a : Nat} (h : a < ps.length) : ∃ x, ps[a]? = some (x, tallH ps (a : Int)) := by
  refine ⟨(ps.getD a (0, 0)).1, ?_⟩
  unfold tallH
  simp [List.getD, List.getElem?_eq_getElem h]

theorem tall_cmpB (b o n c p : Nat) (ps : List (Int × Int)) (w1 : World) (hl : ps.length = n) (h : Rd w1 2 (some ⟨b, o, none⟩) n c (pr ps)) (h1 : w1.cell? ⟨p, 0, none⟩ = some (.slice (some ⟨b, o, none⟩) n c)) :
    CmpB Try.prog 72 #[.pointer (some ⟨p, 0, none⟩)] (tallC ps) (upto n) (fun W => Below w1.heap.size w1 W) := fun W hW i j hi hj => by
  obtain ⟨a, rfl, ha⟩ := mem_upto hi
  obtain ⟨a', rfl, ha'⟩ := mem_upto hj
  obtain ⟨x, hx⟩ := pairD (ps := ps) (a := a) (by omega)
  obtain ⟨y, hy⟩ := pairD (ps := ps) (a := a') (by omega)
  exact tall_cmp b o n c p a a' ps x _ y _ W (h.below hW) ((hW.cell (p := ⟨p, 0, none⟩) (World.block_lt_of_cell? _ _ h1)).trans h1) ha ha' hx hy

set_option maxRecDepth 100000 in
set_option maxHeartbeats 4000000 in
theorem implTallRows_any (b o : Nat) (n c : Nat) (ps : List (Int × Int)) (roll : Int) (w : World) (h : Rd w 2 (some ⟨b, o, none⟩) n c (pr ps)) :
    Calls Try.prog 45 #[.slice (some ⟨b, o, none⟩) n c, .int .i64 roll] w (IntPost w (tallZ ps roll).1 (tallZ ps roll).2) := by
  have eg : ∀ args w, (callFunc 72 args).run Try.prog w = .ok (.enter 72 args) w := enters_of Try.func72 (by kernel_rfl) rfl
  have hl := h.plen
  have h1 := h.cap
  have h2 := h.max
  have b0 : Below w.heap.size w (w.alloc (.cells #[.slice (some ⟨b, o, none⟩) n c] 25)) := (by go_grown)
  have B0 := Box.new w #[.slice (some ⟨b, o, none⟩) n c] 25
  have hcall := fun W h => implValidBlocks_any (some ⟨b, o, none⟩) n c ps roll W h
  unfold tallZ
  cases hz : blocksB ps roll with
  | false =>
    rw [hz] at hcall
    rw [if_neg (by simp)]
    have HC := Lib.hid hcall
    have H := Lib.hid (h.below b0)
    have HB0 := Lib.hid b0
    clear hcall h hz b0 B0 eg
    go_enter Try.func45, Try.ntmps45
    go_wp2_with fail
    refine (HC.out _ H.out).mono ?_
    rintro e w1 ⟨rfl, hb⟩
    go_wp2
    go_ret2
    exact intPost_nil (HB0.out.trans (hb.mono HB0.out.size))
  | true =>
    have ho := bok hz
    have hn9 := ho.len
    have hn9' : n ≤ 9 := by omega
    rw [hz] at hcall
    rw [if_pos rfl]
    have hR : (firstK ps roll (sortK (ltC (tallC ps)) (upto ps.length) ps.length) ps.length).1 = (firstK ps roll (sortK (ltC (tallC ps)) (upto n) n) n).1 := by rw [hl]
    rw [hR]
    have hmem : ∀ (j : Nat) (i : Int), (sortK (ltC (tallC ps)) (upto n) n)[j]? = some i → 0 ≤ i ∧ i < n := fun j i hj => by
      have hm := sortK_mem (lt := ltC (tallC ps)) (os := upto n) (k := n) (by rw [upto_len]; exact Nat.le_refl _) (List.mem_of_getElem? hj)
      obtain ⟨a, rfl, ha⟩ := mem_upto hm
      omega
    have hf := fun W B d h hB => firstRows_any b o n c ps roll B n d (sortK (ltC (tallC ps)) (upto n) n) W h hB ho hn9' hmem
    have hs := fun W g d hown K hK hKs hKd hc => sortStable_any 72 #[.pointer (some ⟨w.heap.size, 0, none⟩)] eg (tallC ps) (fun i j => cmpZ_bd _ _) (upto n) K w.heap.size g n d W hn9' hown hK hKs hKd hc
    have hcb := fun w1 h h1 => tall_cmpB b o n c w.heap.size ps w1 hl h h1
    generalize (firstK ps roll (sortK (ltC (tallC ps)) (upto n) n) n).1 = R at *
    generalize sortK (ltC (tallC ps)) (upto n) n = os at *
    have HC := Lib.hid hcall
    have HF := Lib.hid hf
    have HS := Lib.hid hs
    have HCB := Lib.hid hcb
    have H := Lib.hid (h.below b0)
    have HB0 := Lib.hid b0
    have BX := Lib.hid B0
    clear hcall h hz hl ho hn9 hf hR hs hcb eg b0 B0 hmem
    go_enter Try.func45, Try.ntmps45
    go_wp2_with fail
    refine (HC.out _ H.out).mono ?_
    rintro e w1 ⟨rfl, hb1⟩
    have H1 := Lib.hid (H.out.below hb1)
    have HB1 := Lib.hid (HB0.out.trans (hb1.mono HB0.out.size))
    have BX1 := Lib.hid (BX.out.below hb1)
    have c1 : w1.cell? ⟨w.heap.size, 0, none⟩ = some (.slice (some ⟨b, o, none⟩) n c) := BX1.out.cell 0
    clear hb1 H HC HB0 BX
    go_wp2_with fail
    refine (inOrder_any _ n c _ hn9' h1 h2).mono ?_
    rintro e w2 ⟨g, d, rfl, hown, hb2⟩
    have hg := (own_block hown g rfl).1
    have HO := Lib.hid (own_base hown HB1.out.size)
    have HB2 := Lib.hid hb2
    clear hown hb2
    have hsz := HB1.out.size
    go_wp2_with fail
    refine (HS.out _ g d HO.out (fun W => Below w1.heap.size w1 W) HB2.out (fun W i u hW => hW.setCell hg u) (fun W q hW => below_drewN hW q) (HCB.out w1 H1.out c1)).mono ?_
    rintro e w3 ⟨rfl, hown3, hb3, hg3⟩
    have HR := Lib.hid (Rd.of_own hown3)
    have H3 := Lib.hid (H1.out.below hb3)
    have HB3 := Lib.hid (HB1.out.trans (hb3.mono HB1.out.size))
    have c3 : w3.cell? ⟨w.heap.size, 0, none⟩ = some (.slice (some ⟨b, o, none⟩) n c) := (BX1.out.below hb3).cell 0
    clear hown3 hb3 hg3 H1 HB1 BX1 c1 HO HB2 hg
    go_wp2_with fail
    refine (HF.out _ _ _ H3.out HR.out).mono ?_
    rintro e w4 ⟨g4, rfl, hown, hb4⟩
    have b4 := HB3.out.trans (hb4.mono HB3.out.size)
    have HO4 := Lib.hid (own_base hown HB3.out.size)
    clear hown hb4
    go_wp2
    go_ret2
    exact ⟨_, _, _, rfl, HO4.out, b4⟩
end Go.Proofs.Ythdbaflihgkomaa
