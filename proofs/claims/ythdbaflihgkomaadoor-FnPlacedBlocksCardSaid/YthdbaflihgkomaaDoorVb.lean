/- ValidBlocks (program and reference). -/
import Derived.Test.YthdbaflihgkomaaDoorMa
namespace Go.Proofs.YthdbaflihgkomaaDoor
open Go.RowKit Go.Shelf

def blkB (roll : Int) (p : Int × Int) : Bool := inB p.1 1 roll && inB p.2 1 5000
def blocksB (ps : List (Int × Int)) (roll : Int) : Bool := inB roll 1 5000 && (decide (ps.length ≤ 9) && !(ps.any fun p => !blkB roll p))
theorem blocks_roll {ps : List (Int × Int)} {roll : Int} (h : inB roll 1 5000 = false) : blocksB ps roll = false := by unfold blocksB; rw [h]; rfl
theorem blocks_long {ps : List (Int × Int)} {roll : Int} (h : 9 < ps.length) : blocksB ps roll = false := by
  unfold blocksB
  rw [show decide (ps.length ≤ 9) = false from by simp; omega]
  simp
theorem blocks_bad {ps : List (Int × Int)} {roll : Int} {k : Nat} {p : Int × Int} (hx : ps[k]? = some p) (h : blkB roll p = false) : blocksB ps roll = false := by
  unfold blocksB
  have : (ps.any fun p => !blkB roll p) = true := by
    rw [List.any_eq_true]
    exact ⟨p, List.mem_of_getElem? hx, by rw [h]; rfl⟩
  rw [this]
  simp
theorem blocks_ok {ps : List (Int × Int)} {roll : Int} (h0 : inB roll 1 5000 = true) (h1 : ps.length ≤ 9) (h : ∀ j p, j < ps.length → ps[j]? = some p → blkB roll p = true) : blocksB ps roll = true := by
  unfold blocksB
  have : (ps.any fun p => !blkB roll p) = false := by
    rw [List.any_eq_false]
    intro p hp
    obtain ⟨j, hj, rfl⟩ := List.getElem_of_mem hp
    rw [h j _ hj (List.getElem?_eq_getElem hj)]
    simp
  rw [this, h0, show decide (ps.length ≤ 9) = true from by simpa using h1]
  rfl
/-- What valid blocks are. -/
structure BOk (ps : List (Int × Int)) (roll : Int) : Prop where
  r0 : 1 ≤ roll
  r1 : roll ≤ 5000
  len : ps.length ≤ 9
  blk : ∀ (j : Nat) (p : Int × Int), ps[j]? = some p → (1 ≤ p.1 ∧ p.1 ≤ roll) ∧ (1 ≤ p.2 ∧ p.2 ≤ 5000)
theorem bok {ps : List (Int × Int)} {roll : Int} (h : blocksB ps roll = true) : BOk ps roll := by
  unfold blocksB at h
  simp only [Bool.and_eq_true, decide_eq_true_eq, Bool.not_eq_true'] at h
  obtain ⟨h0, h1, h2⟩ := h
  have h0 := inB_true h0
  refine ⟨h0.1, h0.2, h1, fun j p hp => ?_⟩
  rw [List.any_eq_false] at h2
  have := h2 p (List.mem_of_getElem? hp)
  simp only [Bool.not_eq_true', Bool.not_eq_false] at this
  unfold blkB at this
  simp only [Bool.and_eq_true] at this
  exact ⟨inB_true this.1, inB_true this.2⟩

set_option maxHeartbeats 2000000 in
theorem l11Ok_any (A : Option Addr) (n c : Nat) (ps : List (Int × Int)) (roll : Int) (w : World) (h : Rd w 2 A n c (pr ps)) :
    Calls Tryd.prog 26 #[.slice A n c, .int .i64 roll] w fun e w' => e = .returned (.bool (blocksB ps roll)) ∧ w = w' := by
  have hl := h.plen
  have h1 := h.cap
  have h2 := h.max
  cases hr : inB roll 1 5000 with
  | false =>
    rw [blocks_roll hr]
    have HR := Lib.hid hr
    clear hr h
    go_enter Tryd.func26, Tryd.ntmps26
    go_wp2_with (go_at_call 54; refine (l00In_any _ _ _ _).mono ?_; rw [HR.out]; rintro e w' ⟨rfl, rfl⟩)
    go_ret
    exact ⟨rfl, rfl⟩
  | true =>
  by_cases hn : 9 < n
  · rw [blocks_long (by omega)]
    have hn' : (9 : Int) < (n : Int) := by omega
    have HR := Lib.hid hr
    clear hr h
    go_enter Tryd.func26, Tryd.ntmps26
    go_wp2_with (go_at_call 54; refine (l00In_any _ _ _ _).mono ?_; rw [HR.out]; rintro e w' ⟨rfl, rfl⟩)
    go_ret
    exact ⟨rfl, rfl⟩
  obtain ⟨r, hr'⟩ : ∃ r, blocksB ps roll = r := ⟨_, rfl⟩
  rw [hr']
  have hn' : ¬ (9 : Int) < (n : Int) := by omega
  have HZ := Lib.hid hr'
  have HR := Lib.hid hr
  have H := Lib.hid h
  have HL := Lib.hid hl
  have HN := Lib.hid hn
  clear hr hr' h hl hn
  go_enter Tryd.func26, Tryd.ntmps26
  go_wp2_with (go_at_call 54; refine (l00In_any _ _ _ _).mono ?_; rw [HR.out]; rintro e w' ⟨rfl, rfl⟩)
  go_loop [5] (fun i => ∃ k : Nat, k ≤ n ∧ i = .int .i64 k ∧ Hid (∀ j p, j < k → ps[j]? = some p → blkB roll p = true)) (fun i => n - (intOf i).toNat)
  case atStart => exact ⟨0, Nat.zero_le _, rfl, (show Hid _ from fun j _ hj => absurd hj (Nat.not_lt_zero _))⟩
  case round =>
    obtain ⟨k, hk, rfl, HB⟩ := hrel
    by_cases hlt : k < n
    · obtain ⟨b, o, x, y, hA, hbl, hx, hc1, hc2⟩ := H.out.pair hlt
      subst hA
      have HX := Lib.hid hx
      have hk0 : (0 : Int) ≤ (k : Int) := by omega
      have hk1 : (k : Int) < (n : Int) := by omega
      clear hx
      cases e1 : inB x 1 roll with
      | false =>
        have E1 := Lib.hid e1
        clear e1
        go_wp2_with (go_at_call 54; refine (l00In_any _ _ _ _).mono ?_; rw [E1.out]; rintro e w' ⟨rfl, rfl⟩)
        go_ret
        exact ⟨ret_b (by rw [← HZ.out]; exact (blocks_bad HX.out (by unfold blkB; rw [E1.out]; rfl)).symm), rfl⟩
      | true =>
        have E1 := Lib.hid e1
        clear e1
        cases e2 : inB y 1 5000 with
        | false =>
          have E2 := Lib.hid e2
          clear e2
          go_wp2_with (first | (go_at_call 54; (with_reducible refine (l00In_any x 1 roll _).mono ?_); rw [E1.out]; rintro e w' ⟨rfl, rfl⟩) | (go_at_call 54; refine (l00In_any _ _ _ _).mono ?_; rw [E2.out]; rintro e w' ⟨rfl, rfl⟩))
          go_ret
          exact ⟨ret_b (by rw [← HZ.out]; exact (blocks_bad HX.out (by unfold blkB; rw [E2.out]; simp)).symm), rfl⟩
        | true =>
          have E2 := Lib.hid e2
          clear e2
          go_wp2_with (first | (go_at_call 54; (with_reducible refine (l00In_any x 1 roll _).mono ?_); rw [E1.out]; rintro e w' ⟨rfl, rfl⟩) | (go_at_call 54; refine (l00In_any _ _ _ _).mono ?_; rw [E2.out]; rintro e w' ⟨rfl, rfl⟩))
          go_round
          case rel =>
            refine ⟨k + 1, by omega, by go_num, (show Hid _ from fun j p hj hp => ?_)⟩
            by_cases e : j = k
            · subst e
              have := HX.out
              rw [this] at hp
              injection hp with hp
              rw [← hp]
              unfold blkB
              rw [E1.out, E2.out]
              rfl
            · exact HB.out j p (by omega) hp
          case measure => simp [intOf]; omega
    · go_wp2
      go_ret
      have : k = n := by omega
      subst this
      exact ⟨ret_b (by rw [← HZ.out]; exact (blocks_ok HR.out (by have := HL.out; have := HN.out; omega) (by rw [HL.out]; exact HB.out)).symm), rfl⟩

set_option maxHeartbeats 1000000 in
theorem validBlocks_pred (ps : List (Int × Int)) (roll : Int) (b1 : Nat) (w : World) (h1 : w.cell? ⟨b1, 0, none⟩ = some (.int .i64 roll)) :
    PredB Tryd.prog 57 #[.pointer (some ⟨b1, 0, none⟩)] prV (fun p => !blkB roll p) ps w := fun W p _ hb => by
  have hl1 := World.block_lt_of_cell? _ _ h1
  have c1 : W.cell? ⟨b1, 0, none⟩ = some (.int .i64 roll) := (hb.cell (p := ⟨b1, 0, none⟩) hl1).trans h1
  obtain ⟨x, y⟩ := p
  have c2 : (W.alloc (.cells #[.int .i64 x, .int .i64 y] 49)).cell? ⟨b1, 0, none⟩ = some (.int .i64 roll) :=
    (((Below.refl _ _).alloc (Nat.le_refl _) _ : Below W.heap.size W (W.alloc (.cells #[.int .i64 x, .int .i64 y] 49))).cell (p := ⟨b1, 0, none⟩) (World.block_lt_of_cell? _ _ c1)).trans c1
  clear h1 hb c1
  show Calls Tryd.prog 57 #[.agg #[.int .i64 x, .int .i64 y], .pointer (some ⟨b1, 0, none⟩)] W fun e w' => e = .returned (.bool (!(inB x 1 roll && inB y 1 5000))) ∧ Below W.heap.size W w'
  cases e1 : inB x 1 roll with
  | false =>
    go_enter Tryd.func57, Tryd.ntmps57
    go_wp2_with (go_at_call 55; refine (within_any _ _ _ _).mono ?_; rw [e1]; rintro e w' ⟨rfl, rfl⟩)
    go_ret
    exact ⟨rfl, (by go_grown)⟩
  | true =>
    go_enter Tryd.func57, Tryd.ntmps57
    go_wp2_with (first | (go_at_call 55; (with_reducible refine (within_any x 1 roll _).mono ?_); rw [e1]; rintro e w' ⟨rfl, rfl⟩) | (go_at_call 55; refine (within_any _ _ _ _).mono ?_; rintro e w' ⟨rfl, rfl⟩))
    go_ret
    exact ⟨by simp, (by go_grown)⟩

set_option maxHeartbeats 1000000 in
theorem implValidBlocks_any (A : Option Addr) (n c : Nat) (ps : List (Int × Int)) (roll : Int) (w : World) (h : Rd w 2 A n c (pr ps)) :
    Calls Tryd.prog 29 #[.slice A n c, .int .i64 roll] w fun e w' => e = .returned (.bool (blocksB ps roll)) ∧ Below w.heap.size w w' := by
  have hl := h.plen
  have h1 := h.cap
  have h2 := h.max
  have eg : ∀ args w, (callFunc 57 args).run Tryd.prog w = .ok (.enter 57 args) w := enters_of Tryd.func57 (by kernel_rfl) rfl
  have b0 : Below w.heap.size w (w.alloc (.cells #[.int .i64 roll] 2)) := (by go_grown)
  have hcall := containsFunc_pr 57 #[.pointer (some ⟨w.heap.size, 0, none⟩)] eg (fun p => !blkB roll p) A n c ps
    (w.alloc (.cells #[.int .i64 roll] 2)) (h.below b0) (validBlocks_pred ps roll w.heap.size _ (by simp))
  have hz : blocksB ps roll = (inB roll 1 5000 && (decide (n ≤ 9) && !(ps.any fun p => !blkB roll p))) := by rw [← hl]; rfl
  rw [hz]
  generalize (ps.any fun p => !blkB roll p) = r at *
  have HC := Lib.hid hcall
  clear hcall h hz eg hl
  cases hr : inB roll 1 5000 with
  | false =>
    have HR := Lib.hid hr
    clear hr
    go_enter Tryd.func29, Tryd.ntmps29
    go_wp2_with (go_at_call 55; refine (within_any _ _ _ _).mono ?_; rw [HR.out]; rintro e w' ⟨rfl, rfl⟩)
    go_ret
    exact ⟨rfl, b0⟩
  | true =>
  have HR := Lib.hid hr
  clear hr
  by_cases hn : n ≤ 9
  · have hn' : (n : Int) ≤ 9 := by omega
    go_enter Tryd.func29, Tryd.ntmps29
    go_wp2_with fail
    refine (within_any _ _ _ _).mono ?_
    rw [HR.out]
    rintro e w' ⟨rfl, rfl⟩
    go_wp2_with fail
    refine (HC.out).mono ?_
    rintro e w' ⟨rfl, hb⟩
    go_wp2_with fail
    go_ret
    exact ⟨ret_b (by simp [hn]), b0.trans (hb.mono b0.size)⟩
  · have hn' : ¬ (n : Int) ≤ 9 := by omega
    go_enter Tryd.func29, Tryd.ntmps29
    go_wp2_with (go_at_call 55; refine (within_any _ _ _ _).mono ?_; rw [HR.out]; rintro e w' ⟨rfl, rfl⟩)
    go_ret
    exact ⟨ret_b (by simp), b0⟩
end Go.Proofs.YthdbaflihgkomaaDoor
