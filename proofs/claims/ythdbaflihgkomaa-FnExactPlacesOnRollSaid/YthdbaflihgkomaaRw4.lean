/- The code of blocks and rows, and the first row with a fault (program and reference). -/
import Derived.Test.YthdbaflihgkomaaRw3
namespace Go.Proofs.Ythdbaflihgkomaa
open Go.RowKit Go.Shelf

theorem outB_hit {xs : List Int} {k : Nat} {x lo hi : Int} (hx : xs[k]? = some x) (h : inB x lo hi = false) : outB xs lo hi = true := by
  unfold outB
  rw [List.any_eq_true]
  exact ⟨x, List.mem_of_getElem? hx, by rw [h]; rfl⟩
theorem outB_none {xs : List Int} {lo hi : Int} (h : ∀ (j : Nat) (x : Int), j < xs.length → xs[j]? = some x → inB x lo hi = true) : outB xs lo hi = false := by
  unfold outB
  rw [List.any_eq_false]
  intro x hx
  obtain ⟨j, hj, rfl⟩ := List.getElem_of_mem hx
  rw [h j _ hj (List.getElem?_eq_getElem hj)]
  simp

set_option maxHeartbeats 2000000 in
theorem l11Code_any (A : Option Addr) (n c : Nat) (ps : List (Int × Int)) (roll : Int) (B : Option Addr) (m d : Nat) (rs : List Int) (w : World) (h : Rd w 2 A n c (pr ps)) (hB : Rd w 1 B m d (ints rs)) :
    Calls Try.prog 58 #[.slice A n c, .int .i64 roll, .slice B m d] w fun e w' => e = .returned (.int .i64 (rowsC ps roll rs)) ∧ w = w' := by
  have hl := h.plen
  have hl' := hB.ilen
  have h1 := h.cap
  have h2 := h.max
  have h3 := hB.cap
  have h4 := hB.max
  have hcall := fun W h => l11Ok_any A n c ps roll W h
  have hcode : rowsC ps roll rs = if blocksB ps roll = false then 1 else if (decide (m ≠ n) || outB rs 0 8) = true then 2 else 0 := by
    unfold rowsC; rw [hl, hl']
  rw [hcode]
  cases hz : blocksB ps roll with
  | false =>
    rw [hz] at hcall
    rw [if_pos rfl]
    have HC := Lib.hid hcall
    have H := Lib.hid h
    clear hcall h hz hcode hl hl'
    go_enter Try.func58, Try.ntmps58
    go_wp2_with fail
    refine (HC.out _ H.out).mono ?_
    rintro e w1 ⟨rfl, rfl⟩
    go_wp2
    go_ret
    exact ⟨rfl, rfl⟩
  | true =>
    rw [hz] at hcall
    rw [if_neg (by simp)]
    obtain ⟨R, hR⟩ : ∃ R : Int, (if (decide (m ≠ n) || outB rs 0 8) = true then 2 else 0) = R := ⟨_, rfl⟩
    rw [hR]
    have HC := Lib.hid hcall
    have H := Lib.hid h
    have HB := Lib.hid hB
    have HL := Lib.hid hl'
    have HR := Lib.hid hR
    clear hcall h hz hcode hl hl' hR hB
    go_enter Try.func58, Try.ntmps58
    go_wp2_with fail
    refine (HC.out _ H.out).mono ?_
    rintro e w1 ⟨rfl, rfl⟩
    go_wp2_with fail
    go_loop [7] (fun i => ∃ k : Nat, k ≤ m ∧ i = .int .i64 k ∧ Hid (∀ (j : Nat) (x : Int), j < k → rs[j]? = some x → inB x 0 8 = true)) (fun i => m - (intOf i).toNat)
    case atStart => exact ⟨0, Nat.zero_le _, rfl, (show Hid _ from fun j _ hj => absurd hj (Nat.not_lt_zero _))⟩
    case round =>
      obtain ⟨k, hk, rfl, HQ⟩ := hrel
      by_cases hlt : k < m
      · obtain ⟨b, o, x, hA, hbl, hx, hc⟩ := HB.out.int hlt
        subst hA
        have hk0 : (0 : Int) ≤ (k : Int) := by omega
        have hk1 : (k : Int) < (m : Int) := by omega
        have HX := Lib.hid hx
        clear hx
        cases e1 : inB x 0 8 with
        | false =>
          have E1 := Lib.hid e1
          clear e1
          go_wp2_with (go_at_call 74; refine (l00In_any _ _ _ _).mono ?_; rw [E1.out]; rintro e w' ⟨rfl, rfl⟩)
          go_ret
          refine ⟨ret_i ?_, rfl⟩
          rw [← HR.out, outB_hit HX.out E1.out, if_pos (by simp)]
        | true =>
          have E1 := Lib.hid e1
          clear e1
          go_wp2_with (go_at_call 74; refine (l00In_any _ _ _ _).mono ?_; rw [E1.out]; rintro e w' ⟨rfl, rfl⟩)
          go_round
          case rel =>
            refine ⟨k + 1, by omega, by go_num, (show Hid _ from fun j p hj hp => ?_)⟩
            by_cases e : j = k
            · subst e
              have := HX.out
              rw [this] at hp
              injection hp with hp
              rw [← hp]
              exact E1.out
            · exact HQ.out j p (by omega) hp
          case measure => simp [intOf]; omega
      · have : k = m := by omega
        subst this
        have ho : outB rs 0 8 = false := outB_none (by rw [HL.out]; exact HQ.out)
        by_cases hmn : k = n
        · have hR : R = 0 := by rw [← HR.out, ho, if_neg (by simp [hmn])]
          subst hR
          subst hmn
          clear ho
          go_wp2
          go_ret
          exact ⟨rfl, rfl⟩
        · have hR : R = 2 := by rw [← HR.out, if_pos (by simp [hmn])]
          subst hR
          have hne : ((k : Int) != (n : Int)) = true := by simp; omega
          clear ho
          go_wp2
          go_ret
          exact ⟨rfl, rfl⟩

set_option maxHeartbeats 2000000 in
theorem rowsCode_any (A : Option Addr) (n c : Nat) (ps : List (Int × Int)) (roll : Int) (B : Option Addr) (m d : Nat) (rs : List Int) (w : World) (h : Rd w 2 A n c (pr ps)) (hB : Rd w 1 B m d (ints rs)) :
    Calls Try.prog 60 #[.slice A n c, .int .i64 roll, .slice B m d] w fun e w' => e = .returned (.int .i64 (rowsC ps roll rs)) ∧ Below w.heap.size w w' := by
  have hl := h.plen
  have hl' := hB.ilen
  have h1 := h.cap
  have h2 := h.max
  have h3 := hB.cap
  have h4 := hB.max
  have hcall := fun W h => implValidBlocks_any A n c ps roll W h
  have hcode : rowsC ps roll rs = if blocksB ps roll = false then 1 else if (decide (m ≠ n) || outB rs 0 8) = true then 2 else 0 := by
    unfold rowsC; rw [hl, hl']
  rw [hcode]
  cases hz : blocksB ps roll with
  | false =>
    rw [hz] at hcall
    rw [if_pos rfl]
    have HC := Lib.hid hcall
    have H := Lib.hid h
    clear hcall h hz hcode hl hl'
    go_enter Try.func60, Try.ntmps60
    go_wp2_with fail
    refine (HC.out _ H.out).mono ?_
    rintro e w1 ⟨rfl, hb⟩
    go_wp2
    go_ret
    exact ⟨rfl, hb⟩
  | true =>
    rw [hz] at hcall
    rw [if_neg (by simp)]
    by_cases hmn : m = n
    · subst hmn
      have hout := fun W h => outside_any B m d rs 0 8 W h
      generalize outB rs 0 8 = r at *
      have HC := Lib.hid hcall
      have H := Lib.hid h
      have HB := Lib.hid hB
      have HU := Lib.hid hout
      clear hcall h hz hcode hl hl' hB hout
      cases r with
      | true =>
        rw [if_pos (by simp)]
        go_enter Try.func60, Try.ntmps60
        go_wp2_with fail
        refine (HC.out _ H.out).mono ?_
        rintro e w1 ⟨rfl, hb⟩
        go_wp2_with fail
        refine (HU.out _ (HB.out.below hb)).mono ?_
        rintro e w2 ⟨rfl, hb2⟩
        go_wp2
        go_ret
        exact ⟨rfl, hb.trans (hb2.mono hb.size)⟩
      | false =>
        rw [if_neg (by simp)]
        go_enter Try.func60, Try.ntmps60
        go_wp2_with fail
        refine (HC.out _ H.out).mono ?_
        rintro e w1 ⟨rfl, hb⟩
        go_wp2_with fail
        refine (HU.out _ (HB.out.below hb)).mono ?_
        rintro e w2 ⟨rfl, hb2⟩
        go_wp2
        go_ret
        exact ⟨rfl, hb.trans (hb2.mono hb.size)⟩
    · rw [if_pos (by simp [hmn])]
      have hne : ((m : Int) != (n : Int)) = true := by simp; omega
      have HC := Lib.hid hcall
      have H := Lib.hid h
      clear hcall h hz hcode hl hl' hB
      go_enter Try.func60, Try.ntmps60
      go_wp2_with fail
      refine (HC.out _ H.out).mono ?_
      rintro e w1 ⟨rfl, hb⟩
      go_wp2
      go_ret
      exact ⟨rfl, hb⟩

/-- The first row that is too wide. -/
def faultZ (ps : List (Int × Int)) (roll : Int) (rs : List Int) : Int := idxF (fun x => decide (roll < x)) (rowsK ps rs rs.length).1
def rowsFaultZ (ps : List (Int × Int)) (roll : Int) (rs : List Int) : Int := if rowsC ps roll rs = 0 then faultZ ps roll rs else 0
theorem rowsK_B {ps : List (Int × Int)} {roll : Int} {rs : List Int} (ho : BOk ps roll) (hr : ∀ (j : Nat) (r : Int), rs[j]? = some r → 0 ≤ r ∧ r ≤ 8) : ∀ k, k ≤ rs.length → k ≤ ps.length → RowsB (rowsK ps rs k).1 (rowsK ps rs k).2 k
  | 0, _, _ => rowsB0
  | k + 1, h1, h2 => by
    have ih := rowsK_B ho hr k (by omega) (by omega)
    obtain ⟨r, hr'⟩ : ∃ r, rs[k]? = some r := ⟨_, List.getElem?_eq_getElem (by omega)⟩
    obtain ⟨⟨x, y⟩, hp⟩ : ∃ r, ps[k]? = some r := ⟨_, List.getElem?_eq_getElem (by omega)⟩
    rw [rowsK_step (W := (rowsK ps rs k).1) (H := (rowsK ps rs k).2) rfl hr' hp]
    have hb := ho.blk k _ hp
    have h1 := ho.r1
    exact ih.step (hr k r hr') ⟨by have := hb.1.1; simp at this; omega, by have := hb.1.2; simp at this; omega⟩ ⟨by have := hb.2.1; simp at this; omega, hb.2.2⟩

end Go.Proofs.Ythdbaflihgkomaa
