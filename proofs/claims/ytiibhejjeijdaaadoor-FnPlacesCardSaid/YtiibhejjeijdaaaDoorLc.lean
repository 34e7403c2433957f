/- LargestCut: program, reference, law. Printed by mklc.py. -/
import Derived.Test.YtiibhejjeijdaaaDoorPc
namespace Go.Proofs.YtiibhejjeijdaaaDoor
open Go.RowKit

/-- One piece tried: is it larger, and does it fit anywhere? -/
noncomputable def lcS (rs : List ByteArray) (n m : Nat) (ql : Int) (st : Nat × Nat) (W H : Nat) : Nat × Nat := if st.1 * st.2 < W * H ∧ 0 < (plL rs n m H W ql).length then (W, H) else st
noncomputable def lcH (rs : List ByteArray) (n m : Nat) (ql : Int) (W : Nat) (st : Nat × Nat) : Nat → Nat × Nat
  | 0 => st
  | h + 1 => lcS rs n m ql (lcH rs n m ql W st h) W (h + 1)
/-- The widths from W down to 1, the heights from 1 up to M. -/
noncomputable def lcR (rs : List ByteArray) (n m : Nat) (ql : Int) (M : Nat) : Nat → Nat × Nat → Nat × Nat
  | 0, st => st
  | W + 1, st => lcR rs n m ql M W (lcH rs n m ql (W + 1) st M)
theorem fil_none {p : Nat → Bool} (h : ∀ k, p k = false) : ∀ k, fil p k = []
  | 0 => rfl
  | k + 1 => by rw [fil_no (h k)]; exact fil_none h k
theorem pl_no {rs : List ByteArray} {n m W H : Nat} {ql : Int} (h : m < W ∨ n < H) : plL rs n m H W ql = [] := by
  unfold plL
  refine fil_none (fun f => fitB_no fun hf => ?_) _
  have h1 := hf.hh
  have h2 := hf.hw
  have h3 := Nat.zero_le (f / m)
  have h4 := Nat.zero_le (f % m)
  generalize f / m = r at *
  generalize f % m = q at *
  omega
theorem lcS_yes {rs : List ByteArray} {n m W H a b : Nat} {ql : Int} (h : a * b < W * H) (hp : 0 < (plL rs n m H W ql).length) : lcS rs n m ql (a, b) W H = (W, H) := by unfold lcS; rw [if_pos ⟨h, hp⟩]
theorem lcS_stay {rs : List ByteArray} {n m W H a b : Nat} {ql : Int} (h : ¬ (a * b < W * H ∧ 0 < (plL rs n m H W ql).length)) : lcS rs n m ql (a, b) W H = (a, b) := by unfold lcS; rw [if_neg h]
theorem lcS_no {rs : List ByteArray} {n m W H : Nat} {ql : Int} (h : m < W ∨ n < H) (st : Nat × Nat) : lcS rs n m ql st W H = st := by
  unfold lcS
  rw [pl_no h, if_neg (by simp)]
theorem lcH_wide {rs : List ByteArray} {n m W : Nat} {ql : Int} (h : m < W) (st : Nat × Nat) : ∀ k, lcH rs n m ql W st k = st
  | 0 => rfl
  | k + 1 => by simp only [lcH]; rw [lcS_no (.inl h), lcH_wide h st k]
theorem lcH_high {rs : List ByteArray} {n m W : Nat} {ql : Int} (st : Nat × Nat) : ∀ d, lcH rs n m ql W st (n + d) = lcH rs n m ql W st n
  | 0 => rfl
  | d + 1 => by rw [← Nat.add_assoc]; simp only [lcH]; rw [lcS_no (.inr (by omega)), lcH_high st d]
theorem lcR_high {rs : List ByteArray} {n m : Nat} {ql : Int} (d : Nat) : ∀ W st, lcR rs n m ql (n + d) W st = lcR rs n m ql n W st
  | 0, _ => rfl
  | W + 1, st => by simp only [lcR]; rw [lcH_high, lcR_high d W]
theorem lcR_wide {rs : List ByteArray} {n m M : Nat} {ql : Int} : ∀ d st, lcR rs n m ql M (m + d) st = lcR rs n m ql M m st
  | 0, _ => rfl
  | d + 1, st => by rw [← Nat.add_assoc]; simp only [lcR]; rw [lcH_wide (by omega), lcR_wide d]
theorem lcR_six {rs : List ByteArray} {n m : Nat} {ql : Int} (hn : n ≤ 6) (hm : m ≤ 6) (st : Nat × Nat) : lcR rs n m ql 6 6 st = lcR rs n m ql n m st := by
  have h1 := lcR_wide (rs := rs) (n := n) (m := m) (M := 6) (ql := ql) (6 - m) st
  have h2 := lcR_high (rs := rs) (n := n) (m := m) (ql := ql) (6 - n) m st
  rw [show m + (6 - m) = 6 by omega] at h1
  rw [show n + (6 - n) = 6 by omega] at h2
  rw [h1, h2]
theorem lcS_bd {rs : List ByteArray} {n m W H : Nat} {ql : Int} {st : Nat × Nat} (h : st.1 ≤ 6 ∧ st.2 ≤ 6) (hW : W ≤ 6) (hH : H ≤ 6) : (lcS rs n m ql st W H).1 ≤ 6 ∧ (lcS rs n m ql st W H).2 ≤ 6 := by
  unfold lcS
  split
  · exact ⟨hW, hH⟩
  · exact h
noncomputable def lcT (rs : List ByteArray) (ql : Int) : Nat × Nat := lcR rs rs.length (colN rs) ql rs.length (colN rs) (0, 0)
noncomputable def lcZ (rs : List ByteArray) (ql : Int) : Int × Int × Int :=
  if hidB rs = true then (if inB ql 1 3 = true then (if (lcT rs ql).1 = 0 then (0, 0, 3) else (((lcT rs ql).1 : Int), ((lcT rs ql).2 : Int), 0)) else (0, 0, 2)) else (0, 0, 1)

set_option maxRecDepth 100000 in
set_option maxHeartbeats 8000000 in
theorem implLargestCut_any (A : Option Addr) (n c : Nat) (rs : List ByteArray) (ql : Int) (w : World) (h : Rd w 1 A n c (txs rs)) (hs : ∀ s ∈ rs, s.size ≤ 9223372036854775807) :
    Calls Tryd.prog 25 #[.slice A n c, .int .i64 ql] w fun e w' => e = .returned (.tuple #[.int .i64 (lcZ rs ql).1, .int .i64 (lcZ rs ql).2.1, .int .i64 (lcZ rs ql).2.2]) ∧ Below w.heap.size w w' := by
  have hl := h.tlen
  have h1 := h.cap
  have h2 := h.max
  have hcall := implValidHide_any A n c rs w h hs
  unfold lcZ
  have hin := fun W => within_any ql 1 3 W
  cases hq : hidB rs with
  | false =>
    rw [if_neg (by simp)]
    rw [hq] at hcall
    have HC := Lib.hid hcall
    clear hcall h hs hin hl hq
    go_enter Tryd.func25, Tryd.ntmps25
    go_wp2_with fail
    refine (HC.out).mono ?_
    rintro e w1 ⟨rfl, hb1⟩
    go_wp2
    exact bodyPost_ret (v := .tuple #[.int .i64 0, .int .i64 0, .int .i64 1]) (by simp [results, Tryd.results25, go_sem]) rfl ⟨rfl, hb1⟩
  | true =>
    rw [if_pos rfl]
    rw [hq] at hcall
    cases hz : inB ql 1 3 with
    | false =>
      rw [if_neg (by simp)]
      rw [hz] at hin
      have HC := Lib.hid hcall
      have HI := Lib.hid hin
      clear hcall h hs hin hl hq hz
      go_enter Tryd.func25, Tryd.ntmps25
      go_wp2_with fail
      refine (HC.out).mono ?_
      rintro e w1 ⟨rfl, hb1⟩
      have Hb1 := Lib.hid hb1
      clear hb1
      go_wp2_with (go_at_call 57; refine (HI.out _).mono ?_; rintro e w' ⟨rfl, rfl⟩)
      exact bodyPost_ret (v := .tuple #[.int .i64 0, .int .i64 0, .int .i64 2]) (by simp [results, Tryd.results25, go_sem]) rfl ⟨rfl, Hb1.out⟩
    | true =>
      rw [if_pos rfl]
      rw [hz] at hin
      have hg := (hidB_true hq).grid hl
      obtain ⟨m, hm⟩ : ∃ m, colN rs = m := ⟨_, rfl⟩
      rw [hm] at hg
      have hbn := hg.bn
      have hbm := hg.bm
      have hT : lcT rs ql = lcR rs n m ql n m (0, 0) := by
        unfold lcT
        rw [hl, hm]
      rw [hT]
      obtain ⟨RR, hRR⟩ : ∃ RR, lcR rs n m ql n m (0, 0) = RR := ⟨_, rfl⟩
      rw [hRR]
      obtain ⟨T, hTT⟩ : ∃ T : Int × Int × Int, (if RR.1 = 0 then ((0 : Int), (0 : Int), (3 : Int)) else ((RR.1 : Int), (RR.2 : Int), (0 : Int))) = T := ⟨_, rfl⟩
      rw [hTT]
      have HTA : Hid (RR.1 = 0 → T = (0, 0, 3)) := Lib.hid fun h => by rw [← hTT, if_pos h]
      have HTB : Hid (¬ RR.1 = 0 → T = ((RR.1 : Int), (RR.2 : Int), 0)) := Lib.hid fun h => by rw [← hTT, if_neg h]
      have HRR := Lib.hid hRR
      have hpl := fun W H (W0 : World) (hh : Rd W0 1 A n c (txs rs)) (hW : W ≤ 6) (hH : H ≤ 6) => placesOf_any A n c m W H ql 0 rs W0 hh hg hW hH
      have HC := Lib.hid hcall
      have HI := Lib.hid hin
      have HPL := Lib.hid hpl
      have HH := Lib.hid h
      have HSO := Lib.hid (fun W hh => sizeOf_any A n c m rs W hh hg)
      clear hcall h hs hin hl hq hz hpl hm hT hRR hTT hg
      go_enter Tryd.func25, Tryd.ntmps25
      go_wp2_with fail
      refine (HC.out).mono ?_
      rintro e w1 ⟨rfl, hb1⟩
      have Hb1 := Lib.hid hb1
      clear hb1
      go_wp2_with (first | (go_at_call 57; refine (HI.out _).mono ?_; rintro e w' ⟨rfl, rfl⟩) | (go_at_call 56; refine (HSO.out _ (HH.out.below Hb1.out)).mono ?_; rintro e w2 ⟨rfl, hb2⟩))
      have Hb2 := Lib.hid (Hb1.out.trans (hb2.mono Hb1.out.size))
      clear hb2
      go_loopw [9, 10, 11] (fun va vb vw wr => ∃ (a b W : Nat), W ≤ m ∧ a ≤ 6 ∧ b ≤ 6 ∧ va = .int .i64 a ∧ vb = .int .i64 b ∧ vw = .int .i64 W ∧ Hid (lcR rs n m ql n W (a, b) = RR) ∧ Hid (Below w.heap.size w wr)) (fun _ _ vw _ => (intOf vw).toNat)
      case atStart => exact ⟨0, 0, m, Nat.le_refl _, by omega, by omega, rfl, rfl, rfl, HRR, Hb2⟩
      case round =>
        clear Hb2
        obtain ⟨a, b, W, hWt, ha6, hb6, rfl, rfl, rfl, HE, Hb2⟩ := hrel
        cases W with
        | zero =>
          have hE := HE.out
          simp only [lcR] at hE
          subst hE
          by_cases ha0 : a = 0
          · have hT := HTA.out ha0
            subst hT
            have haz : ((a : Int) == 0) = true := by simp; omega
            clear HE HTA HTB HRR
            go_wp2
            exact bodyPost_ret (v := .tuple #[.int .i64 0, .int .i64 0, .int .i64 3]) (by simp [results, Tryd.results25, go_sem]) rfl ⟨rfl, Hb2.out⟩
          · have hT := HTB.out ha0
            subst hT
            have haz : ((a : Int) == 0) = false := by simp; omega
            clear HE HTA HTB HRR
            go_wp2
            exact bodyPost_ret (v := .tuple #[.int .i64 a, .int .i64 b, .int .i64 0]) (by simp [results, Tryd.results25, go_sem]) rfl ⟨rfl, Hb2.out⟩
        | succ W =>
          have hW1 : (1 : Int) ≤ ((W + 1 : Nat) : Int) := by omega
          have hE0 := HE.out
          simp only [lcR] at hE0
          have HE0 := Lib.hid hE0
          clear HE hE0
          obtain ⟨W2, hW2⟩ : ∃ W2, W2 = W + 1 := ⟨_, rfl⟩
          have hWI : ((W + 1 : Nat) : Int) = (W2 : Int) := by rw [hW2]
          rw [hWI] at hW1 ⊢
          rw [← hW2] at HE0
          have HW2 := Lib.hid hW2
          have hW26 : W2 ≤ m := by omega
          have hWt2 : W ≤ m := by omega
          have hWm : (W2 : Int) - 1 = (W : Int) := by omega
          have HWM := Lib.hid hWm
          clear hW2 hWI hWt hWm
          have HST : Hid (lcR rs n m ql n W (lcH rs n m ql W2 (lcH rs n m ql W2 (a, b) 0) n) = RR) := HE0
          go_wp2
          go_loopw [9, 10, 12] (fun va vb vh wr => ∃ (a' b' k : Nat), k ≤ n ∧ a' ≤ 6 ∧ b' ≤ 6 ∧ va = .int .i64 a' ∧ vb = .int .i64 b' ∧ vh = .int .i64 ((k : Int) + 1) ∧ Hid (lcH rs n m ql W2 (a, b) k = (a', b')) ∧ Hid (Below w.heap.size w wr)) (fun _ _ vh _ => n + 1 - (intOf vh).toNat)
          case atStart => exact ⟨a, b, 0, Nat.zero_le _, ha6, hb6, rfl, rfl, by simp, Lib.hid rfl, Hb2⟩
          case round =>
            clear Hb2
            obtain ⟨a', b', k, hk, ha', hb', rfl, rfl, rfl, HL, Hb2⟩ := hrel
            by_cases hlk : k < n
            · have hkI : (k : Int) + 1 ≤ (n : Int) := by omega
              have hk6 : k + 1 ≤ 6 := by omega
              have hp1 : (W2 : Int) * ((k : Int) + 1) = ((W2 * (k + 1) : Nat) : Int) := by rw [Int.natCast_mul]; rfl
              have hp2 : (a' : Int) * (b' : Int) = ((a' * b' : Nat) : Int) := by rw [Int.natCast_mul]
              have hb1 : W2 * (k + 1) ≤ 36 := Nat.mul_le_mul (show W2 ≤ 6 by omega) hk6
              have hb2 : a' * b' ≤ 36 := Nat.mul_le_mul ha' hb'
              have hnx : lcH rs n m ql W2 (a, b) (k + 1) = lcS rs n m ql (a', b') W2 (k + 1) := by
                show lcS rs n m ql (lcH rs n m ql W2 (a, b) k) W2 (k + 1) = _
                rw [HL.out]
              have hyes := fun h1 h2 => lcS_yes (rs := rs) (n := n) (m := m) (W := W2) (H := k + 1) (a := a') (b := b') (ql := ql) h1 h2
              have hstay := fun h => lcS_stay (rs := rs) (n := n) (m := m) (W := W2) (H := k + 1) (a := a') (b := b') (ql := ql) h
              have hcl := HPL.out W2 (k + 1) wr (HH.out.below Hb2.out) (by omega) hk6
              have hk1 : ((k + 1 : Nat) : Int) = (k : Int) + 1 := by omega
              rw [hk1] at hcl
              generalize W2 * (k + 1) = p at *
              generalize a' * b' = q at *
              generalize (plL rs n m (k + 1) W2 ql).length = len at *
              have HNX := Lib.hid hnx
              have HYS := Lib.hid hyes
              have HSY := Lib.hid hstay
              have HCL := Lib.hid hcl
              clear hnx hyes hstay hcl hk1
              by_cases hpq : q < p
              · have hd : decide ((q : Int) < (p : Int)) = true := by simp; omega
                by_cases hlen : 0 < len
                · have HL2 : Hid (lcH rs n m ql W2 (a, b) (k + 1) = (W2, k + 1)) := Lib.hid (by rw [HNX.out]; exact HYS.out hpq hlen)
                  have hlI : (0 : Int) < (len : Int) := by omega
                  go_wp2_with (go_at_call 55; refine (HCL.out).mono ?_; rintro e w3 ⟨g3, c3, rfl, rfl, _, hb3⟩)
                  have HB3 := Lib.hid (Hb2.out.trans (hb3.mono Hb2.out.size))
                  clear hb3
                  go_roundw
                  case rel => exact ⟨W2, k + 1, k + 1, by omega, by omega, by omega, rfl, by go_num, by go_num, HL2, HB3⟩
                  case measure => simp [intOf]; omega
                · have HL2 : Hid (lcH rs n m ql W2 (a, b) (k + 1) = (a', b')) := Lib.hid (by rw [HNX.out]; exact HSY.out (by omega))
                  have hlI : ¬ (0 : Int) < (len : Int) := by omega
                  go_wp2_with (go_at_call 55; refine (HCL.out).mono ?_; rintro e w3 ⟨g3, c3, rfl, rfl, _, hb3⟩)
                  have HB3 := Lib.hid (Hb2.out.trans (hb3.mono Hb2.out.size))
                  clear hb3
                  go_roundw
                  case rel => exact ⟨a', b', k + 1, by omega, ha', hb', rfl, rfl, by go_num, HL2, HB3⟩
                  case measure => simp [intOf]; omega
              · have HL2 : Hid (lcH rs n m ql W2 (a, b) (k + 1) = (a', b')) := Lib.hid (by rw [HNX.out]; exact HSY.out (by omega))
                have hd : decide ((q : Int) < (p : Int)) = false := by simp; omega
                go_wp2
                go_roundw
                case rel => exact ⟨a', b', k + 1, by omega, ha', hb', rfl, rfl, by go_num, HL2, Hb2⟩
                case measure => simp [intOf]; omega
            · have hke : k = n := by omega
              have hl2 := HL.out
              rw [hke] at hl2
              have HE2 : Hid (lcR rs n m ql n W (a', b') = RR) := Lib.hid (by rw [← hl2]; exact HE0.out)
              clear hl2
              have hkI : ¬ (k : Int) + 1 ≤ (n : Int) := by omega
              clear hke
              go_wp2
              go_roundw
              case rel => exact ⟨a', b', W, by omega, ha', hb', rfl, rfl, by rw [HWM.out], HE2, Hb2⟩
              case measure => simp [intOf]; omega

set_option maxRecDepth 100000 in
set_option maxHeartbeats 8000000 in
theorem specLargestCut_any (A : Option Addr) (n c : Nat) (rs : List ByteArray) (ql : Int) (w : World) (h : Rd w 1 A n c (txs rs)) (hs : ∀ s ∈ rs, s.size ≤ 9223372036854775807) :
    Calls Tryd.prog 26 #[.slice A n c, .int .i64 ql] w fun e w' => e = .returned (.tuple #[.int .i64 (lcZ rs ql).1, .int .i64 (lcZ rs ql).2.1, .int .i64 (lcZ rs ql).2.2]) ∧ Below w.heap.size w w' := by
  have hl := h.tlen
  have h1 := h.cap
  have h2 := h.max
  have hcall := l10Ok_any A n c rs w h hs
  unfold lcZ
  have hin := fun W => l00In_any ql 1 3 W
  cases hq : hidB rs with
  | false =>
    rw [if_neg (by simp)]
    rw [hq] at hcall
    have HC := Lib.hid hcall
    clear hcall h hs hin hl hq
    go_enter Tryd.func26, Tryd.ntmps26
    go_wp2_with fail
    refine (HC.out).mono ?_
    rintro e w1 ⟨rfl, hb1⟩
    go_wp2
    exact bodyPost_ret (v := .tuple #[.int .i64 0, .int .i64 0, .int .i64 1]) (by simp [results, Tryd.results26, go_sem]) rfl ⟨rfl, hb1⟩
  | true =>
    rw [if_pos rfl]
    rw [hq] at hcall
    cases hz : inB ql 1 3 with
    | false =>
      rw [if_neg (by simp)]
      rw [hz] at hin
      have HC := Lib.hid hcall
      have HI := Lib.hid hin
      clear hcall h hs hin hl hq hz
      go_enter Tryd.func26, Tryd.ntmps26
      go_wp2_with fail
      refine (HC.out).mono ?_
      rintro e w1 ⟨rfl, hb1⟩
      have Hb1 := Lib.hid hb1
      clear hb1
      go_wp2_with (go_at_call 59; refine (HI.out _).mono ?_; rintro e w' ⟨rfl, rfl⟩)
      exact bodyPost_ret (v := .tuple #[.int .i64 0, .int .i64 0, .int .i64 2]) (by simp [results, Tryd.results26, go_sem]) rfl ⟨rfl, Hb1.out⟩
    | true =>
      rw [if_pos rfl]
      rw [hz] at hin
      have hg := (hidB_true hq).grid hl
      obtain ⟨m, hm⟩ : ∃ m, colN rs = m := ⟨_, rfl⟩
      rw [hm] at hg
      have hbn := hg.bn
      have hbm := hg.bm
      have hT : lcT rs ql = lcR rs n m ql 6 6 (0, 0) := by
        unfold lcT
        rw [hl, hm]
        exact (lcR_six hbn.2 hbm.2 (0, 0)).symm
      rw [hT]
      obtain ⟨RR, hRR⟩ : ∃ RR, lcR rs n m ql 6 6 (0, 0) = RR := ⟨_, rfl⟩
      rw [hRR]
      obtain ⟨T, hTT⟩ : ∃ T : Int × Int × Int, (if RR.1 = 0 then ((0 : Int), (0 : Int), (3 : Int)) else ((RR.1 : Int), (RR.2 : Int), (0 : Int))) = T := ⟨_, rfl⟩
      rw [hTT]
      have HTA : Hid (RR.1 = 0 → T = (0, 0, 3)) := Lib.hid fun h => by rw [← hTT, if_pos h]
      have HTB : Hid (¬ RR.1 = 0 → T = ((RR.1 : Int), (RR.2 : Int), 0)) := Lib.hid fun h => by rw [← hTT, if_neg h]
      have HRR := Lib.hid hRR
      have hpl := fun W H (W0 : World) (hh : Rd W0 1 A n c (txs rs)) (hW : W ≤ 6) (hH : H ≤ 6) => l10Places_any A n c m W H ql 0 rs W0 hh hg hW hH
      have HC := Lib.hid hcall
      have HI := Lib.hid hin
      have HPL := Lib.hid hpl
      have HH := Lib.hid h
      clear hcall h hs hin hl hq hz hpl hm hT hRR hTT hg
      go_enter Tryd.func26, Tryd.ntmps26
      go_wp2_with fail
      refine (HC.out).mono ?_
      rintro e w1 ⟨rfl, hb1⟩
      have Hb1 := Lib.hid hb1
      clear hb1
      go_wp2_with (go_at_call 59; refine (HI.out _).mono ?_; rintro e w' ⟨rfl, rfl⟩)
      have Hb2 := Hb1
      go_loopw [7, 8, 9] (fun va vb vw wr => ∃ (a b W : Nat), W ≤ 6 ∧ a ≤ 6 ∧ b ≤ 6 ∧ va = .int .i64 a ∧ vb = .int .i64 b ∧ vw = .int .i64 W ∧ Hid (lcR rs n m ql 6 W (a, b) = RR) ∧ Hid (Below w.heap.size w wr)) (fun _ _ vw _ => (intOf vw).toNat)
      case atStart => exact ⟨0, 0, 6, Nat.le_refl _, by omega, by omega, rfl, rfl, rfl, HRR, Hb2⟩
      case round =>
        clear Hb2
        obtain ⟨a, b, W, hWt, ha6, hb6, rfl, rfl, rfl, HE, Hb2⟩ := hrel
        cases W with
        | zero =>
          have hE := HE.out
          simp only [lcR] at hE
          subst hE
          by_cases ha0 : a = 0
          · have hT := HTA.out ha0
            subst hT
            have haz : ((a : Int) == 0) = true := by simp; omega
            clear HE HTA HTB HRR
            go_wp2
            exact bodyPost_ret (v := .tuple #[.int .i64 0, .int .i64 0, .int .i64 3]) (by simp [results, Tryd.results26, go_sem]) rfl ⟨rfl, Hb2.out⟩
          · have hT := HTB.out ha0
            subst hT
            have haz : ((a : Int) == 0) = false := by simp; omega
            clear HE HTA HTB HRR
            go_wp2
            exact bodyPost_ret (v := .tuple #[.int .i64 a, .int .i64 b, .int .i64 0]) (by simp [results, Tryd.results26, go_sem]) rfl ⟨rfl, Hb2.out⟩
        | succ W =>
          have hW1 : (1 : Int) ≤ ((W + 1 : Nat) : Int) := by omega
          have hE0 := HE.out
          simp only [lcR] at hE0
          have HE0 := Lib.hid hE0
          clear HE hE0
          obtain ⟨W2, hW2⟩ : ∃ W2, W2 = W + 1 := ⟨_, rfl⟩
          have hWI : ((W + 1 : Nat) : Int) = (W2 : Int) := by rw [hW2]
          rw [hWI] at hW1 ⊢
          rw [← hW2] at HE0
          have HW2 := Lib.hid hW2
          have hW26 : W2 ≤ 6 := by omega
          have hWt2 : W ≤ 6 := by omega
          have hWm : (W2 : Int) - 1 = (W : Int) := by omega
          have HWM := Lib.hid hWm
          clear hW2 hWI hWt hWm
          have HST : Hid (lcR rs n m ql 6 W (lcH rs n m ql W2 (lcH rs n m ql W2 (a, b) 0) 6) = RR) := HE0
          go_wp2
          go_loopw [7, 8, 10] (fun va vb vh wr => ∃ (a' b' k : Nat), k ≤ 6 ∧ a' ≤ 6 ∧ b' ≤ 6 ∧ va = .int .i64 a' ∧ vb = .int .i64 b' ∧ vh = .int .i64 ((k : Int) + 1) ∧ Hid (lcH rs n m ql W2 (a, b) k = (a', b')) ∧ Hid (Below w.heap.size w wr)) (fun _ _ vh _ => 6 + 1 - (intOf vh).toNat)
          case atStart => exact ⟨a, b, 0, Nat.zero_le _, ha6, hb6, rfl, rfl, by simp, Lib.hid rfl, Hb2⟩
          case round =>
            clear Hb2
            obtain ⟨a', b', k, hk, ha', hb', rfl, rfl, rfl, HL, Hb2⟩ := hrel
            by_cases hlk : k < 6
            · have hkI : (k : Int) + 1 ≤ (6 : Int) := by omega
              have hk6 : k + 1 ≤ 6 := by omega
              have hp1 : (W2 : Int) * ((k : Int) + 1) = ((W2 * (k + 1) : Nat) : Int) := by rw [Int.natCast_mul]; rfl
              have hp2 : (a' : Int) * (b' : Int) = ((a' * b' : Nat) : Int) := by rw [Int.natCast_mul]
              have Hbv : Hid (Below w.heap.size w (wr.alloc (.cells #[.int .i64 W2, .int .i64 ((k : Int) + 1), .int .i64 ql, .int .i64 0] 35))) := Lib.hid (Hb2.out.alloc Hb2.out.size _)
              have hb1 : W2 * (k + 1) ≤ 36 := Nat.mul_le_mul (show W2 ≤ 6 by omega) hk6
              have hb2 : a' * b' ≤ 36 := Nat.mul_le_mul ha' hb'
              have hnx : lcH rs n m ql W2 (a, b) (k + 1) = lcS rs n m ql (a', b') W2 (k + 1) := by
                show lcS rs n m ql (lcH rs n m ql W2 (a, b) k) W2 (k + 1) = _
                rw [HL.out]
              have hyes := fun h1 h2 => lcS_yes (rs := rs) (n := n) (m := m) (W := W2) (H := k + 1) (a := a') (b := b') (ql := ql) h1 h2
              have hstay := fun h => lcS_stay (rs := rs) (n := n) (m := m) (W := W2) (H := k + 1) (a := a') (b := b') (ql := ql) h
              have hcl := HPL.out W2 (k + 1) (wr.alloc (.cells #[.int .i64 W2, .int .i64 ((k : Int) + 1), .int .i64 ql, .int .i64 0] 35)) (HH.out.below Hbv.out) (by omega) hk6
              have hk1 : ((k + 1 : Nat) : Int) = (k : Int) + 1 := by omega
              rw [hk1] at hcl
              generalize W2 * (k + 1) = p at *
              generalize a' * b' = q at *
              generalize (plL rs n m (k + 1) W2 ql).length = len at *
              have HNX := Lib.hid hnx
              have HYS := Lib.hid hyes
              have HSY := Lib.hid hstay
              have HCL := Lib.hid hcl
              clear hnx hyes hstay hcl hk1
              by_cases hpq : q < p
              · have hd : decide ((q : Int) < (p : Int)) = true := by simp; omega
                by_cases hlen : 0 < len
                · have HL2 : Hid (lcH rs n m ql W2 (a, b) (k + 1) = (W2, k + 1)) := Lib.hid (by rw [HNX.out]; exact HYS.out hpq hlen)
                  have hlI : (0 : Int) < (len : Int) := by omega
                  go_wp2_with (go_at_call 60; refine (HCL.out).mono ?_; rintro e w3 ⟨g3, c3, rfl, rfl, _, hb3⟩)
                  have HB3 := Lib.hid (Hbv.out.trans (hb3.mono Hbv.out.size))
                  clear hb3
                  go_roundw
                  case rel => exact ⟨W2, k + 1, k + 1, by omega, by omega, by omega, rfl, by go_num, by go_num, HL2, HB3⟩
                  case measure => simp [intOf]; omega
                · have HL2 : Hid (lcH rs n m ql W2 (a, b) (k + 1) = (a', b')) := Lib.hid (by rw [HNX.out]; exact HSY.out (by omega))
                  have hlI : ¬ (0 : Int) < (len : Int) := by omega
                  go_wp2_with (go_at_call 60; refine (HCL.out).mono ?_; rintro e w3 ⟨g3, c3, rfl, rfl, _, hb3⟩)
                  have HB3 := Lib.hid (Hbv.out.trans (hb3.mono Hbv.out.size))
                  clear hb3
                  go_roundw
                  case rel => exact ⟨a', b', k + 1, by omega, ha', hb', rfl, rfl, by go_num, HL2, HB3⟩
                  case measure => simp [intOf]; omega
              · have HL2 : Hid (lcH rs n m ql W2 (a, b) (k + 1) = (a', b')) := Lib.hid (by rw [HNX.out]; exact HSY.out (by omega))
                have hd : decide ((q : Int) < (p : Int)) = false := by simp; omega
                go_wp2
                go_roundw
                case rel => exact ⟨a', b', k + 1, by omega, ha', hb', rfl, rfl, by go_num, HL2, Hbv⟩
                case measure => simp [intOf]; omega
            · have hke : k = 6 := by omega
              have hl2 := HL.out
              rw [hke] at hl2
              have HE2 : Hid (lcR rs n m ql 6 W (a', b') = RR) := Lib.hid (by rw [← hl2]; exact HE0.out)
              clear hl2
              have hkI : ¬ (k : Int) + 1 ≤ (6 : Int) := by omega
              clear hke
              go_wp2
              go_roundw
              case rel => exact ⟨a', b', W, by omega, ha', hb', rfl, rfl, by rw [HWM.out], HE2, Hb2⟩
              case measure => simp [intOf]; omega

set_option maxRecDepth 100000 in
set_option maxHeartbeats 8000000 in
theorem law_LargestCut (A : Option Addr) (n c : Nat) (rs : List ByteArray) (ql : Int) (w : World) (hA : Rd w 1 A n c (txs rs)) (hsA : ∀ s ∈ rs, s.size ≤ 9223372036854775807) :
    Calls Tryd.prog 5 #[.slice A n c, .int .i64 ql] w fun e w' => e = .returned (.bool true) ∧ Below w.heap.size w w' := by
  have eA1 := hA.cap
  have eA2 := hA.max
  have lA := hA.tlen
  have hsp := fun A n c W h => specLargestCut_any A n c rs ql W h hsA
  have him := fun A n c W h => implLargestCut_any A n c rs ql W h hsA
  generalize (lcZ rs ql).1 = z1 at *
  generalize (lcZ rs ql).2.1 = z2 at *
  generalize (lcZ rs ql).2.2 = z3 at *
  have HA := Lib.hid hA
  have HSA := Lib.hid hsA
  have HSP := Lib.hid hsp
  have HIM := Lib.hid him
  clear hA hsA hsp him lA
  have b0 : Below w.heap.size w w := Below.refl _ _
  have s0 := b0.size
  obtain ⟨w0, hw0⟩ : ∃ w0, w0 = w := ⟨_, rfl⟩
  go_enter Tryd.func5, Tryd.ntmps5
  go_wp2_with fail
  refine (szStringS_any A n c rs _ _ HA.out HSA.out (by omega) (by omega)).mono ?_
  rintro e wz ⟨⟨q0, rfl, hq0⟩, rfl⟩
  rcases hq0 with rfl | ⟨hq00, hq01, hnA, hszA⟩
  · go_wp2
    go_ret
    exact ⟨rfl, Below.refl _ _⟩
  have hqn0 : ¬ q0 < 0 := by omega
  have HWA := Lib.hid hszA
  clear hszA
  go_wp2_with fail
  refine (toStringS_any A n c rs _ (HA.out.below b0) (by omega)).mono ?_
  rintro e w1 ⟨gt0, rfl, ho, hb1⟩
  have b1 : Below w.heap.size w w1 := b0.trans (hb1.mono b0.size)
  have s1 := hb1.size
  have Ot01 := Lib.hid (OwnIn.new ho)
  clear hb1 ho
  go_wp2_with fail
  refine (HSP.out _ _ _ _ Ot01.out.rd).mono ?_
  rintro e w2 ⟨rfl, hb2⟩
  have b2 : Below w.heap.size w w2 := b1.trans (hb2.mono b1.size)
  have s2 := hb2.size
  have Ot02 := Lib.hid (Ot01.out.below hb2)
  clear hb2 Ot01
  go_wp2_with fail
  refine (toStringS_any A n c rs _ (HA.out.below b2) (by omega)).mono ?_
  rintro e w3 ⟨gx0, rfl, ho, hb3⟩
  have b3 : Below w.heap.size w w3 := b2.trans (hb3.mono b2.size)
  have s3 := hb3.size
  have Ot03 := Lib.hid (Ot02.out.below hb3)
  have Ox03 := Lib.hid (OwnIn.new ho)
  clear hb3 Ot02 ho
  go_wp2_with fail
  refine (HIM.out _ _ _ _ Ox03.out.rd).mono ?_
  rintro e w4 ⟨rfl, hb4⟩
  have b4 : Below w.heap.size w w4 := b3.trans (hb4.mono b3.size)
  have s4 := hb4.size
  have Ot04 := Lib.hid (Ot03.out.below hb4)
  have Ox04 := Lib.hid (Ox03.out.below hb4)
  clear hb4 Ot03 Ox03
  go_wp2_with fail
  refine (toStringS_any A n c rs _ (HA.out.below b4) (by omega)).mono ?_
  rintro e w5 ⟨gy0, rfl, ho, hb5⟩
  have b5 : Below w.heap.size w w5 := b4.trans (hb5.mono b4.size)
  have s5 := hb5.size
  have Ot05 := Lib.hid (Ot04.out.below hb5)
  have Ox05 := Lib.hid (Ox04.out.below hb5)
  have Oy05 := Lib.hid (OwnIn.new ho)
  clear hb5 Ot04 Ox04 ho
  go_wp2_with fail
  refine (eqStringS_any _ _ _ _ _ _ rs _ Ox05.out.rd Oy05.out.rd).mono ?_
  rintro e w6 ⟨rfl, hb6⟩
  have b6 : Below w.heap.size w w6 := b5.trans (hb6.mono b5.size)
  have s6 := hb6.size
  have Ot06 := Lib.hid (Ot05.out.below hb6)
  have Ox06 := Lib.hid (Ox05.out.below hb6)
  have Oy06 := Lib.hid (Oy05.out.below hb6)
  clear hb6 Ot05 Ox05 Oy05
  go_wp2_with fail
  go_ret
  exact ⟨rfl, b6⟩

end Go.Proofs.YtiibhejjeijdaaaDoor
