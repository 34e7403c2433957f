/- longest of the program. (longest_any) -/
import Derived.Test.YtgghjieeckkpbaaLo
namespace Go.Proofs.Ytgghjieeckkpbaa
open Go.RowKit

set_option maxRecDepth 100000 in
set_option maxHeartbeats 2000000 in
theorem longest_any (g : Nat) (eg : ∀ args w, (callFunc g args).run Try.prog w = .ok (.enter g args) w) (wt : Nat → Int) (A : Option Addr) (n c : Nat) (ops : List OpV) (w : World) (h : RdO w A n c ops) (hok : OOk ops) (hc : ∀ j, ¬ Rch (Eb (bfsO ops)) j j) (hg : NumO g wt ops) (hw : ∀ k, 0 ≤ wt k ∧ wt k ≤ 600) :
    Calls Try.prog 60 #[.slice A n c, .func (.func g) #[] #[]] w fun e w' => ∃ gb out d, e = .returned (.slice (some ⟨gb, 0, none⟩) n n) ∧ w'.ownsRow w.heap.size 2 1 (.slice (some ⟨gb, 0, none⟩) n n) n (ints out) ∧ EdI (bfsO ops) wt n d out ∧ d = (ordG (bfsO ops) n n).2 ∧ (∀ j, 0 ≤ out.getD j 0 ∧ out.getD j 0 ≤ 600 * n) ∧ Below w.heap.size w w' := by
  have hl := h.len
  have h1 := h.cap
  have h2 := h.max
  have hbf := bfs_ok hok hl
  have hn14 := hbf.hn
  have hmk := mkn n (by omega) w
  have hown0 := ownn n (by omega) w w.heap.size (Nat.le_refl _)
  have hb0 : Below w.heap.size w (w.alloc (.cells (cn n) 2)) := (Below.refl _ _).alloc (Nat.le_refl _) _
  have hcall := orderOfOps_any A n c ops _ (h.below hb0) hok hc
  have hat := fun r (hr : r < n) => ordL_at hok hl hc hr
  have hll : (ordL ops).length = n := by rw [ordL_len hok hc, hl]
  have H := Lib.hid h
  have HO0 := Lib.hid hown0
  have HB0 := Lib.hid hb0
  have HC := Lib.hid hcall
  have HAT := Lib.hid hat
  have HG := Lib.hid hg
  have HW := Lib.hid hw
  have HBF := Lib.hid hbf
  have HLL := Lib.hid hll
  clear h hown0 hb0 hcall hbf hl hok hc hat hg hw hll
  go_enter Try.func60, Try.ntmps60
  go_wp2_with fail
  refine (HC.out).mono ?_
  rintro e w1 ⟨go, co, rfl, ho, hb1⟩
  have HO1 := Lib.hid (own_below HO0.out hb1)
  have hgo := (own_block ho go rfl)
  have hne : go ≠ w.heap.size := by have := hgo.1; simp at this; omega
  have HR := Lib.hid ho
  have HB1 := Lib.hid (HB0.out.trans (hb1.mono HB0.out.size))
  clear ho hb1
  go_wp2
  go_loopw [16] (fun vr wr => ∃ (r : Nat) (out : List Int), r ≤ n ∧ vr = .int .i64 r ∧ Hid (EdI (bfsO ops) wt n (ordG (bfsO ops) n r).2 out) ∧ Hid (∀ j, 0 ≤ out.getD j 0 ∧ out.getD j 0 ≤ 600 * r) ∧ wr.ownsRow w.heap.size 2 1 (.slice (some ⟨w.heap.size, 0, none⟩) n n) n (ints out) ∧ wr.ownsRow (w.heap.size + 1) 2 1 (.slice (some ⟨go, 0, none⟩) n co) n (ints (ordL ops)) ∧ Below w.heap.size w wr) (fun vr _ => n - (intOf vr).toNat)
  case atStart => exact ⟨0, _, Nat.zero_le _, rfl, Lib.hid (edI0 _ _ _), Lib.hid (fun j => by simp [List.getD, List.getElem?_replicate]; split <;> simp), HO1.out, by have := HR.out; simp at this; exact this, HB1.out⟩
  case round =>
    obtain ⟨r, out, hr, rfl, HE, HD, hown, hord, hb⟩ := hrel
    have hocap := (Rd.of_own hord).cap
    have hocm := (Rd.of_own hord).max
    by_cases hlt : r < n
    · have hr0 : (0 : Int) ≤ (r : Int) := by omega
      have hr1 : (r : Int) < (n : Int) := by omega
      obtain ⟨k, hk, hok, hcan, hnx⟩ := HAT.out r hlt
      have hck := own_int hord hlt HLL.out
      rw [show (ordL ops).getD r 0 = (k : Int) by simp [List.getD, hok]] at hck
      obtain ⟨p, b, o, B, m, d, hp, hps, hA, hbl, e0, e1, e2, hrd⟩ := H.out.op hk
      subst hA
      have c0 := cell_bel e0 hb
      have c1 := cell_bel e1 hb
      have c2 := cell_bel e2 hb
      have hrl := hrd.ilen
      have hr2 := hrd.cap
      have hr3 := hrd.max
      have hbfp := bf_at hp
      have HBP := Lib.hid hbfp
      have HRL := Lib.hid hrl
      have HRD := Lib.hid hrd
      have HO := Lib.hid hown
      have HOR := Lib.hid hord
      have HB := Lib.hid hb
      have hk0 : (0 : Int) ≤ (k : Int) := by omega
      have hk1 : (k : Int) < (n : Int) := by omega
      obtain ⟨hs1, hs2⟩ := can_iff.1 hcan
      rw [hbfp] at hs2
      have hz := HE.out.zero k hk hs1
      have hol := HE.out.ol
      have HOL := Lib.hid hol
      have HS2 := Lib.hid hs2
      have HS1 := Lib.hid hs1
      have h0 : out.set k (mx out (p.bf.take 0)) = out := set_same (by omega) hz
      have HO' : Hid (wr.ownsRow w.heap.size 2 1 (.slice (some ⟨w.heap.size, 0, none⟩) n n) n (ints (out.set k (mx out (p.bf.take 0))))) := Lib.hid (by rw [h0]; exact hown)
      have E0 := Lib.hid e0
      have E1 := Lib.hid e1
      have E2 := Lib.hid e2
      have HN := Lib.hid (fun W => HG.out W k p B m d hp)
      have hstep := HE.out.step hk hcan
      rw [hbfp, ← hnx] at hstep
      have HST := Lib.hid hstep
      clear hstep hnx
      clear e0 e1 e2 hp hbfp hrd hrl hown hord hb hs1 hs2 hz h0 hok hcan
      go_wp2
      go_loopw [26] (fun vj wj => ∃ j : Nat, j ≤ m ∧ vj = .int .i64 j ∧ wj.ownsRow w.heap.size 2 1 (.slice (some ⟨w.heap.size, 0, none⟩) n n) n (ints (out.set k (mx out (p.bf.take j)))) ∧ wj.ownsRow (w.heap.size + 1) 2 1 (.slice (some ⟨go, 0, none⟩) n co) n (ints (ordL ops)) ∧ Below w.heap.size w wj) (fun vj _ => m - (intOf vj).toNat)
      case atStart => exact ⟨0, Nat.zero_le _, rfl, HO'.out, HOR.out, HB.out⟩
      case round =>
        obtain ⟨j, hj, rfl, hown, hord, hb⟩ := hrel
        by_cases hlj : j < m
        · obtain ⟨b3, o3, x, hB, hb3, hx, hc3⟩ := HRD.out.int hlj
          subst hB
          have c3 := cell_bel hc3 hb
          have hxm := List.mem_of_getElem? hx
          have hxr := HBF.out.hb k x (by rw [HBP.out]; exact hxm)
          obtain ⟨q, rfl⟩ := Int.eq_ofNat_of_zero_le hxr.1
          have hq : q < n := by omega
          have hqk : q ≠ k := fun e => by have := HS2.out _ hxm; rw [Int.toNat_natCast, e, HS1.out] at this; cases this
          have hq0 : (0 : Int) ≤ (q : Int) := by omega
          have hq1 : (q : Int) < (n : Int) := by omega
          have hj0 : (0 : Int) ≤ (j : Int) := by omega
          have hj1 : (j : Int) < (m : Int) := by omega
          have ck := own_int hown hk (by simp [HOL.out])
          have cq := own_int hown hq (by simp [HOL.out])
          rw [getD_set (by rw [HOL.out]; exact hk), if_pos rfl] at ck
          rw [getD_set (by rw [HOL.out]; exact hk), if_neg hqk] at cq
          have hf := hown.frozenAt
          have hnew : mx out (p.bf.take (j + 1)) = max (mx out (p.bf.take j)) (out.getD q 0) := by
            rw [List.take_add_one, hx]
            show mx out (p.bf.take j ++ [(q : Int)]) = _
            rw [mx_snoc, Int.toNat_natCast]
          have S := own_iset hown k (max (mx out (p.bf.take j)) (out.getD q 0))
          rw [List.set_set, ← hnew] at S
          generalize out.getD q 0 = v at *
          generalize mx out (p.bf.take j) = u at *
          have HS := Lib.hid (own_drew S.1)
          have HQ := Lib.hid (own_drew (own_other (g' := w.heap.size) hord S.2 hne))
          have HB2 := Lib.hid ((hb.setCell (p := ⟨w.heap.size, k, none⟩) (Nat.le_refl _) (.int .i64 (mx out (p.bf.take (j + 1))))).drew)
          have e5 : Hid ((if u < v then v else u) = mx out (p.bf.take (j + 1))) := Lib.hid (by rw [hnew]; split <;> omega)
          clear S hown hord hx hxm hc3 hnew hb
          go_wp2
          go_region
          rw [e5.out]
          go_wp2
          go_roundw
          case rel => exact ⟨j + 1, by omega, by go_num, HS.out, HQ.out, HB2.out⟩
          case measure => simp [intOf]; omega
        · have hjm : m = j := by omega
          subst hjm
          have htk : p.bf.take m = p.bf := List.take_of_length_le (by rw [HRL.out]; exact Nat.le_refl _)
          rw [htk] at hown
          have hu := mx_bd (by omega) HD.out p.bf
          have hv := HW.out k
          have hbnd : ∀ j, 0 ≤ (out.set k (mx out p.bf + wt k)).getD j 0 ∧ (out.set k (mx out p.bf + wt k)).getD j 0 ≤ 600 * ((r + 1 : Nat) : Int) := fun j => by
            have := HD.out j
            rw [getD_set (by rw [HOL.out]; exact hk)]
            split <;> omega
          have HBN := Lib.hid hbnd
          have ck := own_int hown hk (by simp [HOL.out])
          rw [getD_set (by rw [HOL.out]; exact hk), if_pos rfl] at ck
          have f0 := cell_bel E0.out hb
          have f1 := cell_bel E1.out hb
          have f2 := cell_bel E2.out hb
          have hf := hown.frozenAt
          have hgl : w.heap.size < wr.heap.size := (own_block hown _ rfl).2
          have hgol := (own_block hord go rfl).2
          have hw64 : IntKind.i64.wrap (mx out p.bf + wt k) = mx out p.bf + wt k := IntWalk.i64_in _ (by omega)
          have HO2 := Lib.hid hown
          have HR2 := Lib.hid hord
          have HB2 := Lib.hid hb
          clear hown hord hb htk hbnd
          generalize mx out p.bf = u at *
          generalize wt k = v at *
          go_wp2
          go_region_with (go_at_fn g; refine (HN.out _).mono ?_; rintro e w5 ⟨rfl, hb5⟩; have q1 : w5.cell? ⟨w.heap.size, k, none⟩ = some (.int .i64 u) := (hb5.cell (p := ⟨w.heap.size, k, none⟩) hgl).trans ck; have q2 : ∀ i, w5.frozen? ⟨w.heap.size, i, none⟩ = false := (own_below (own_drew HO2.out) hb5).frozenAt)
          all_goals
            have hrow := own_below (own_drew HO2.out) hb5
            have S := own_iset hrow k (u + v)
            rw [List.set_set] at S
            have hr5 := own_other (g' := w.heap.size) (own_below (own_drew HR2.out) hb5) S.2 hne
            have hb6 := (HB2.out.drew.trans (hb5.mono HB2.out.size)).setCell (p := ⟨w.heap.size, k, none⟩) (Nat.le_refl _) (.int .i64 (u + v))
            have HS5 := Lib.hid S.1
            have HR5 := Lib.hid hr5
            have HB6 := Lib.hid hb6
            clear hrow S hr5 hb6 q1 q2 hb5
            go_wp2
            go_roundw
            case rel => exact ⟨r + 1, _, by omega, by go_num, HST, HBN, HS5.out, HR5.out, HB6.out⟩
            case measure => simp [intOf]; omega
    · have hrn : n = r := by omega
      subst hrn
      go_wp2
      go_ret
      exact ⟨_, out, _, rfl, hown, HE.out, rfl, HD.out, hb⟩
end Go.Proofs.Ytgghjieeckkpbaa
