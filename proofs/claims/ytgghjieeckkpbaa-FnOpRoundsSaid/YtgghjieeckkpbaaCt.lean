/- CountOpOrders: program, reference, law. Printed by mkct.py. -/
import Derived.Test.YtgghjieeckkpbaaCo
import Derived.Test.YtgghjieeckkpbaaCr
namespace Go.Proofs.Ytgghjieeckkpbaa
open Go.RowKit

noncomputable def coZ (ops : List OpV) : Int × Int := if codeO ops = 0 then (if ops.length ≤ 10 then (waysG (bfsO ops) ops.length 0, 0) else (0, 5)) else (0, codeO ops)
theorem coZ_ok {ops : List OpV} {n : Nat} (h : codeO ops = 0) (hl : ops.length = n) (hn : n ≤ 10) : coZ ops = (waysG (bfsO ops) n 0, 0) := by unfold coZ; rw [if_pos h, hl, if_pos hn]
theorem coZ_big {ops : List OpV} {n : Nat} (h : codeO ops = 0) (hl : ops.length = n) (hn : ¬ n ≤ 10) : coZ ops = (0, 5) := by unfold coZ; rw [if_pos h, hl, if_neg hn]
theorem coZ_no {ops : List OpV} (h : codeO ops ≠ 0) : coZ ops = (0, codeO ops) := by unfold coZ; rw [if_neg h]

set_option maxRecDepth 100000 in
set_option maxHeartbeats 8000000 in
theorem implCountOpOrders_any (A : Option Addr) (n c : Nat) (ops : List OpV) (w : World) (h : RdO w A n c ops) :
    Calls Try.prog 17 #[.slice A n c] w fun e w' => e = .returned (.tuple #[.int .i64 (coZ ops).1, .int .i64 (coZ ops).2]) ∧ Below w.heap.size w w' := by
  have hcall := opsCode_any A n c ops w h
  have hl := h.len
  have h1 := h.cap
  have h2 := h.max
  have H := Lib.hid h
  by_cases hz : codeO ops = 0
  · obtain ⟨hok, hcc⟩ := codeO_ok hz
    rw [hz] at hcall
    have hn14 := hok.len
    rw [hl] at hn14
    by_cases hn : n ≤ 10
    · rw [coZ_ok hz hl hn]
      have hfin := fun c (h : CtI (bfsO ops) n (2 ^ n) 0 c) => h.done hn
      have hct0 := ct0 (bfs := bfsO ops) hn14
      have hp := pow_lt n (by omega)
      have hp1 : 0 < 2 ^ n := Nat.two_pow_pos n
      have hp10 : 2 ^ n ≤ 2 ^ 10 := Nat.pow_le_pow_right (by omega) hn
      have hwr := wrapP n (by omega)
      have hlen : ∀ s k c, CtI (bfsO ops) n s k c → c.length = 2 ^ n := fun s k c h => h.len
      have hnext := fun s c (h : CtI (bfsO ops) n s n c) (hs : s < 2 ^ n) => h.next hn14 hs
      have hput := fun s k c (h : CtI (bfsO ops) n s k c) (hs : s < 2 ^ n) hk hc => h.put hn14 hs hk hc
      have hlt2 := fun s k (hs : s < 2 ^ n) hk hc => (can_lt (bfs := bfsO ops) (x := s) (k := k) hn14 hs hk hc)
      have hset := fun s (hs : s < 2 ^ n) => bitsL_set (n := n) (x := s) hn14 hs
      obtain ⟨N, hN⟩ : ∃ N, N = 2 ^ n := ⟨_, rfl⟩
      rw [← hN] at hfin hct0 hp hp1 hp10 hwr hlen hnext hput hlt2 hset
      have hmk := fun W => mkn N (by omega) W
      have hNn : (n : Int) ≤ 64 := by omega
      generalize waysG (bfsO ops) n 0 = R at *
      have HC := Lib.hid hcall
      have HK := Lib.hid hok
      have HF := Lib.hid hfin
      have HT0 := Lib.hid hct0
      have HLEN := Lib.hid hlen
      have HNX := Lib.hid hnext
      have HPT := Lib.hid hput
      have HLT := Lib.hid hlt2
      have HSE := Lib.hid hset
      have HN := Lib.hid hN
      clear hcall h hok hcc hz hl hfin hct0 hlen hnext hput hlt2 hset hN
      go_enter Try.func17, Try.ntmps17
      go_wp2_with fail
      refine (HC.out).mono ?_
      rintro e w1 ⟨rfl, hb1⟩
      have H1 := Lib.hid (H.out.below hb1)
      have hs1 := hb1.size
      have hown := ownn N (by omega) w1 w.heap.size hs1
      have hb2 : Below w.heap.size w (w1.alloc (.cells (cn N) 2)) := hb1.alloc hs1 _
      have S := own_iset hown 0 1
      have hb3 := hb2.setCell (p := ⟨w1.heap.size, 0, none⟩) hs1 (.int .i64 1)
      have c0 := own_int hown (i := 0) hp1 (by simp)
      have hf0 := hown.frozenAt
      have e0 : (w1.alloc (.cells (cn N) 2)).setCell ⟨w1.heap.size, 0, none⟩ (.int .i64 1) = w1.alloc (.cells ((cn N).setIfInBounds 0 (.int .i64 1)) 2) := World.setCell_alloc_at _ _ _ _ _ rfl
      rw [e0] at S hb3
      have HO := Lib.hid S.1
      have HB := Lib.hid hb3
      have hmk1 := hmk w1
      have hc00 : (cn N)[0]? = some (Value.int .i64 0) := by rw [cn, List.getElem?_toArray, ints_get, List.getElem?_replicate, if_pos hp1]; rfl
      clear hb1 hown hb2 S hb3 hmk e0 c0 hf0
      go_wp2
      go_loopw [27] (fun vs wr => ∃ (s : Nat) (cs : List Int), s ≤ N ∧ vs = .int .i64 s ∧ Hid (CtI (bfsO ops) n s 0 cs) ∧ wr.ownsRow w.heap.size 2 1 (.slice (some ⟨w1.heap.size, 0, none⟩) N N) N (ints cs) ∧ Below w.heap.size w wr) (fun vs _ => N - (intOf vs).toNat)
      case atStart => exact ⟨0, _, Nat.zero_le _, rfl, HT0, HO.out, HB.out⟩
      case round =>
        clear HT0 HO HB
        obtain ⟨s, cs, hs, rfl, HI, hown, hb⟩ := hrel
        have HO := Lib.hid hown
        have HB := Lib.hid hb
        clear hown hb
        by_cases hlt : s < N
        · have hs0 : (0 : Int) ≤ (s : Int) := by omega
          have hsN : (s : Int) < (N : Int) := by omega
          go_wp2
          go_loopw [32] (fun vk wr => ∃ (k : Nat) (cs : List Int), k ≤ n ∧ vk = .int .i64 k ∧ Hid (CtI (bfsO ops) n s k cs) ∧ wr.ownsRow w.heap.size 2 1 (.slice (some ⟨w1.heap.size, 0, none⟩) N N) N (ints cs) ∧ Below w.heap.size w wr) (fun vk _ => n - (intOf vk).toNat)
          case atStart => exact ⟨0, cs, Nat.zero_le _, rfl, HI, HO.out, HB.out⟩
          case round =>
            clear HI HO HB
            obtain ⟨k, cs, hk, rfl, HI, hown, hb⟩ := hrel
            have HO := Lib.hid hown
            have HB := Lib.hid hb
            clear hown hb
            by_cases hlk : k < n
            · have hk0 : (0 : Int) ≤ (k : Int) := by omega
              have hk1 : (k : Int) < (n : Int) := by omega
              have hk64 : (k : Int) ≤ 64 := by omega
              have hcan := canBeDone_any A n c ops k s _ wr (H.out.below HB.out) HK.out hlk (HSE.out s hlt)
              have hskip := fun h => HI.out.skip h
              have hput := fun h => HPT.out s k cs HI.out hlt hlk h
              have ht := fun h => HLT.out s k hlt hlk h
              have hor := orPow s k (by omega) (by omega)
              have hwrk := wrapP k (by omega)
              have hcl := HLEN.out _ _ _ HI.out
              generalize canB (bfsO ops) (bitsL n s) k = q at *
              have HCN := Lib.hid hcan
              have HSK := Lib.hid hskip
              have HPU := Lib.hid hput
              have HT := Lib.hid ht
              have HCL := Lib.hid hcl
              have HWK := Lib.hid hwrk
              have HOR := Lib.hid hor
              clear hcan hskip hput ht hcl hwrk hor
              cases q with
              | false =>
                go_wp2_with fail
                refine (HCN.out).mono ?_
                rintro e w3 ⟨rfl, hb3⟩
                have HO3 := Lib.hid (own_below HO.out hb3)
                have HB3 := Lib.hid (HB.out.trans (hb3.mono HB.out.size))
                clear hb3
                go_wp2
                go_roundw
                case rel => exact ⟨k + 1, cs, by omega, by go_num, Lib.hid (HSK.out (by trivial)), HO3.out, HB3.out⟩
                case measure => simp [intOf]; omega
              | true =>
                go_wp2_with fail
                refine (HCN.out).mono ?_
                rintro e w3 ⟨rfl, hb3⟩
                have ht := HT.out (by trivial)
                have hpu := HPU.out (by trivial)
                have hor := HOR.out
                have hwrk := HWK.out
                generalize s ||| 2 ^ k = t at *
                have ht0 := ht.2.1
                have ht1 : (0 : Int) ≤ (t : Int) := by omega
                have ht2 : (t : Int) < (N : Int) := by omega
                have hts := ht.1
                have hO3 := own_below HO.out hb3
                have ct := own_int hO3 ht0 (by rw [HCL.out])
                have cs' := own_int hO3 hlt (by rw [HCL.out])
                have hf := hO3.frozenAt
                have S := own_iset hO3 t (IntKind.i64.wrap (cs.getD t 0 + cs.getD s 0))
                rw [IntWalk.i64_left] at S hpu
                have hg1 := (own_block hO3 _ rfl)
                have hB3 := HB.out.trans (hb3.mono HB.out.size)
                have b4 := hB3.grown S.2 hB3.size (fun j e => by injection e with e; omega)
                have HS4 := Lib.hid (own_drew S.1)
                have HB4 := Lib.hid b4.drew
                have HPU2 := Lib.hid hpu
                clear hb3 hpu ht S b4 hO3 hB3
                generalize cs.getD t 0 = x at *
                generalize cs.getD s 0 = y at *
                go_wp2
                go_region
                go_wp2
                go_roundw
                case rel => exact ⟨k + 1, _, by omega, by go_num, HPU2, HS4.out, HB4.out⟩
                case measure => simp [intOf]; omega
            · have hkn : k = n := by omega
              subst hkn
              have HN2 := Lib.hid (HNX.out s cs HI.out hlt)
              go_wp2
              go_roundw
              case rel => exact ⟨s + 1, cs, by omega, by go_num, HN2, HO.out, HB.out⟩
              case measure => simp [intOf]; omega
        · have hsN : N = s := by omega
          have hR := HF.out cs (by rw [hsN]; exact HI.out)
          have hcl := HLEN.out _ _ _ HI.out
          have cN := own_int HO.out (i := N - 1) (by omega) hcl
          rw [hR] at cN
          subst hsN
          have hN1 : IntKind.i64.wrap ((N : Int) - 1) = ((N - 1 : Nat) : Int) := by rw [IntWalk.i64_in _ (by omega)]; omega
          have HN1 := Lib.hid hN1
          have cN' : wr.cell? ⟨w1.heap.size, N - 1, none⟩ = some (.int .i64 R) := cN
          clear hR hcl cN hN1
          go_wp2
          go_ret2
          exact ⟨rfl, HB.out⟩
    · rw [coZ_big hz hl hn]
      have hn1 : (10 : Int) < (n : Int) := by omega
      have HC := Lib.hid hcall
      clear hcall h hl hz hok hcc
      go_enter Try.func17, Try.ntmps17
      go_wp2_with fail
      refine (HC.out).mono ?_
      rintro e w1 ⟨rfl, hb1⟩
      go_wp2
      go_ret2
      exact ⟨rfl, hb1⟩
  · rw [coZ_no hz]
    generalize codeO ops = z at *
    have hne : (z != 0) = true := by simpa using hz
    have HC := Lib.hid hcall
    clear hcall h hl
    go_enter Try.func17, Try.ntmps17
    go_wp2_with fail
    refine (HC.out).mono ?_
    rintro e w1 ⟨rfl, hb1⟩
    go_wp2
    go_ret2
    exact ⟨rfl, hb1⟩

/-- The numbers that are known: -1, or the number of ways behind the set. -/
structure KInv (bfs : List (List Int)) (n N : Nat) (K : List Int) : Prop where
  len : K.length = N
  val : ∀ x, x < N → K.getD x 0 = -1 ∨ K.getD x 0 = waysG bfs n x
theorem KInv.put {bfs : List (List Int)} {n N x : Nat} {K : List Int} (h : KInv bfs n N K) (hx : x < N) : KInv bfs n N (K.set x (waysG bfs n x)) := by
  refine ⟨by rw [List.length_set]; exact h.len, fun y hy => ?_⟩
  rw [getD_set (by rw [h.len]; exact hx)]
  split
  · rename_i e; subst e; exact .inr rfl
  · exact h.val y hy
theorem kinv0 (bfs : List (List Int)) (n N : Nat) : KInv bfs n N (List.replicate N (-1)) :=
  ⟨by simp, fun x hx => .inl (by simp [List.getD, hx])⟩
theorem set_back {d : List Bool} {k : Nat} (hk : k < d.length) (hs : seenAt d k = false) : (d.set k true).set k false = d := by
  rw [List.set_set]
  apply List.ext_getElem?
  intro j
  by_cases e : j = k
  · subst e
    rw [List.getElem?_set_self hk]
    unfold seenAt at hs
    rw [getD_ofB hk] at hs
    rw [List.getElem?_eq_getElem hk, hs]
  · rw [List.getElem?_set_ne (by omega)]
/-- What l13Counts leaves behind: the number; the marks as they were; what is known; nothing else has turned. -/
def CtPost (bfs : List (List Int)) (n N gd gk ck : Nat) (d : List Bool) (z : Int) (w0 : World) (e : Ending) (w' : World) : Prop :=
  e = .returned (.int .i64 z) ∧ w'.ownsRow w0.heap.size 4 1 (.slice (some ⟨gd, 0, none⟩) n n) n (bs d) ∧ (∃ K, w'.ownsRow w0.heap.size 2 1 (.slice (some ⟨gk, 0, none⟩) N ck) N (ints K) ∧ KInv bfs n N K) ∧ Below w0.heap.size w0 w'

set_option maxRecDepth 100000 in
set_option maxHeartbeats 8000000 in
theorem l13Counts_any (A : Option Addr) (n c N gd gk ck : Nat) (ops : List OpV) (w0 : World) (h : RdO w0 A n c ops) (hok : OOk ops) (hn : n ≤ 10) (hN : N = 2 ^ n) (hg : gd ≠ gk) :
    ∀ (r x : Nat) (d : List Bool) (K : List Int) (w : World), SetD n d x → freeN d = r → KInv (bfsO ops) n N K → Below w0.heap.size w0 w → w.ownsRow w0.heap.size 4 1 (.slice (some ⟨gd, 0, none⟩) n n) n (bs d) → w.ownsRow w0.heap.size 2 1 (.slice (some ⟨gk, 0, none⟩) N ck) N (ints K) →
      Calls Try.prog 59 #[.slice A n c, .slice (some ⟨gd, 0, none⟩) n n, .int .i64 x, .slice (some ⟨gk, 0, none⟩) N ck] w (CtPost (bfsO ops) n N gd gk ck d (waysR (bfsO ops) n r x) w0) := by
  have h1 := h.cap
  have h2 := h.max
  have hp1 : 0 < N := by rw [hN]; exact Nat.two_pow_pos n
  have hp10 : N ≤ 2 ^ 10 := by rw [hN]; exact Nat.pow_le_pow_right (by omega) hn
  have H := Lib.hid h
  have HK := Lib.hid hok
  have HN := Lib.hid hN
  clear h hok hN
  intro r
  induction r with
  | zero =>
    intro x d K w hD hf hKI hb hd hk
    have hx : x = N - 1 := by rw [HN.out]; exact (full_iff hD).2 hf
    have hck := (Rd.of_own hk).cap
    have hckm := (Rd.of_own hk).max
    have ht : ((x : Int) == (N : Int) - 1) = true := by simp; omega
    have hD' := Lib.hid hd
    have hK' := Lib.hid hk
    have HKI := Lib.hid hKI
    have HB := Lib.hid hb
    clear hd hk hKI hb hf hD hx
    go_enter Try.func59, Try.ntmps59
    go_wp2
    go_ret
    exact ⟨rfl, hD'.out, ⟨K, hK'.out, HKI.out⟩, HB.out⟩
  | succ r ih =>
    intro x d K w hD hf hKI hb hd hk
    have IH := Lib.hid ih
    clear ih
    have hxN : x < N := by rw [HN.out]; exact hD.up
    have hne : x ≠ N - 1 := fun e => by rw [HN.out] at e; have := (full_iff hD).1 e; omega
    have ht : ((x : Int) == (N : Int) - 1) = false := by simp; omega
    have hrn : r + 1 ≤ n := by have := free_le d; rw [hD.len] at this; omega
    have hdb := hD.eq
    have hG : waysG (bfsO ops) n x = waysR (bfsO ops) n (r + 1) x := by
      unfold waysG
      rw [← hdb, hf]
    have hGb := waysR_ten (bfsO ops) (n := n) (r := r + 1) hn (by omega) x
    have hpt := fun k (hk : k ≤ n) => part_ten (bfsO ops) (n := n) (r := r) (k := k) hn (by omega) (by omega) x
    have hwt := fun k => wayF_bd (bfsO ops) n r x k
    have hp10r := pow_ten (n := n) (r := r) hn (by omega)
    have hsum := waysR_succ (bfsO ops) n r x
    have hput := fun K (h : KInv (bfsO ops) n N K) => h.put hxN
    rw [hG] at hput
    have hval := hKI.val x hxN
    rw [hG] at hval
    have hck := (Rd.of_own hk).cap
    have hckm := (Rd.of_own hk).max
    have hkl := hKI.len
    have cx := own_int hk hxN hkl
    have hx0 : (0 : Int) ≤ (x : Int) := by omega
    have hx1 : (x : Int) < (N : Int) := by omega
    have HD := Lib.hid hD
    have HDB := Lib.hid hdb
    have HF := Lib.hid hf
    have HKI := Lib.hid hKI
    have HB := Lib.hid hb
    have HDO := Lib.hid hd
    have HKO := Lib.hid hk
    have HPT := Lib.hid hpt
    have HWT := Lib.hid hwt
    have HSM := Lib.hid hsum
    have HPU := Lib.hid hput
    generalize K.getD x 0 = kx at *
    generalize waysR (bfsO ops) n (r + 1) x = R at *
    clear hD hdb hf hKI hb hd hk hpt hwt hsum hput hne hkl hG hp10r
    by_cases hkx : kx = -1
    · subst hkx
      clear hval
      go_enter Try.func59, Try.ntmps59
      go_wp2
      go_loopw [9, 10] (fun vs vk wr => ∃ (k : Nat) (K : List Int), k ≤ n ∧ vk = .int .i64 k ∧ vs = .int .i64 (sumK (wayF (bfsO ops) n r x) k) ∧ Hid (KInv (bfsO ops) n N K) ∧ wr.ownsRow w0.heap.size 4 1 (.slice (some ⟨gd, 0, none⟩) n n) n (bs d) ∧ wr.ownsRow w0.heap.size 2 1 (.slice (some ⟨gk, 0, none⟩) N ck) N (ints K) ∧ Below w0.heap.size w0 wr) (fun _ vk _ => n - (intOf vk).toNat)
      case atStart => exact ⟨0, K, Nat.zero_le _, rfl, rfl, HKI, HDO.out, HKO.out, HB.out⟩
      case round =>
        clear HKI HDO HKO HB cx
        obtain ⟨k, K, hk, rfl, rfl, HKI, hd, hko, hb⟩ := hrel
        have HDO := Lib.hid hd
        have HKO := Lib.hid hko
        have HB := Lib.hid hb
        have hgd := (own_block hd _ rfl)
        have hgk := (own_block hko _ rfl)
        clear hd hko hb
        by_cases hlk : k < n
        · have hk0 : (0 : Int) ≤ (k : Int) := by omega
          have hk1 : (k : Int) < (n : Int) := by omega
          have hk64 : (k : Int) ≤ 64 := by omega
          have hcan := l13Can_any A n c ops w0.heap.size gd n k d wr (H.out.below HB.out) HK.out hlk HD.out.len HDO.out
          have hwk : wayF (bfsO ops) n r x k = if canB (bfsO ops) d k = true then waysR (bfsO ops) n r (x ||| 2 ^ k) else 0 := by rw [HDB.out]; rfl
          have hcs := fun (h : canB (bfsO ops) d k = true) => (can_iff.1 h).1
          have hwb := HWT.out k
          have hsb := HPT.out k (by omega)
          have hsb2 := HPT.out (k + 1) (by omega)
          have hss : sumK (wayF (bfsO ops) n r x) (k + 1) = sumK (wayF (bfsO ops) n r x) k + wayF (bfsO ops) n r x k := rfl
          rw [hss] at hsb2
          have HSS := Lib.hid hss
          clear hss
          generalize sumK (wayF (bfsO ops) n r x) k = u at *
          generalize wayF (bfsO ops) n r x k = v at *
          generalize canB (bfsO ops) d k = q at *
          have HCN := Lib.hid hcan
          have HWK := Lib.hid hwk
          have HCS := Lib.hid hcs
          clear hcan hwk hcs
          cases q with
          | false =>
            have hv : v = 0 := by have := HWK.out; simpa using this
            subst hv
            go_wp2_with fail
            refine (HCN.out).mono ?_
            rintro e wz ⟨rfl, rfl⟩
            go_wp2
            go_roundw
            case rel => exact ⟨k + 1, K, by omega, by go_num, by rw [HSS.out, Int.add_zero], HKI, HDO.out, HKO.out, HB.out⟩
            case measure => simp [intOf]; omega
          | true =>
            have hv : v = waysR (bfsO ops) n r (x ||| 2 ^ k) := by have := HWK.out; simpa using this
            have hsd := HCS.out (by trivial)
            have hfree := free_set (d := d) (k := k) (by rw [HD.out.len]; exact hlk) hsd
            have hback := set_back (d := d) (k := k) (by rw [HD.out.len]; exact hlk) hsd
            have hwrk := wrapP k (by omega)
            have HOR := Lib.hid (orPow x k HD.out.lt (by omega))
            have S := own_bset HDO.out k true
            have hk2 := own_other (g' := gd) HKO.out S.2 (fun e => hg e.symm)
            have hb2 := HB.out.setCell (p := ⟨gd, k, none⟩) hgd.1 (.bool true)
            have hih := IH.out (x ||| 2 ^ k) (d.set k true) K _ (HD.out.put hlk) (by rw [HF.out] at hfree; omega) HKI.out hb2 S.1 hk2
            rw [← hv] at hih
            have cd := own_bool HDO.out hlk HD.out.len
            have hf := HDO.out.frozenAt
            have HIH := Lib.hid hih
            have HBK := Lib.hid hback
            clear hv hsd hfree hback S hk2 hb2 hih
            go_wp2_with fail
            refine (HCN.out).mono ?_
            rintro e wz ⟨rfl, rfl⟩
            go_wp2_with fail
            rw [HOR.out]
            refine (HIH.out).mono ?_
            rintro e w2 ⟨rfl, hd2, ⟨K2, hk2, hKI2⟩, hb2⟩
            have cd2 := own_bool hd2 hlk (by rw [List.length_set]; exact HD.out.len)
            have hf2 := hd2.frozenAt
            have S2 := own_bset hd2 k false
            rw [HBK.out] at S2
            have hk3 := own_other (g' := gd) hk2 S2.2 (fun e => hg e.symm)
            have hb3 := hb2.setCell (p := ⟨gd, k, none⟩) hgd.1 (.bool false)
            have HD3 := Lib.hid S2.1
            have HK3 := Lib.hid hk3
            have HB3 := Lib.hid hb3
            have HKI3 := Lib.hid hKI2
            clear S2 hk3 hb3 hKI2 hd2 hk2 hb2 cd hf
            go_wp2
            go_roundw
            case rel => exact ⟨k + 1, K2, by omega, by go_num, by rw [HSS.out], HKI3, HD3.out, HK3.out, HB3.out⟩
            case measure => simp [intOf]; omega
        · have hkn : k = n := by omega
          subst hkn
          rw [← HSM.out]
          have cx := own_int HKO.out hxN HKI.out.len
          have hf := HKO.out.frozenAt
          have S := own_iset HKO.out x R
          have hd2 := own_other (g' := gk) HDO.out S.2 hg
          have hb2 := HB.out.setCell (p := ⟨gk, x, none⟩) hgk.1 (.int .i64 R)
          have HS := Lib.hid S.1
          have HD2 := Lib.hid hd2
          have HB2 := Lib.hid hb2
          have HKP := Lib.hid (HPU.out K HKI.out)
          clear S hd2 hb2
          go_wp2
          go_ret
          exact ⟨rfl, HD2.out, ⟨_, HS.out, HKP.out⟩, HB2.out⟩
    · have hkr : kx = R := by omega
      subst hkr
      clear hval hkx
      go_enter Try.func59, Try.ntmps59
      go_wp2
      go_ret
      exact ⟨rfl, HDO.out, ⟨K, HKO.out, HKI.out⟩, HB.out⟩

set_option maxRecDepth 100000 in
set_option maxHeartbeats 8000000 in
theorem specCountOpOrders_any (A : Option Addr) (n c : Nat) (ops : List OpV) (w : World) (h : RdO w A n c ops) :
    Calls Try.prog 18 #[.slice A n c] w fun e w' => e = .returned (.tuple #[.int .i64 (coZ ops).1, .int .i64 (coZ ops).2]) ∧ Below w.heap.size w w' := by
  obtain ⟨i0, hi, hz0, hz1, hz2⟩ := info_parts info_i64r
  have hcall := l13Code_any A n c ops w h
  have hl := h.len
  have h1 := h.cap
  have h2 := h.max
  have H := Lib.hid h
  by_cases hz : codeO ops = 0
  · obtain ⟨hok, hcc⟩ := codeO_ok hz
    rw [hz] at hcall
    have hn14 := hok.len
    rw [hl] at hn14
    by_cases hn : n ≤ 10
    · rw [coZ_ok hz hl hn]
      have hp := pow_lt n (by omega)
      have hp1 : 0 < 2 ^ n := Nat.two_pow_pos n
      have hp10 : 2 ^ n ≤ 2 ^ 10 := Nat.pow_le_pow_right (by omega) hn
      have hwr := wrapP n (by omega)
      obtain ⟨N, hN⟩ : ∃ N, N = 2 ^ n := ⟨_, rfl⟩
      rw [← hN] at hp hp1 hp10 hwr
      have hcnt := fun gd gk ck hg K W hK hb hd hk => l13Counts_any A n c N gd gk ck ops w h hok hn hN hg n 0 (List.replicate n false) K W (SetD.zero hn14) (free_rep n) hK hb hd hk
      have hR : waysG (bfsO ops) n 0 = waysR (bfsO ops) n n 0 := by unfold waysG; rw [bitsL_zero, free_rep]
      rw [← hR] at hcnt
      have hk0 := kinv0 (bfsO ops) n N
      have hmk := fun W => mkb n (by omega) W
      have hnI : ¬ (10 : Int) < (n : Int) := by omega
      have hgd : decide ((10 : Int) < (n : Int)) = false := by simpa using hnI
      have hNn : (n : Int) ≤ 64 := by omega
      generalize waysG (bfsO ops) n 0 = R at *
      have HC := Lib.hid hcall
      have HCT := Lib.hid hcnt
      have HK0 := Lib.hid hk0
      have HMK := Lib.hid hmk
      clear hcall h hok hcc hz hl hcnt hR hk0 hN hmk
      go_enter Try.func18, Try.ntmps18
      go_wp2_with fail
      refine (HC.out).mono ?_
      rintro e w1 ⟨rfl, hb1⟩
      have hs1 := hb1.size
      have ho0 : (w1.alloc (.cells #[] 2)).ownsRow w.heap.size 2 1 (.slice (some ⟨w1.heap.size, 0, none⟩) 0 0) 0 (ints []) := World.ownsRow_made w1 #[] 0 hs1 (by unfold maxLen; omega) rfl
      have HO0 := Lib.hid ho0
      have HB0 : Hid (Below w.heap.size w (w1.alloc (.cells #[] 2))) := Lib.hid (hb1.alloc hs1 _)
      clear ho0 hb1
      go_wp2
      go_loopw [5, 6] (fun vo vi wr => ∃ i go co : Nat, i ≤ N ∧ vi = .int .i64 i ∧ vo = .slice (some ⟨go, 0, none⟩) i co ∧ wr.ownsRow w.heap.size 2 1 (.slice (some ⟨go, 0, none⟩) i co) i (ints (List.replicate i (-1))) ∧ Below w.heap.size w wr) (fun _ vi _ => N - (intOf vi).toNat)
      case atStart => exact ⟨0, _, _, Nat.zero_le _, rfl, rfl, HO0.out, HB0.out⟩
      case round =>
        obtain ⟨i, go, co, hin, rfl, rfl, hown, hb⟩ := hrel
        have hcap := (Rd.of_own hown).cap
        have hmax := (Rd.of_own hown).max
        have hgo := (own_block hown go rfl)
        have hs := hb.size
        by_cases hlt : i < N
        · have HO := Lib.hid hown
          have HB := Lib.hid hb
          clear hown hb
          go_wp2_with (at_builtin; refine wpList_append_own _ rfl (.tmp 28) (.tmp 29) 28 rfl w.heap.size 2 i0 (.int .i64 0) 1 8 Try.underlying28 hi hz0 hz1 hz2 rfl (by decide) (Value.slice (some ⟨go, 0, none⟩) i co) _ _ rfl (HO.out.alloc _) ⟨_, 0, none⟩ 1 1 [.int .i64 (-1)] rfl rfl (cell_one_new _ _ _) (by intro u hu; simp at hu; subst hu; rfl) (by unfold maxLen; omega) (by omega) (by simp; omega) ?_; intro v' wa hown' hga hdel; clear hdel)
          have hal : Below wr.heap.size wr (wr.alloc (.cells #[.int .i64 (-1)] 2)) := (Below.refl _ _).alloc (Nat.le_refl _) _
          obtain ⟨g3, d3, hv, hg3, _⟩ := own_form hown' (by omega)
          have b3 : Below w.heap.size w wa := (HB.out.trans (hal.mono hs)).grown hga (by simp; omega) (fun j hj => by simp [Value.ownBlock] at hj; omega)
          rw [ints_snoc, ← List.replicate_succ'] at hown'
          subst hv
          have HO4 := Lib.hid hown'
          have HB4 := Lib.hid b3
          clear hown' hga hal b3
          go_wp2
          go_roundw
          case rel => exact ⟨i + 1, g3, d3, by omega, by go_num, rfl, HO4.out, HB4.out⟩
          case measure => simp [intOf]; omega
        · have hiN : N = i := by omega
          subst hiN
          have hmkr := HMK.out wr
          have hm0 := ownb n (by omega) wr w.heap.size hs
          have ha : Below wr.heap.size wr (wr.alloc (.cells (bn n) 4)) := (Below.refl _ _).alloc (Nat.le_refl _) _
          have hcall := HCT.out wr.heap.size go co (by omega) _ _ HK0.out (hb.trans (ha.mono hs)) hm0 (own_below hown ha)
          have HCA := Lib.hid hcall
          clear hm0 ha hcall hown hb
          go_wp2_with fail
          refine (HCA.out).mono ?_
          rintro e w2 ⟨rfl, _, _, hb2⟩
          go_wp2
          go_ret2
          exact ⟨rfl, hb2⟩
    · rw [coZ_big hz hl hn]
      have hn1 : (10 : Int) < (n : Int) := by omega
      have hgd : decide ((10 : Int) < (n : Int)) = true := by simpa using hn1
      have HC := Lib.hid hcall
      clear hcall h hl hz hok hcc
      go_enter Try.func18, Try.ntmps18
      go_wp2_with fail
      refine (HC.out).mono ?_
      rintro e w1 ⟨rfl, hb1⟩
      go_wp2
      go_ret2
      exact ⟨rfl, hb1⟩
  · rw [coZ_no hz]
    generalize codeO ops = z at *
    have hne : (z != 0) = true := by simpa using hz
    have heq : (z == 0) = false := by simpa using hz
    have HC := Lib.hid hcall
    clear hcall h hl
    go_enter Try.func18, Try.ntmps18
    go_wp2_with fail
    refine (HC.out).mono ?_
    rintro e w1 ⟨rfl, hb1⟩
    go_wp2
    go_ret2
    exact ⟨rfl, hb1⟩

set_option maxRecDepth 100000 in
set_option maxHeartbeats 8000000 in
theorem law_CountOpOrders (A : Option Addr) (n c : Nat) (ops : List OpV) (w : World) (hA : RdO w A n c ops) :
    Calls Try.prog 10 #[.slice A n c] w fun e w' => e = .returned (.bool true) ∧ Below w.heap.size w w' := by
  have eA1 := hA.cap
  have eA2 := hA.max
  have lA := hA.len
  have hsp := fun A n c W h => specCountOpOrders_any A n c ops W h
  have him := fun A n c W h => implCountOpOrders_any A n c ops W h
  generalize (coZ ops).1 = R at *
  generalize (coZ ops).2 = z at *
  have HA := Lib.hid hA
  have HSP := Lib.hid hsp
  have HIM := Lib.hid him
  clear hA hsp him lA
  have bz : Below w.heap.size w w := Below.refl _ _
  go_enter Try.func10, Try.ntmps10
  go_wp2_with fail
  refine (szOpS_any _ _ _ ops _ _ (HA.out.below bz) (by omega) (by omega)).mono ?_
  rintro e w0 ⟨q0, rfl, hq, hbz⟩
  have b0 : Below w.heap.size w w0 := bz.trans (hbz.mono bz.size)
  clear hbz
  rcases hq with rfl | ⟨hq0, hq1, hsh⟩
  · go_wp2
    go_ret
    exact ⟨rfl, b0⟩
  have SHA := Lib.hid hsh
  have hqn : ¬ q0 < 0 := by omega
  clear hsh
  have s0 := b0.size
  go_wp2_with fail
  refine (toOpS_any A n c ops _ (HA.out.below b0) SHA.out).mono ?_
  rintro e w1 ⟨gt0, cst0, Gt0, rfl, hP, hM, hb1⟩
  have b1 : Below w.heap.size w w1 := b0.trans (hb1.mono b0.size)
  have s1 := hb1.size
  have Pt01 := Lib.hid hP
  have Mt01 := Lib.hid hM
  clear hb1 hP hM
  go_wp2_with fail
  refine (HSP.out _ _ _ _ Pt01.out).mono ?_
  rintro e w2 ⟨rfl, hb2⟩
  have b2 : Below w.heap.size w w2 := b1.trans (hb2.mono b1.size)
  have s2 := hb2.size
  have Pt02 := Lib.hid (Pt01.out.below hb2)
  have Mt02 := Lib.hid (Mt01.out.below hb2)
  clear hb2 Pt01 Mt01
  go_wp2_with fail
  refine (toOpS_any A n c ops _ (HA.out.below b2) SHA.out).mono ?_
  rintro e w3 ⟨gx0, csx0, Gx0, rfl, hP, hM, hb3⟩
  have b3 : Below w.heap.size w w3 := b2.trans (hb3.mono b2.size)
  have s3 := hb3.size
  have Pt03 := Lib.hid (Pt02.out.below hb3)
  have Mt03 := Lib.hid (Mt02.out.below hb3)
  have Px03 := Lib.hid hP
  have Mx03 := Lib.hid hM
  clear hb3 Pt02 Mt02 hP hM
  go_wp2_with fail
  refine (HIM.out _ _ _ _ Px03.out).mono ?_
  rintro e w4 ⟨rfl, hb4⟩
  have b4 : Below w.heap.size w w4 := b3.trans (hb4.mono b3.size)
  have s4 := hb4.size
  have Pt04 := Lib.hid (Pt03.out.below hb4)
  have Mt04 := Lib.hid (Mt03.out.below hb4)
  have Px04 := Lib.hid (Px03.out.below hb4)
  have Mx04 := Lib.hid (Mx03.out.below hb4)
  clear hb4 Pt03 Mt03 Px03 Mx03
  go_wp2_with fail
  refine (toOpS_any A n c ops _ (HA.out.below b4) SHA.out).mono ?_
  rintro e w5 ⟨gy0, csy0, Gy0, rfl, hP, hM, hb5⟩
  have b5 : Below w.heap.size w w5 := b4.trans (hb5.mono b4.size)
  have s5 := hb5.size
  have Pt05 := Lib.hid (Pt04.out.below hb5)
  have Mt05 := Lib.hid (Mt04.out.below hb5)
  have Px05 := Lib.hid (Px04.out.below hb5)
  have Mx05 := Lib.hid (Mx04.out.below hb5)
  have Py05 := Lib.hid hP
  have My05 := Lib.hid hM
  clear hb5 Pt04 Mt04 Px04 Mx04 hP hM
  go_wp2_with fail
  refine (eqOpS_any _ _ _ _ _ ops _ Px05.out Py05.out).mono ?_
  rintro e w6 ⟨rfl, hb6⟩
  have b6 : Below w.heap.size w w6 := b5.trans (hb6.mono b5.size)
  have s6 := hb6.size
  have Pt06 := Lib.hid (Pt05.out.below hb6)
  have Mt06 := Lib.hid (Mt05.out.below hb6)
  have Px06 := Lib.hid (Px05.out.below hb6)
  have Mx06 := Lib.hid (Mx05.out.below hb6)
  have Py06 := Lib.hid (Py05.out.below hb6)
  have My06 := Lib.hid (My05.out.below hb6)
  clear hb6 Pt05 Mt05 Px05 Mx05 Py05 My05
  go_wp2_with fail
  go_ret
  exact ⟨rfl, b6⟩

end Go.Proofs.Ytgghjieeckkpbaa
