/- IsOpOrder: program, reference, law. Printed by mkio.py. -/
import Derived.Test.YtgghjieeckkpbaaDoorCan
import Derived.Test.YtgghjieeckkpbaaDoorOwn
namespace Go.Proofs.YtgghjieeckkpbaaDoor
open Go.RowKit

/-- Can they be done in this order, behind those that are marked? -/
def goO (bfs : List (List Int)) : List Bool → List Int → Bool
  | _, [] => true
  | d, x :: xs => if canB bfs d x.toNat = true then goO bfs (d.set x.toNat true) xs else false
theorem goO_yes {bfs : List (List Int)} {d : List Bool} {os : List Int} {j k : Nat} (h : os[j]? = some (k : Int)) (hc : canB bfs d k = true) : goO bfs d (os.drop j) = goO bfs (d.set k true) (os.drop (j + 1)) := by
  obtain ⟨hj, hx⟩ := List.getElem?_eq_some_iff.1 h
  rw [List.drop_eq_getElem_cons hj, hx]
  show (if canB bfs d ((k : Int)).toNat = true then goO bfs (d.set ((k : Int)).toNat true) (os.drop (j + 1)) else false) = _
  rw [Int.toNat_natCast, if_pos hc]
theorem goO_no {bfs : List (List Int)} {d : List Bool} {os : List Int} {j k : Nat} (h : os[j]? = some (k : Int)) (hc : canB bfs d k = false) : goO bfs d (os.drop j) = false := by
  obtain ⟨hj, hx⟩ := List.getElem?_eq_some_iff.1 h
  rw [List.drop_eq_getElem_cons hj, hx]
  show (if canB bfs d ((k : Int)).toNat = true then goO bfs (d.set ((k : Int)).toNat true) (os.drop (j + 1)) else false) = _
  rw [Int.toNat_natCast, if_neg (by rw [hc]; simp)]
theorem goO_end {bfs : List (List Int)} {d : List Bool} {os : List Int} {j : Nat} (h : os.length ≤ j) : goO bfs d (os.drop j) = true := by
  rw [List.drop_of_length_le h]
  rfl
noncomputable def isO (ops : List OpV) (os : List Int) : Bool × Int :=
  if okO ops = true then (if outB os 0 ((ops.length : Int) - 1) = true then (false, 2) else if goO (bfsO ops) (List.replicate ops.length false) os = true then ((os.length : Int) == (ops.length : Int), 0) else (false, 0)) else (false, 1)
theorem isO_bad {ops : List OpV} {os : List Int} (h : okO ops = false) : isO ops os = (false, 1) := by unfold isO; rw [if_neg (by rw [h]; simp)]
theorem isO_out {ops : List OpV} {os : List Int} {n : Nat} (h : okO ops = true) (hl : ops.length = n) (hz : outB os 0 ((n : Int) - 1) = true) : isO ops os = (false, 2) := by unfold isO; rw [if_pos h, hl, if_pos hz]
theorem isO_yes {ops : List OpV} {os : List Int} {n m : Nat} (h : okO ops = true) (hl : ops.length = n) (hm : os.length = m) (hz : outB os 0 ((n : Int) - 1) = false) (hg : goO (bfsO ops) (List.replicate n false) os = true) : isO ops os = ((m : Int) == (n : Int), 0) := by unfold isO; rw [if_pos h, hl, hm, if_neg (by rw [hz]; simp), if_pos hg]
theorem isO_not {ops : List OpV} {os : List Int} {n : Nat} (h : okO ops = true) (hl : ops.length = n) (hz : outB os 0 ((n : Int) - 1) = false) (hg : goO (bfsO ops) (List.replicate n false) os = false) : isO ops os = (false, 0) := by unfold isO; rw [if_pos h, hl, if_neg (by rw [hz]; simp), if_neg (by rw [hg]; simp)]
theorem out_no {os : List Int} {n : Nat} (h : outB os 0 ((n : Int) - 1) = false) : ∀ (j : Nat) (x : Int), os[j]? = some x → 0 ≤ x ∧ x < n := by
  intro j x hx
  unfold outB at h
  rw [List.any_eq_false] at h
  have := h x (List.mem_of_getElem? hx)
  simp only [Bool.not_eq_true', Bool.not_eq_false] at this
  have := inB_true this
  omega
theorem out_yes {os : List Int} {lo hi : Int} {j : Nat} {x : Int} (h : os[j]? = some x) (hx : inB x lo hi = false) : outB os lo hi = true := by
  unfold outB
  rw [List.any_eq_true]
  exact ⟨x, List.mem_of_getElem? h, by rw [hx]; rfl⟩
theorem out_all {os : List Int} {lo hi : Int} {m : Nat} (hm : os.length ≤ m) (h : ∀ y ∈ os.take m, inB y lo hi = true) : outB os lo hi = false := by
  unfold outB
  rw [List.any_eq_false]
  intro x hx
  rw [List.take_of_length_le hm] at h
  rw [h x hx]
  simp

set_option maxRecDepth 100000 in
set_option maxHeartbeats 8000000 in
theorem implIsOpOrder_any (A : Option Addr) (n c : Nat) (ops : List OpV) (B : Option Addr) (m d : Nat) (os : List Int) (w : World) (h : RdO w A n c ops) (hB : Rd w 1 B m d (ints os)) :
    Calls Tryd.prog 17 #[.slice A n c, .slice B m d] w fun e w' => e = .returned (.tuple #[.bool (isO ops os).1, .int .i64 (isO ops os).2]) ∧ Below w.heap.size w w' := by
  have hl := h.len
  have hlo := hB.ilen
  have h1 := h.cap
  have h2 := h.max
  have h3 := hB.cap
  have h4 := hB.max
  have hcall := implValidOps_any A n c ops w h
  have hout := fun W h => outside_any B m d os 0 ((n : Int) - 1) W h
  have H := Lib.hid h
  have HB := Lib.hid hB
  by_cases hq : okO ops = true
  · have hok := okO_true hq
    have hP1 := isO_out (os := os) hq hl
    have hP2 := isO_yes (os := os) hq hl hlo
    have hP3 := isO_not (os := os) hq hl
    generalize isO ops os = P at *
    rw [hq] at hcall
    have HC := Lib.hid hcall
    have HK := Lib.hid hok
    have hbf := bfs_ok hok hl
    have hn14 := hbf.hn
    cases hz : outB os 0 ((n : Int) - 1) with
    | true =>
      rw [hz] at hout
      have hP := hP1 hz
      subst hP
      clear hP1 hP2 hP3
      have HO := Lib.hid hout
      clear hcall hout h hB hq hok hbf hl hlo hz
      go_enter Tryd.func17, Tryd.ntmps17
      go_wp2_with fail
      refine (HC.out).mono ?_
      rintro e w1 ⟨rfl, hb1⟩
      have B1 := Lib.hid (HB.out.below hb1)
      have Hb1 := Lib.hid hb1
      clear hb1
      go_wp2_with fail
      refine (HO.out _ B1.out).mono ?_
      rintro e w2 ⟨rfl, hb2⟩
      have Hb2 := Lib.hid (Hb1.out.trans (hb2.mono Hb1.out.size))
      clear hb2
      go_wp2
      go_ret2
      exact ⟨rfl, Hb2.out⟩
    | false =>
      rw [hz] at hout
      have hP2 := hP2 hz
      have hP3 := hP3 hz
      clear hP1
      have hin := out_no hz
      have HO := Lib.hid hout
      have HI := Lib.hid hin
      have hstep := fun (d : List Bool) (j k : Nat) (h : os[j]? = some (k : Int)) => goO_yes (bfs := bfsO ops) (d := d) h
      have hstop := fun (d : List Bool) (j k : Nat) (h : os[j]? = some (k : Int)) => goO_no (bfs := bfsO ops) (d := d) h
      have hend := fun (d : List Bool) (j : Nat) (h : os.length ≤ j) => goO_end (bfs := bfsO ops) (d := d) (os := os) h
      have hgo : goO (bfsO ops) (List.replicate n false) (os.drop 0) = goO (bfsO ops) (List.replicate n false) os := by rw [List.drop_zero]
      generalize goO (bfsO ops) (List.replicate n false) os = R at *
      have HSP := Lib.hid hstep
      have HST := Lib.hid hstop
      have HEN := Lib.hid hend
      have HGO := Lib.hid hgo
      have HLO := Lib.hid hlo
      have HP2 := Lib.hid hP2
      have HP3 := Lib.hid hP3
      clear hP2 hP3 hcall hout h hB hq hok hbf hl hlo hz hin hstep hstop hend hgo
      go_enter Tryd.func17, Tryd.ntmps17
      go_wp2_with fail
      refine (HC.out).mono ?_
      rintro e w1 ⟨rfl, hb1⟩
      have B1 := Lib.hid (HB.out.below hb1)
      have Hb1 := Lib.hid hb1
      clear hb1
      go_wp2_with fail
      refine (HO.out _ B1.out).mono ?_
      rintro e w2 ⟨rfl, hb2⟩
      have Hb2 := Lib.hid (Hb1.out.trans (hb2.mono Hb1.out.size))
      clear hb2 B1
      go_wp2
      go_loopw [6, 21] (fun vx vj wr => ∃ (j x : Nat) (dn : List Bool), j ≤ m ∧ vj = .int .i64 j ∧ vx = .int .i64 x ∧ Hid (SetD n dn x) ∧ Hid (goO (bfsO ops) dn (os.drop j) = R) ∧ Below w.heap.size w wr) (fun _ vj _ => m - (intOf vj).toNat)
      case atStart => exact ⟨0, 0, _, Nat.zero_le _, rfl, rfl, Lib.hid (SetD.zero hn14), HGO, Hb2.out⟩
      case round =>
        obtain ⟨j, x, dn, hj, rfl, rfl, HD, HG, hb⟩ := hrel
        have Hb := Lib.hid hb
        by_cases hlt : j < m
        · have hj0 : (0 : Int) ≤ (j : Int) := by omega
          have hj1 : (j : Int) < (m : Int) := by omega
          obtain ⟨b, o, y, hA, hbl, hx, hc⟩ := (HB.out.below hb).int hlt
          subst hA
          have hyr := HI.out j y hx
          obtain ⟨k, rfl⟩ := Int.eq_ofNat_of_zero_le hyr.1
          have hkn : k < n := by omega
          have hk0 : (0 : Int) ≤ (k : Int) := by omega
          have hk1 : (k : Int) < (n : Int) := by omega
          have hk64 : (k : Int) ≤ 64 := by omega
          have hx14 := HD.out.lt
          have hcan := canBeDone_any A n c ops k x dn wr (H.out.below hb) HK.out hkn HD.out
          have HV := Lib.hid (orPow x k hx14 (by omega))
          have hwr := wrapP k (by omega)
          have HX := Lib.hid hx
          have hyes := HSP.out dn j k hx
          have hno := HST.out dn j k hx
          generalize canB (bfsO ops) dn k = q at *
          have HCN := Lib.hid hcan
          have HYS := Lib.hid hyes
          have HNO := Lib.hid hno
          clear hcan hyes hno hx hb
          cases q with
          | true =>
            have HG2 : Hid (goO (bfsO ops) (dn.set k true) (os.drop (j + 1)) = R) := Lib.hid (by rw [← HYS.out (by trivial)]; exact HG.out)
            go_wp2_with fail
            refine (HCN.out).mono ?_
            rintro e w3 ⟨rfl, hb3⟩
            have Hb3 := Lib.hid (Hb.out.trans (hb3.mono Hb.out.size))
            clear hb3
            go_wp2
            go_roundw
            case rel => exact ⟨j + 1, x ||| 2 ^ k, dn.set k true, by omega, by go_num, by rw [HV.out], Lib.hid (HD.out.put hkn), HG2, Hb3.out⟩
            case measure => simp [intOf]; omega
          | false =>
            have hr : R = false := by rw [← HG.out]; exact HNO.out (by trivial)
            have hP := HP3.out hr
            subst hP
            clear HP2 HP3
            go_wp2_with fail
            refine (HCN.out).mono ?_
            rintro e w3 ⟨rfl, hb3⟩
            have Hb3 := Lib.hid (Hb.out.trans (hb3.mono Hb.out.size))
            clear hb3
            go_wp2
            go_ret2
            exact ⟨rfl, Hb3.out⟩
        · have hjm : j = m := by omega
          have hr : R = true := by rw [← HG.out]; exact HEN.out dn j (by rw [HLO.out]; omega)
          have hP := HP2.out hr
          subst hP
          clear HP2 HP3
          go_wp2
          go_ret2
          exact ⟨rfl, Hb.out⟩
  · have hq' : okO ops = false := by simpa using hq
    have hP := isO_bad (os := os) hq'
    generalize isO ops os = P at *
    subst hP
    rw [hq'] at hcall
    have HC := Lib.hid hcall
    clear hcall h hB hq hq' hl hlo hout
    go_enter Tryd.func17, Tryd.ntmps17
    go_wp2_with fail
    refine (HC.out).mono ?_
    rintro e w1 ⟨rfl, hb1⟩
    go_wp2
    go_ret2
    exact ⟨rfl, hb1⟩

set_option maxRecDepth 100000 in
set_option maxHeartbeats 8000000 in
theorem specIsOpOrder_any (A : Option Addr) (n c : Nat) (ops : List OpV) (B : Option Addr) (m d : Nat) (os : List Int) (w : World) (h : RdO w A n c ops) (hB : Rd w 1 B m d (ints os)) :
    Calls Tryd.prog 18 #[.slice A n c, .slice B m d] w fun e w' => e = .returned (.tuple #[.bool (isO ops os).1, .int .i64 (isO ops os).2]) ∧ Below w.heap.size w w' := by
  have hl := h.len
  have hlo := hB.ilen
  have h1 := h.cap
  have h2 := h.max
  have h3 := hB.cap
  have h4 := hB.max
  have hcall := l13Ok_any A n c ops w h
  have H := Lib.hid h
  have HB := Lib.hid hB
  by_cases hq : okO ops = true
  · have hok := okO_true hq
    have hP1 := isO_out (os := os) hq hl
    have hP2 := isO_yes (os := os) hq hl hlo
    have hP3 := isO_not (os := os) hq hl
    generalize isO ops os = P at *
    rw [hq] at hcall
    have HC := Lib.hid hcall
    have HK := Lib.hid hok
    have hbf := bfs_ok hok hl
    have hn14 := hbf.hn
    have hoy := fun (j : Nat) (x : Int) (h : os[j]? = some x) => out_yes (lo := 0) (hi := (n : Int) - 1) h
    have hoa := fun h => out_all (os := os) (lo := 0) (hi := (n : Int) - 1) (m := m) (by omega) h
    have hin := fun h => out_no (os := os) (n := n) h
    have hstep := fun (d : List Bool) (j k : Nat) (h : os[j]? = some (k : Int)) => goO_yes (bfs := bfsO ops) (d := d) h
    have hstop := fun (d : List Bool) (j k : Nat) (h : os[j]? = some (k : Int)) => goO_no (bfs := bfsO ops) (d := d) h
    have hend := fun (d : List Bool) (j : Nat) (h : os.length ≤ j) => goO_end (bfs := bfsO ops) (d := d) (os := os) h
    have hgo : goO (bfsO ops) (List.replicate n false) (os.drop 0) = goO (bfsO ops) (List.replicate n false) os := by rw [List.drop_zero]
    generalize goO (bfsO ops) (List.replicate n false) os = R at *
    generalize outB os 0 ((n : Int) - 1) = Z at *
    have HOY := Lib.hid hoy
    have HOA := Lib.hid hoa
    have HI := Lib.hid hin
    have HSP := Lib.hid hstep
    have HST := Lib.hid hstop
    have HEN := Lib.hid hend
    have HGO := Lib.hid hgo
    have HLO := Lib.hid hlo
    have HP1 := Lib.hid hP1
    have HP2 := Lib.hid hP2
    have HP3 := Lib.hid hP3
    clear hP1 hP2 hP3 hcall h hB hq hok hbf hl hlo hin hstep hstop hend hgo hoy hoa
    go_enter Tryd.func18, Tryd.ntmps18
    go_wp2_with fail
    refine (HC.out).mono ?_
    rintro e w1 ⟨rfl, hb1⟩
    have B1 := Lib.hid (HB.out.below hb1)
    have H1 := Lib.hid (H.out.below hb1)
    have Hb1 := Lib.hid hb1
    clear hb1
    go_wp2
    go_loopw [6] (fun vj wr => ∃ j : Nat, j ≤ m ∧ vj = .int .i64 j ∧ Hid (∀ y ∈ os.take j, inB y 0 ((n : Int) - 1) = true) ∧ w1 = wr) (fun vj _ => m - (intOf vj).toNat)
    case atStart => exact ⟨0, Nat.zero_le _, rfl, Lib.hid (by simp), rfl⟩
    case round =>
      obtain ⟨j, hj, rfl, HJ, rfl⟩ := hrel
      by_cases hlt : j < m
      · have hj0 : (0 : Int) ≤ (j : Int) := by omega
        have hj1 : (j : Int) < (m : Int) := by omega
        obtain ⟨b, o, y, hA, hbl, hx, hc⟩ := B1.out.int hlt
        subst hA
        have hin := fun W => l00In_any y 0 ((n : Int) - 1) W
        have hbad := HOY.out j y hx
        have HX := Lib.hid hx
        clear hx
        cases hy : inB y 0 ((n : Int) - 1) with
        | true =>
          rw [hy] at hin
          have HN := Lib.hid hin
          have HJ2 : Hid (∀ y ∈ os.take (j + 1), inB y 0 ((n : Int) - 1) = true) := Lib.hid (fun z hz => by
            rw [List.take_add_one, HX.out] at hz
            rcases List.mem_append.1 hz with hz | hz
            · exact HJ.out z hz
            · simp at hz; subst hz; exact hy)
          clear hin hbad hy
          go_wp2_with (go_at_call 32; refine (HN.out _).mono ?_; rintro e w' ⟨rfl, rfl⟩)
          go_roundw
          case rel => exact ⟨j + 1, by omega, by go_num, HJ2, by trivial⟩
          case measure => simp [intOf]; omega
        | false =>
          rw [hy] at hin
          have HN := Lib.hid hin
          have hZ := hbad hy
          have hP := HP1.out hZ
          subst hP
          clear HP1 HP2 HP3
          clear hin hbad hy HOA HI HOY
          go_wp2_with (go_at_call 32; refine (HN.out _).mono ?_; rintro e w' ⟨rfl, rfl⟩)
          go_ret2
          exact ⟨rfl, Hb1.out⟩
      · have hjm : m = j := by omega
        subst hjm
        have hZ := HOA.out HJ.out
        have HI2 := Lib.hid (HI.out hZ)
        have HP2 := Lib.hid (HP2.out hZ)
        have HP3 := Lib.hid (HP3.out hZ)
        have hmk := mkb n (by omega) w1
        have hown0 := ownb n (by omega) w1 w.heap.size Hb1.out.size
        have hb0 : Below w.heap.size w (w1.alloc (.cells (bn n) 4)) := Hb1.out.alloc Hb1.out.size _
        have hs1 := Hb1.out.size
        have HO0 := Lib.hid hown0
        have HB0 := Lib.hid hb0
        clear hown0 hb0 HJ HI HOA HOY
        go_wp2
        go_loopw [8] (fun vj wr => ∃ (j : Nat) (dn : List Bool), j ≤ m ∧ vj = .int .i64 j ∧ Hid (dn.length = n) ∧ Hid (goO (bfsO ops) dn (os.drop j) = R) ∧ wr.ownsRow w.heap.size 4 1 (.slice (some ⟨w1.heap.size, 0, none⟩) n n) n (bs dn) ∧ Below w.heap.size w wr) (fun vj _ => m - (intOf vj).toNat)
        case atStart => exact ⟨0, _, Nat.zero_le _, rfl, Lib.hid (by simp), HGO, HO0.out, HB0.out⟩
        case round =>
          obtain ⟨j, dn, hj, rfl, HD, HG, hown, hb⟩ := hrel
          have Hb := Lib.hid hb
          have HO := Lib.hid hown
          by_cases hlt : j < m
          · have hj0 : (0 : Int) ≤ (j : Int) := by omega
            have hj1 : (j : Int) < (m : Int) := by omega
            obtain ⟨b, o, y, hA, hbl, hx, hc'⟩ := HB.out.int hlt
            have hc := cell_bel hc' hb
            subst hA
            have hyr := HI2.out j y hx
            obtain ⟨k, rfl⟩ := Int.eq_ofNat_of_zero_le hyr.1
            have hkn : k < n := by omega
            have hk0 : (0 : Int) ≤ (k : Int) := by omega
            have hk1 : (k : Int) < (n : Int) := by omega
            have hcan := fun W h ho => l13Can_any A n c ops w.heap.size w1.heap.size n k dn W h HK.out hkn HD.out ho
            have hck := own_bool hown hkn HD.out
            have hf := hown.frozenAt
            have S := own_bset hown k true
            have HS := Lib.hid S.1
            have HBS := Lib.hid (hb.setCell (p := ⟨w1.heap.size, k, none⟩) hs1 (.bool true))
            have hyes := HSP.out dn j k hx
            have hno := HST.out dn j k hx
            generalize canB (bfsO ops) dn k = q at *
            have HCN := Lib.hid hcan
            have HYS := Lib.hid hyes
            have HNO := Lib.hid hno
            have HR := Lib.hid (H.out.below hb)
            clear hcan hyes hno hx hb hown S hc'
            cases q with
            | true =>
              have HG2 : Hid (goO (bfsO ops) (dn.set k true) (os.drop (j + 1)) = R) := Lib.hid (by rw [← HYS.out (by trivial)]; exact HG.out)
              have HD2 : Hid ((dn.set k true).length = n) := Lib.hid (by rw [List.length_set]; exact HD.out)
              go_wp2_with fail
              refine (HCN.out _ HR.out HO.out).mono ?_
              rintro e wz ⟨rfl, rfl⟩
              go_wp2
              go_roundw
              case rel => exact ⟨j + 1, dn.set k true, by omega, by go_num, HD2, HG2, HS.out, HBS.out⟩
              case measure => simp [intOf]; omega
            | false =>
              have hr : R = false := by rw [← HG.out]; exact HNO.out (by trivial)
              have hP := HP3.out hr
              subst hP
              clear HP1 HP2 HP3
              go_wp2_with fail
              refine (HCN.out _ HR.out HO.out).mono ?_
              rintro e wz ⟨rfl, rfl⟩
              go_wp2
              go_ret2
              exact ⟨rfl, Hb.out⟩
          · have hjm : j = m := by omega
            have hr : R = true := by rw [← HG.out]; exact HEN.out dn j (by rw [HLO.out]; omega)
            have hP := HP2.out hr
            subst hP
            clear HP1 HP2 HP3
            go_wp2
            go_ret2
            exact ⟨rfl, Hb.out⟩
  · have hq' : okO ops = false := by simpa using hq
    have hP := isO_bad (os := os) hq'
    generalize isO ops os = P at *
    subst hP
    rw [hq'] at hcall
    have HC := Lib.hid hcall
    clear hcall h hB hq hq' hl hlo
    go_enter Tryd.func18, Tryd.ntmps18
    go_wp2_with fail
    refine (HC.out).mono ?_
    rintro e w1 ⟨rfl, hb1⟩
    go_wp2
    go_ret2
    exact ⟨rfl, hb1⟩

end Go.Proofs.YtgghjieeckkpbaaDoor
