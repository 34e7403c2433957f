/- TurnBlocks of the reference. -/
import Derived.Test.YthdbaflihgkomaaDoorTb
import Derived.StillTailTactics
import Derived.BigRegion
namespace Go.Proofs.YthdbaflihgkomaaDoor
open Go.RowKit Go.Shelf

theorem own_drewN {w : World} {base k : Nat} {e : TypeId} {A : Option Addr} {n c : Nat} {cs : List Value} (h : w.ownsRow base e k (.slice A n c) n cs) (q : Nat) : (w.drewN q).ownsRow base e k (.slice A n c) n cs :=
  own_below h (below_drewN (Below.refl _ _) q)
theorem own_shape {w : World} {base k n : Nat} {e : TypeId} {v : Value} {cs : List Value} (h : w.ownsRow base e k v n cs) : ∃ A c, v = .slice A n c := by
  rcases h.2 with ⟨h', h0⟩ | ⟨g, cap, cur, h', _⟩
  · subst h0; exact ⟨none, 0, h'⟩
  · exact ⟨_, _, h'⟩
theorem mid_get {α : Type} (f : α → α) (xs : List α) (k : Nat) (hk : k < xs.length) : ((xs.take k).map f ++ xs.drop k)[k]? = xs[k]? := by
  rw [List.getElem?_append_right (by simp; omega)]
  simp
  rw [show k - min k xs.length = 0 by omega]
  simp
theorem mid_set {α : Type} (f : α → α) {xs : List α} {k : Nat} {x : α} (hx : xs[k]? = some x) : ((xs.take k).map f ++ xs.drop k).set k (f x) = (xs.take (k + 1)).map f ++ xs.drop (k + 1) := by
  have hk : k < xs.length := (List.getElem?_eq_some_iff.1 hx).1
  have hd : xs.drop k = x :: xs.drop (k + 1) := by
    obtain ⟨hk, rfl⟩ := List.getElem?_eq_some_iff.1 hx
    exact List.drop_eq_getElem_cons hk
  rw [takeM_succ f hx, hd, List.set_append_right _ _ (by simp; omega)]
  simp
  rw [show k - min k xs.length = 0 by omega]
  simp
theorem mid_same {α : Type} (f : α → α) {xs : List α} {k : Nat} {x : α} (hx : xs[k]? = some x) (hf : f x = x) : (xs.take (k + 1)).map f ++ xs.drop (k + 1) = (xs.take k).map f ++ xs.drop k := by
  have hd : xs.drop k = x :: xs.drop (k + 1) := by
    obtain ⟨hk, rfl⟩ := List.getElem?_eq_some_iff.1 hx
    exact List.drop_eq_getElem_cons hk
  rw [takeM_succ f hx, hd, hf]
  simp
theorem Rd.news {w : World} {b o n c : Nat} {ps : List (Int × Int)} (h : Rd w 2 (some ⟨b, o, none⟩) n c (pr ps)) : ∀ (j : Nat) (u : Value), (pr ps)[j]? = some u → w.cell? ((⟨b, o, none⟩ : Addr).add j) = some u := by
  intro j u hu
  have hj : j < (pr ps).length := (List.getElem?_eq_some_iff.1 hu).1
  obtain ⟨b', o', hA, _, hc⟩ := h.at0 (by omega)
  injection hA with hA
  injection hA with h1 h2
  subst h1
  subst h2
  rw [Go.WideShapes.add_plain, hc j hj, hu]

set_option maxRecDepth 100000 in
set_option maxHeartbeats 4000000 in
theorem specTurnBlocks_any (b o : Nat) (n c : Nat) (ps : List (Int × Int)) (roll : Int) (w : World) (h : Rd w 2 (some ⟨b, o, none⟩) n c (pr ps)) :
    Calls Tryd.prog 21 #[.slice (some ⟨b, o, none⟩) n c, .int .i64 roll] w (PrPost w (turnedZ ps roll).1 (turnedZ ps roll).2) := by
  obtain ⟨i0, hi, hz0, hz1, hz2⟩ := info_parts info_pr
  have hl := h.plen
  have h1 := h.cap
  have h2 := h.max
  have hcall := fun W h => l11Ok_any (some ⟨b, o, none⟩) n c ps roll W h
  unfold turnedZ
  cases hz : blocksB ps roll with
  | false =>
    rw [hz] at hcall
    rw [if_neg (by simp)]
    have HC := Lib.hid hcall
    have H := Lib.hid h
    clear hcall h hz hi hz0 hz1 hz2 i0
    go_enter Tryd.func21, Tryd.ntmps21
    go_wp2_with fail
    refine (HC.out _ H.out).mono ?_
    rintro e w1 ⟨rfl, rfl⟩
    go_wp2
    go_ret2
    exact prPost_nil (Below.refl _ _)
  | true =>
    have hn9 := (bok hz).len
    have hn9' : n ≤ 9 := by omega
    rw [hz] at hcall
    rw [if_pos rfl]
    have hb0 : Below w.heap.size w (w.alloc (.cells #[] 49)) := (by go_grown)
    have hown0 : (w.alloc (.cells #[] 49)).ownsRow w.heap.size 49 2 (.slice (some ⟨w.heap.size, 0, none⟩) 0 0) 0 [] := World.ownsRow_made w #[] 0 (Nat.le_refl _) (by unfold maxLen; omega) rfl
    have hnews := (h.below hb0).news
    have HC := Lib.hid hcall
    have H := Lib.hid h
    have HL := Lib.hid hl
    have HN := Lib.hid hnews
    have HO0 := Lib.hid hown0
    have HB0 := Lib.hid hb0
    clear hcall h hz hl hn9 hnews hown0 hb0
    go_enter Tryd.func21, Tryd.ntmps21
    go_wp2_with fail
    refine (HC.out _ H.out).mono ?_
    rintro e w1 ⟨rfl, rfl⟩
    go_wp2_with (at_builtin; refine wpList_append_own _ rfl (.tmp 12) (.tmp 13) 25 rfl w.heap.size 49 i0 (.agg #[.int .i64 0, .int .i64 0]) 2 16 Tryd.underlying25 hi hz0 hz1 hz2 rfl (by decide) (Value.slice (some ⟨w.heap.size, 0, none⟩) 0 0) 0 [] rfl HO0.out ⟨b, o, none⟩ n c (pr ps) rfl (by rw [pr_len, HL.out]) HN.out (pr_one ps) (by unfold maxLen; omega) (by omega) (by simp) ?_; intro v' wa hown' hga hdel; clear hdel)
    rw [List.nil_append, Nat.zero_add] at hown'
    obtain ⟨O, oc, hv⟩ := own_shape hown'
    subst hv
    have hba : Below w.heap.size w wa := HB0.out.grown hga (by simp) (fun j hj => by simp [Value.ownBlock] at hj; omega)
    have HOA := Lib.hid hown'
    have HBA := Lib.hid hba
    have HA := Lib.hid (H.out.below hba)
    clear hown' hga hba HO0 HB0 HN HC
    go_wp2_with fail
    go_loopw [7] (fun vi wr => ∃ k : Nat, k ≤ n ∧ vi = .int .i64 k ∧ wr.ownsRow w.heap.size 49 2 (.slice O n oc) n (pr ((ps.take k).map (turnZ roll) ++ ps.drop k)) ∧ Below w.heap.size w wr) (fun vi _ => n - (intOf vi).toNat)
    case atStart => exact ⟨0, Nat.zero_le _, rfl, HOA.out, HBA.out⟩
    case round =>
      obtain ⟨k, hk, rfl, hown, hb⟩ := hrel
      by_cases hlt : k < n
      · obtain ⟨b', o', x, y, hA, hbl, hx, hc1, hc2⟩ := H.out.pair hlt
        injection hA with hA
        injection hA with hA1 hA2
        subst hA1
        subst hA2
        have hc1 := (hb.cell (p := ⟨b, o + k * 2, none⟩) hbl).trans hc1
        have hc2 := (hb.cell (p := ⟨b, o + k * 2 + 1, none⟩) hbl).trans hc2
        obtain ⟨g, hO, hgb, hgl⟩ := own_at hown (by omega)
        subst hO
        have hx' : ((ps.take k).map (turnZ roll) ++ ps.drop k)[k]? = some (x, y) := by rw [mid_get _ _ _ (by have := HL.out; omega)]; exact hx
        obtain ⟨hd1, hd2⟩ := own_pair hown hx' hlt
        have hk0 : (0 : Int) ≤ (k : Int) := by omega
        have hk1 : (k : Int) < (n : Int) := by omega
        have HX := Lib.hid hx
        have HO := Lib.hid hown
        have HB := Lib.hid hb
        clear hx hx' hown hb
        by_cases e1 : x < y
        · by_cases e2 : y ≤ roll
          · go_wp2
            go_quiet (fail)
            have d1 : (wr.drewN nq).cell? ⟨b, o + k * 2, none⟩ = some (.int .i64 x) := hc1
            have d2 : (wr.drewN nq).cell? ⟨b, o + k * 2 + 1, none⟩ = some (.int .i64 y) := hc2
            have o6 := own_drewN HO.out nq
            have b6 := below_drewN HB.out nq
            generalize wr.drewN nq = w6 at *
            have O6 := Lib.hid o6
            have B6 := Lib.hid b6
            clear o6 b6 hc1 hc2 hd1 hd2
            go_wp2
            go_still_tail 14, (by kernel_rfl)
            have o7 := O6.out.drew
            have b7 := B6.out.drew
            change wpList _ _ _ _ _ w6.drew
            generalize w6.drew = w7 at *
            have f7 := o7.frozenAt
            have hx' : ((ps.take k).map (turnZ roll) ++ ps.drop k)[k]? = some (x, y) := by rw [mid_get _ _ _ (by have := HL.out; omega)]; exact HX.out
            obtain ⟨e7, e8⟩ := own_pair o7 hx' hlt
            have S := (own_set2 o7 k y x).1
            rw [← turn_yes e1 e2, mid_set _ HX.out] at S
            have HS := Lib.hid S
            have BS : Hid (Below w.heap.size w ((w7.setCell ⟨g, k * 2, none⟩ (.int .i64 y)).setCell ⟨g, k * 2 + 1, none⟩ (.int .i64 x))) := (b7.setCell hgb _).setCell hgb _
            clear S o7 b7 d1 d2 hx' O6 B6
            go_wp2
            go_roundw
            case rel => exact ⟨k + 1, by omega, by go_num, HS.out, BS.out⟩
            case measure => simp [intOf]; omega
          · go_wp2
            go_quiet (fail)
            go_wp2
            go_roundw
            case rel => exact ⟨k + 1, by omega, by go_num, by rw [mid_same _ HX.out (turn_no2 (by omega))]; exact own_drewN HO.out _, below_drewN HB.out _⟩
            case measure => simp [intOf]; omega
        · have hdf : decide (x < y) = false := decide_eq_false e1
          go_wp2
          go_quiet (fail)
          go_wp2
          go_roundw
          case rel => exact ⟨k + 1, by omega, by go_num, by rw [mid_same _ HX.out (turn_no1 (by omega))]; exact own_drewN HO.out _, below_drewN HB.out _⟩
          case measure => simp [intOf]; omega
      · have : k = n := by omega
        subst this
        rw [List.take_of_length_le (by rw [HL.out]; exact Nat.le_refl _), List.drop_of_length_le (by rw [HL.out]; exact Nat.le_refl _), List.append_nil] at hown
        have HO4 := Lib.hid hown
        clear hown
        go_wp2
        go_ret2
        exact ⟨_, _, _, rfl, HO4.out, hb⟩
end Go.Proofs.YthdbaflihgkomaaDoor
