/- Parts of a slice of int64; l00Own (a copy). -/
import Derived.Test.YthdbaflihgkomaaDoorLaw
namespace Go.Proofs.YthdbaflihgkomaaDoor
open Go.RowKit

theorem Rd.takeI {w : World} {g o k oc : Nat} {L : List Int} (h : Rd w 1 (some ⟨g, o, none⟩) k oc (ints L)) {j : Nat} (hj : j ≤ k) : Rd w 1 (some ⟨g, o, none⟩) j oc (ints (L.take j)) := by
  have hl := h.ilen
  refine ⟨by rw [ints_len, List.length_take]; omega, Nat.le_trans hj h.cap, h.max, fun h0 => ?_⟩
  rw [ints_len, List.length_take] at h0
  obtain ⟨b, o', hA, hlt, hc⟩ := h.at0 (by rw [ints_len]; omega)
  refine ⟨b, o', hA, hlt, fun i hi => ?_⟩
  rw [ints_len, List.length_take] at hi
  rw [hc i (by rw [ints_len]; omega), ints_get, ints_get, List.getElem?_take_of_lt (by omega)]
theorem Rd.dropI {w : World} {g o k oc : Nat} {L : List Int} (h : Rd w 1 (some ⟨g, o, none⟩) k oc (ints L)) {j : Nat} (hj : j ≤ k) : Rd w 1 (some ⟨g, o + j, none⟩) (k - j) (oc - j) (ints (L.drop j)) := by
  have hl := h.ilen
  have h1 := h.cap
  have h2 := h.max
  refine ⟨by rw [ints_len, List.length_drop]; omega, by omega, by omega, fun h0 => ?_⟩
  rw [ints_len, List.length_drop] at h0
  obtain ⟨b, o', hA, hlt, hc⟩ := h.at0 (by rw [ints_len]; omega)
  injection hA with hA
  injection hA with e1 e2
  subst e1
  subst e2
  refine ⟨_, _, rfl, hlt, fun i hi => ?_⟩
  rw [ints_len, List.length_drop] at hi
  rw [Nat.add_assoc, hc (j + i) (by rw [ints_len]; omega), ints_get, ints_get, List.getElem?_drop]
theorem Rd.newsI {w : World} {b o n c : Nat} {xs : List Int} (h : Rd w 1 (some ⟨b, o, none⟩) n c (ints xs)) : ∀ (j : Nat) (u : Value), (ints xs)[j]? = some u → w.cell? ((⟨b, o, none⟩ : Addr).add j) = some u := by
  intro j u hu
  have hj : j < (ints xs).length := (List.getElem?_eq_some_iff.1 hu).1
  obtain ⟨b', o', hA, _, hc⟩ := h.at0 (by omega)
  injection hA with hA
  injection hA with h1 h2
  subst h1
  subst h2
  rw [Go.WideShapes.add_plain, hc j hj, hu]

set_option maxHeartbeats 1000000 in
theorem l00Own_any (b o n c : Nat) (xs : List Int) (w : World) (h : Rd w 1 (some ⟨b, o, none⟩) n c (ints xs)) (hn : n ≤ 1048576) :
    Calls Tryd.prog 74 #[.slice (some ⟨b, o, none⟩) n c] w fun e w' => ∃ g d, e = .returned (.slice (some ⟨g, 0, none⟩) n d) ∧ w'.ownsRow w.heap.size 2 1 (.slice (some ⟨g, 0, none⟩) n d) n (ints xs) ∧ Below w.heap.size w w' := by
  obtain ⟨i0, hi, hz0, hz1, hz2⟩ := info_parts info_i64
  have hl := h.ilen
  have hb0 : Below w.heap.size w (w.alloc (.cells #[] 2)) := (by go_grown)
  have hown0 : (w.alloc (.cells #[] 2)).ownsRow w.heap.size 2 1 (.slice (some ⟨w.heap.size, 0, none⟩) 0 0) 0 [] := World.ownsRow_made w #[] 0 (Nat.le_refl _) (by unfold maxLen; omega) rfl
  have hnews := (h.below hb0).newsI
  have HN := Lib.hid hnews
  have HL := Lib.hid hl
  have HO0 := Lib.hid hown0
  have HB0 := Lib.hid hb0
  clear h hl hnews hown0 hb0
  go_enter Tryd.func74, Tryd.ntmps74
  go_wp2_with (at_builtin; refine wpList_append_own _ rfl _ _ 31 rfl w.heap.size 2 i0 (.int .i64 0) 1 8 Tryd.underlying31 hi hz0 hz1 hz2 rfl (by decide) (Value.slice (some ⟨w.heap.size, 0, none⟩) 0 0) 0 [] rfl HO0.out ⟨b, o, none⟩ n c (ints xs) rfl (by rw [ints_len, HL.out]; omega) HN.out (ints_one xs) (by unfold maxLen; omega) (by omega) (by simp) ?_; intro v' wa hown' hga hdel)
  rw [List.nil_append, Nat.zero_add] at hown'
  have hb := HB0.out.grown hga (by simp) (fun j hj => by simp [Value.ownBlock] at hj; omega)
  have hv : ∃ g d, v' = .slice (some ⟨g, 0, none⟩) n d := by
    rcases hown'.2 with ⟨h', h0⟩ | ⟨g, cap, cur, h', _⟩
    · exact absurd (hdel.1 h').1 (by simp)
    · exact ⟨g, cap, h'⟩
  obtain ⟨g, d, hv⟩ := hv
  subst hv
  have HO1 := Lib.hid hown'
  clear hown' hdel hga
  go_wp2
  go_ret
  exact ⟨_, _, rfl, HO1.out, hb⟩
theorem slice_head (g o k oc j : Nat) (z : Int) (hz : z = (j : Int)) (hj : j ≤ oc) (W : World) : (Instr.slice 31 (.slice (some ⟨g, o, none⟩) k oc) none (some (.int .i64 z)) none).run Tryd.prog W = .ok (.slice (some ⟨g, o, none⟩) j oc) W := by
  subst hz
  have hj0 : (0 : Int) ≤ (j : Int) := by omega
  have hj1 : (j : Int) ≤ (oc : Int) := by omega
  go_simp
theorem slice_tail {w0 : World} {g o k oc j : Nat} {L : List Int} (h : Rd w0 1 (some ⟨g, o, none⟩) k oc (ints L)) (z : Int) (hz : z = (j : Int)) (hj : j ≤ k) : ∃ b' o' : Nat,
    (∀ W, (Instr.slice 31 (.slice (some ⟨g, o, none⟩) k oc) (some (.int .i64 z)) none none).run Tryd.prog W = .ok (.slice (some ⟨b', o', none⟩) (k - j) (oc - j)) W) ∧ Rd w0 1 (some ⟨b', o', none⟩) (k - j) (oc - j) (ints (L.drop j)) := by
  subst hz
  have hj0 : (0 : Int) ≤ (j : Int) := by omega
  have hj1 : (j : Int) ≤ (k : Int) := by omega
  have hc := h.cap
  have hl := h.ilen
  by_cases e : oc = j
  · have hd : L.drop j = [] := List.drop_of_length_le (by omega)
    refine ⟨g, o, fun W => ?_, ?_⟩
    · go_simp
    · have := h.dropI hj
      rw [hd] at this ⊢
      exact ⟨by simp [ints]; omega, this.cap, this.max, fun h0 => by simp [ints] at h0⟩
  · refine ⟨g, o + j, fun W => ?_, h.dropI hj⟩
    go_simp
end Go.Proofs.YthdbaflihgkomaaDoor
