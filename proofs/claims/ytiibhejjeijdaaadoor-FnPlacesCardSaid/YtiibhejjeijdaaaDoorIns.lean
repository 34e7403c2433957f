/- Parts of a slice of int64; l00Own (a copy). -/
import Derived.Test.YtiibhejjeijdaaaDoorLaw
namespace Go.Proofs.YtiibhejjeijdaaaDoor
open Go.RowKit

theorem Rd.takeI {w : World} {g o k oc : Nat} {L : List Int} (h : Rd w 1 (some ⟨g, o, none⟩) k oc (ints L)) {j : Nat} (hj : j ≤ k) : Rd w 1 (some ⟨g, o, none⟩) j oc (ints (L.take j)) := by
  have hl := h.ilen
  refine ⟨by rw [ints_len, List.length_take]; omega, Nat.le_trans hj h.cap, h.max, fun h0 => ?_⟩
  rw [ints_len, List.length_take] at h0
  obtain ⟨b, o', hA, hlt, hc⟩ := h.at0 (by rw [ints_len]; omega)
  refine ⟨b, o', hA, hlt, fun i hi => ?_⟩
  rw [ints_len, List.length_take] at hi
  rw [hc i (by rw [ints_len]; omega), ints_get, ints_get, List.getElem?_take_of_lt (by omega)]
theorem Rd.dropI {w : World} {g o k oc : Nat} {L : List Int} (h : Rd w 1 (some ⟨g, o, none⟩) k oc (ints L)) {j : Nat} (hj : j ≤ k) : Rd w 1 (some ⟨g, o + j, none⟩) (k - j) (oc - j) (ints (L.drop j)) := by
  have hl := h.ilen
  have h1 := h.cap
  have h2 := h.max
  refine ⟨by rw [ints_len, List.length_drop]; omega, by omega, by omega, fun h0 => ?_⟩
  rw [ints_len, List.length_drop] at h0
  obtain ⟨b, o', hA, hlt, hc⟩ := h.at0 (by rw [ints_len]; omega)
  injection hA with hA
  injection hA with e1 e2
  subst e1
  subst e2
  refine ⟨_, _, rfl, hlt, fun i hi => ?_⟩
  rw [ints_len, List.length_drop] at hi
  rw [Nat.add_assoc, hc (j + i) (by rw [ints_len]; omega), ints_get, ints_get, List.getElem?_drop]
theorem Rd.newsI {w : World} {b o n c : Nat} {xs : List Int} (h : Rd w 1 (some ⟨b, o, none⟩) n c (ints xs)) : ∀ (j : Nat) (u : Value), (ints xs)[j]? = some u → w.cell? ((⟨b, o, none⟩ : Addr).add j) = some u := by
  intro j u hu
  have hj : j < (ints xs).length := (List.getElem?_eq_some_iff.1 hu).1
  obtain ⟨b', o', hA, _, hc⟩ := h.at0 (by omega)
  injection hA with hA
  injection hA with h1 h2
  subst h1
  subst h2
  rw [Go.WideShapes.add_plain, hc j hj, hu]

theorem slice_head (g o k oc j : Nat) (z : Int) (hz : z = (j : Int)) (hj : j ≤ oc) (W : World) : (Instr.slice 36 (.slice (some ⟨g, o, none⟩) k oc) none (some (.int .i64 z)) none).run Tryd.prog W = .ok (.slice (some ⟨g, o, none⟩) j oc) W := by
  subst hz
  have hj0 : (0 : Int) ≤ (j : Int) := by omega
  have hj1 : (j : Int) ≤ (oc : Int) := by omega
  go_simp
theorem slice_tail {w0 : World} {g o k oc j : Nat} {L : List Int} (h : Rd w0 1 (some ⟨g, o, none⟩) k oc (ints L)) (z : Int) (hz : z = (j : Int)) (hj : j ≤ k) : ∃ b' o' : Nat,
    (∀ W, (Instr.slice 36 (.slice (some ⟨g, o, none⟩) k oc) (some (.int .i64 z)) none none).run Tryd.prog W = .ok (.slice (some ⟨b', o', none⟩) (k - j) (oc - j)) W) ∧ Rd w0 1 (some ⟨b', o', none⟩) (k - j) (oc - j) (ints (L.drop j)) := by
  subst hz
  have hj0 : (0 : Int) ≤ (j : Int) := by omega
  have hj1 : (j : Int) ≤ (k : Int) := by omega
  have hc := h.cap
  have hl := h.ilen
  by_cases e : oc = j
  · have hd : L.drop j = [] := List.drop_of_length_le (by omega)
    refine ⟨g, o, fun W => ?_, ?_⟩
    · go_simp
    · have := h.dropI hj
      rw [hd] at this ⊢
      exact ⟨by simp [ints]; omega, this.cap, this.max, fun h0 => by simp [ints] at h0⟩
  · refine ⟨g, o + j, fun W => ?_, h.dropI hj⟩
    go_simp
end Go.Proofs.YtiibhejjeijdaaaDoor
