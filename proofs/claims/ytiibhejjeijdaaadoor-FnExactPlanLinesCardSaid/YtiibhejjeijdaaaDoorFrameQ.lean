/- How an argument that is a slice of pieces (structs of four numbers) is opened. -/
import Derived.Test.YtiibhejjeijdaaaDoorFrameT
import Derived.Lib.SmallJoins
namespace Go.Proofs.YtiibhejjeijdaaaDoor
open Go.ChangeShapes Go.WideShapes Go.ChangeAt Go.RowKit Go.Deep Go.Joins

theorem open_quads {H : Type} {enc : TypeId × Value → H} {P : Program} {W : World} {spare : Nat → Bool} {held : Bool} {t e : TypeId} {f0 f1 f2 f3 : Field} {A : Option Addr} {n c : Nat} {d : DataW H} {p : List MemPlace}
    (ht : P.underlying t = some (.slice e)) (hs : P.underlying e = some (.struct #[f0, f1, f2, f3])) (hc : P.cellsOf e = 4) (h0 : P.underlying f0.type = some (.int .i64)) (h1 : P.underlying f1.type = some (.int .i64)) (h2 : P.underlying f2.type = some (.int .i64)) (h3 : P.underlying f3.type = some (.int .i64))
    (ho : f0.offset = 0 ∧ f1.offset = 1 ∧ f2.offset = 2 ∧ f3.offset = 3 ∧ P.cellsOf f0.type = 1 ∧ P.cellsOf f1.type = 1 ∧ P.cellsOf f2.type = 1 ∧ P.cellsOf f3.type = 1) (h : DataW.Trod enc P W 0 spare held t (.slice A n c) d p) :
    ∃ qs, Rd W 4 A n c (qd qs) := by
  obtain ⟨fuel, hf⟩ := h
  obtain ⟨o0, o1, o2, o3, o4, o5, o6, o7⟩ := ho
  rcases DataW.trod_slice ht hf with ⟨hcs, _⟩ | ⟨a, len, cap, elems, rest, m, _, hcs, _, _, hl, hm, hlen, hel, _, _⟩
  · simp [Value.cells] at hcs
    obtain ⟨rfl, rfl, rfl⟩ := hcs
    exact ⟨[], Rd.nil _ _⟩
  · simp [Value.cells] at hcs
    obtain ⟨rfl, rfl, rfl⟩ := hcs
    have each : ∀ i, i < n → ∃ z : CutV, W.cell? (a.add (i * 4)) = some (.int .i64 z.wd) ∧ W.cell? ((a.add (i * 4)).add 1) = some (.int .i64 z.ht) ∧ W.cell? ((a.add (i * 4)).add 2) = some (.int .i64 z.ql) ∧ W.cell? ((a.add (i * 4)).add 3) = some (.int .i64 z.wo) := by
      intro i hi
      have hE := hel i hi
      rw [hc, List.getElem?_eq_getElem (show i < elems.length by omega), Option.bind_eq_some_iff] at hE
      obtain ⟨cs, hcs, hy⟩ := hE
      obtain ⟨_, hcl, hcc⟩ := World.cells?_some hcs
      obtain ⟨y0, y1, y2, y3, k, _, _, g0, g1, g2, g3⟩ := trod_struct4 hs hy
      match cs, hcl with
      | [v0, v1, v2, v3], _ =>
        simp only [o0, o1, o2, o3, o4, o5, o6, o7, List.drop_zero, List.drop_succ_cons, List.take_succ_cons, List.take_zero] at g0 g1 g2 g3
        obtain ⟨x0, e0, _, _⟩ := DataW.trod_int h0 g0
        obtain ⟨x1, e1, _, _⟩ := DataW.trod_int h1 g1
        obtain ⟨x2, e2, _, _⟩ := DataW.trod_int h2 g2
        obtain ⟨x3, e3, _, _⟩ := DataW.trod_int h3 g3
        simp only [List.cons.injEq, and_true] at e0 e1 e2 e3
        subst e0
        subst e1
        subst e2
        subst e3
        refine ⟨⟨x0, x1, x2, x3⟩, ?_, ?_, ?_, ?_⟩
        · have := hcc 0 (by omega)
          simpa [Addr.add] using this
        · have := hcc 1 (by omega)
          simpa using this
        · have := hcc 2 (by omega)
          simpa using this
        · have := hcc 3 (by omega)
          simpa using this
    obtain ⟨ps, hpl, hps⟩ := list_of n each
    refine ⟨ps, ⟨by rw [qd_len, hpl], hl, by unfold maxLen at hm; omega, fun hp => ?_⟩⟩
    rw [qd_len] at hp
    obtain ⟨b, off, spot⟩ := a
    have hspot : spot = none := by
      have := (hps 0 _ (List.getElem?_eq_getElem (show 0 < ps.length by omega))).1
      simpa [Addr.add] using World.cell?_spot this
    subst hspot
    have hget : ∀ i, i < n → ∃ z : CutV, ps[i]? = some z ∧ W.cell? ⟨b, off + i * 4, none⟩ = some (.int .i64 z.wd) ∧ W.cell? ⟨b, off + (i * 4 + 1), none⟩ = some (.int .i64 z.ht) ∧ W.cell? ⟨b, off + (i * 4 + 2), none⟩ = some (.int .i64 z.ql) ∧ W.cell? ⟨b, off + (i * 4 + 3), none⟩ = some (.int .i64 z.wo) := by
      intro i hi
      have hx : ps[i]? = some (ps[i]'(by omega)) := List.getElem?_eq_getElem _
      obtain ⟨k0, k1, k2, k3⟩ := hps i _ hx
      rw [Go.WideShapes.add_plain] at k0 k1 k2 k3
      rw [Go.WideShapes.add_plain] at k1 k2 k3
      exact ⟨_, hx, k0, k1, k2, k3⟩
    refine ⟨b, off, rfl, ?_, fun j hj => ?_⟩
    · obtain ⟨z, _, k0, _⟩ := hget 0 (by omega)
      exact World.block_lt_of_cell? _ _ k0
    · rw [qd_len, hpl] at hj
      have hq : ∃ q, j = q * 4 ∨ j = q * 4 + 1 ∨ j = q * 4 + 2 ∨ j = q * 4 + 3 := ⟨j / 4, by omega⟩
      obtain ⟨q, rfl | rfl | rfl | rfl⟩ := hq
      · obtain ⟨z, hz, k0, k1, k2, k3⟩ := hget q (by omega)
        rw [(qd_get ps q).1, hz]
        exact k0
      · obtain ⟨z, hz, k0, k1, k2, k3⟩ := hget q (by omega)
        rw [(qd_get ps q).2.1, hz]
        exact k1
      · obtain ⟨z, hz, k0, k1, k2, k3⟩ := hget q (by omega)
        rw [(qd_get ps q).2.2.1, hz]
        exact k2
      · obtain ⟨z, hz, k0, k1, k2, k3⟩ := hget q (by omega)
        rw [(qd_get ps q).2.2.2, hz]
        exact k3
end Go.Proofs.YtiibhejjeijdaaaDoor
