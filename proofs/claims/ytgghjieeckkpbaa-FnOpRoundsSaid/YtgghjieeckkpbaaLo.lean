/- Longest ways of the program: longest. (Draft.) -/
import Derived.Test.YtgghjieeckkpbaaOg
import Derived.Test.YtgghjieeckkpbaaEd
import Derived.StillTailTactics
namespace Go.Proofs.Ytgghjieeckkpbaa
open Go.RowKit

/-- The function value g answers wt k at the k-th operation. -/
def NumO (g : Nat) (wt : Nat → Int) (ops : List OpV) : Prop :=
  ∀ (W : World) (k : Nat) (p : OpV) (B : Option Addr) (m d : Nat), ops[k]? = some p → Calls Try.prog g #[.agg #[.string p.nm, .int .i64 p.mn, .slice B m d]] W fun e w' => e = .returned (.int .i64 (wt k)) ∧ Below W.heap.size W w'
set_option maxHeartbeats 1000000 in
theorem minutes_num (ops : List OpV) : NumO 63 (fun k => ((ops[k]?).map OpV.mn).getD 0) ops := fun W k p B m d hp => by
  simp only [hp, Option.map_some, Option.getD_some]
  clear hp
  go_enter Try.func63, Try.ntmps63
  go_wp2
  go_ret
  exact ⟨rfl, (by go_grown)⟩
set_option maxHeartbeats 1000000 in
theorem one_num (ops : List OpV) : NumO 61 (fun _ => 1) ops := fun W k p B m d _ => by
  go_enter Try.func61, Try.ntmps61
  go_wp2
  go_ret
  exact ⟨rfl, (by go_grown)⟩

theorem ord_pre {ops : List OpV} {n r : Nat} (hok : OOk ops) (hl : ops.length = n) (hc : ∀ j, ¬ Rch (Eb (bfsO ops)) j j) : ∀ s, r ≤ s → s ≤ n → (ordG (bfsO ops) n s).1.take r = (ordG (bfsO ops) n r).1 := by
  intro s
  induction s with
  | zero =>
    intro h _
    have : r = 0 := by omega
    subst this
    exact List.take_of_length_le (by rw [(ogI hok hl hc (Nat.zero_le n)).ol]; exact Nat.le_refl _)
  | succ s ih =>
    intro hrs hsn
    by_cases e : r = s + 1
    · subst e
      exact List.take_of_length_le (by rw [(ogI hok hl hc hsn).ol]; exact Nat.le_refl _)
    · have hI := ogI hok hl hc (show s ≤ n by omega)
      have hne := hI.ne (by omega)
      cases hn : nextK (bfsO ops) n (ordG (bfsO ops) n s).2 with
      | none => exact absurd hn hne
      | some k =>
        rw [ordG_put (o := (ordG (bfsO ops) n s).1) (d := (ordG (bfsO ops) n s).2) rfl hn]
        show ((ordG (bfsO ops) n s).1 ++ [(k : Int)]).take r = _
        rw [List.take_append_of_le_length (by rw [hI.ol]; omega)]
        exact ih (by omega) (by omega)
/-- The r-th of the order: it can be done behind those before it. -/
theorem ordL_at {ops : List OpV} {n r : Nat} (hok : OOk ops) (hl : ops.length = n) (hc : ∀ j, ¬ Rch (Eb (bfsO ops)) j j) (hr : r < n) :
    ∃ k : Nat, k < n ∧ (ordL ops)[r]? = some (k : Int) ∧ canB (bfsO ops) (ordG (bfsO ops) n r).2 k = true ∧ (ordG (bfsO ops) n (r + 1)).2 = (ordG (bfsO ops) n r).2.set k true := by
  have hI := ogI hok hl hc (show r ≤ n by omega)
  cases hn : nextK (bfsO ops) n (ordG (bfsO ops) n r).2 with
  | none => exact absurd hn (hI.ne hr)
  | some k =>
    obtain ⟨hk, hq⟩ := next_some hn
    have hp := ordG_put (o := (ordG (bfsO ops) n r).1) (d := (ordG (bfsO ops) n r).2) rfl hn
    refine ⟨k, hk, ?_, hq, by rw [hp]⟩
    have h1 := ord_pre hok hl hc (r := r + 1) n (by omega) (Nat.le_refl _)
    rw [hp] at h1
    unfold ordL
    rw [hl]
    have h2 : ((ordG (bfsO ops) n n).1.take (r + 1))[r]? = some (k : Int) := by
      rw [h1, List.getElem?_append_right (by rw [hI.ol]; exact Nat.le_refl _), hI.ol]
      simp
    rw [List.getElem?_take_of_lt (by omega)] at h2
    exact h2
theorem set_same {l : List Int} {k : Nat} (h : k < l.length) {v : Int} (hv : l.getD k 0 = v) : l.set k v = l := by
  apply List.ext_getElem?
  intro j
  by_cases e : j = k
  · subst e
    rw [List.getElem?_set_self h, getD_of h, hv]
  · rw [List.getElem?_set_ne (by omega)]
end Go.Proofs.Ytgghjieeckkpbaa
