/- TurnBlocks of the program. -/
import Derived.Test.YthdbaflihgkomaaDoorVb
import Derived.Test.YthdbaflihgkomaaDoorMa
namespace Go.Proofs.YthdbaflihgkomaaDoor
open Go.RowKit Go.Shelf

def turnZ (roll : Int) (p : Int × Int) : Int × Int := if p.1 < p.2 ∧ p.2 ≤ roll then (p.2, p.1) else p
theorem turn_yes {roll x y : Int} (h1 : x < y) (h2 : y ≤ roll) : turnZ roll (x, y) = (y, x) := by unfold turnZ; rw [if_pos ⟨h1, h2⟩]
theorem turn_no1 {roll x y : Int} (h1 : ¬ x < y) : turnZ roll (x, y) = (x, y) := by unfold turnZ; rw [if_neg (fun h => h1 h.1)]
theorem turn_no2 {roll x y : Int} (h1 : ¬ y ≤ roll) : turnZ roll (x, y) = (x, y) := by unfold turnZ; rw [if_neg (fun h => h1 h.2)]
theorem takeM_succ {α β : Type} (f : α → β) {xs : List α} {k : Nat} {x : α} (hx : xs[k]? = some x) : (xs.take (k + 1)).map f = (xs.take k).map f ++ [f x] := by
  rw [List.take_add_one, hx]
  simp
theorem pr_snoc (ps : List (Int × Int)) (x y : Int) : pr ps ++ [.int .i64 x, .int .i64 y] = pr (ps ++ [(x, y)]) := by rw [pr_append]; rfl
theorem cells_two_new (w : World) (x y : Value) (t : TypeId) : ∀ (j : Nat) (u : Value), ([x, y] : List Value)[j]? = some u → (w.alloc (.cells #[x, y] t)).cell? ((⟨w.heap.size, 0, none⟩ : Addr).add j) = some u := by
  intro j u hj
  have h := (Box.new w #[x, y] t).cell j
  rw [Go.WideShapes.add_plain, Nat.zero_add, h]
  match j, hj with
  | 0, hj => simpa using hj
  | 1, hj => simpa using hj
  | j + 2, hj => simp at hj
theorem cells_two_next (w : World) (o : Obj) (x y : Value) (t : TypeId) : ∀ (j : Nat) (u : Value), ([x, y] : List Value)[j]? = some u → ((w.alloc o).alloc (.cells #[x, y] t)).cell? ((⟨w.heap.size + 1, 0, none⟩ : Addr).add j) = some u := by
  have h := cells_two_new (w.alloc o) x y t
  rw [show (w.alloc o).heap.size = w.heap.size + 1 from by simp] at h
  exact h
/-- What is handed back: a slice of its own that reads as ps, and a code. -/
def PrPost (w : World) (ps : List (Int × Int)) (z : Int) (e : Ending) (w' : World) : Prop :=
  ∃ A n c, e = .returned (.tuple #[.slice A n c, .int .i64 z]) ∧ w'.ownsRow w.heap.size 49 2 (.slice A n c) n (pr ps) ∧ Below w.heap.size w w'
theorem prPost_nil {w w' : World} {z : Int} (hb : Below w.heap.size w w') : PrPost w [] z (.returned (.tuple #[.slice none 0 0, .int .i64 z])) w' :=
  ⟨none, 0, 0, rfl, World.ownsRow_nil _ _ _ _, hb⟩
def turnedZ (ps : List (Int × Int)) (roll : Int) : List (Int × Int) × Int := if blocksB ps roll = true then (ps.map (turnZ roll), 0) else ([], 1)

set_option maxRecDepth 100000 in
set_option maxHeartbeats 4000000 in
theorem implTurnBlocks_any (A : Option Addr) (n c : Nat) (ps : List (Int × Int)) (roll : Int) (w : World) (h : Rd w 2 A n c (pr ps)) :
    Calls Tryd.prog 20 #[.slice A n c, .int .i64 roll] w (PrPost w (turnedZ ps roll).1 (turnedZ ps roll).2) := by
  obtain ⟨i0, hi, hz0, hz1, hz2⟩ := info_parts info_pr
  have hl := h.plen
  have h1 := h.cap
  have h2 := h.max
  have hcall := fun W h => implValidBlocks_any A n c ps roll W h
  unfold turnedZ
  cases hz : blocksB ps roll with
  | false =>
    rw [hz] at hcall
    rw [if_neg (by simp)]
    have HC := Lib.hid hcall
    have H := Lib.hid h
    clear hcall h hz hi hz0 hz1 hz2 i0
    go_enter Tryd.func20, Tryd.ntmps20
    go_wp2_with fail
    refine (HC.out _ H.out).mono ?_
    rintro e w1 ⟨rfl, hb⟩
    go_wp2
    go_ret2
    exact prPost_nil hb
  | true =>
    have hn9 := (bok hz).len
    have hn9' : n ≤ 9 := by omega
    rw [hz] at hcall
    rw [if_pos rfl]
    have HC := Lib.hid hcall
    have H := Lib.hid h
    have HL := Lib.hid hl
    clear hcall h hz hl hn9
    go_enter Tryd.func20, Tryd.ntmps20
    go_wp2_with fail
    refine (HC.out _ H.out).mono ?_
    rintro e w1 ⟨rfl, hb⟩
    have H1 := Lib.hid (H.out.below hb)
    have HB1 := Lib.hid hb
    have hs1 := hb.size
    clear hb H HC
    go_wp2_with fail
    have hown0 : (w1.alloc (.cells #[] 49)).ownsRow w1.heap.size 49 2 (.slice (some ⟨w1.heap.size, 0, none⟩) 0 0) 0 (pr []) := World.ownsRow_made w1 #[] 0 (Nat.le_refl _) (by unfold maxLen; omega) rfl
    go_loopw [6, 16] (fun vo vi wr => ∃ (k : Nat) (O : Option Addr) (oc : Nat), k ≤ n ∧ vi = .int .i64 k ∧ vo = .slice O k oc ∧ wr.ownsRow w1.heap.size 49 2 (.slice O k oc) k (pr ((ps.take k).map (turnZ roll))) ∧ Below w1.heap.size w1 wr) (fun _ vi _ => n - (intOf vi).toNat)
    case atStart => exact ⟨0, _, _, Nat.zero_le _, rfl, rfl, hown0, (Below.refl _ _).alloc (Nat.le_refl _) _⟩
    case round =>
      obtain ⟨k, O, oc, hk, rfl, rfl, hown, hb⟩ := hrel
      by_cases hlt : k < n
      · obtain ⟨b, o, x, y, hA, hbl, hx, hc1, hc2⟩ := (H1.out.below hb).pair hlt
        subst hA
        have hk0 : (0 : Int) ≤ (k : Int) := by omega
        have hk1 : (k : Int) < (n : Int) := by omega
        have hss := hb.size
        have HOB := Lib.hid (own_block hown)
        have hT := takeM_succ (turnZ roll) hx
        have B1 : Below wr.heap.size wr (wr.alloc (.cells #[.int .i64 x, .int .i64 y] 49)) := (by go_grown)
        have HBb := Lib.hid hb
        have HX := Lib.hid hx
        by_cases e1 : x < y
        · by_cases e2 : y ≤ roll
          · rw [turn_yes e1 e2] at hT
            have HT := Lib.hid hT
            have B2 : Below wr.heap.size wr (wr.alloc (.cells #[.int .i64 y, .int .i64 x] 49)) := (by go_grown)
            have HO := Lib.hid (own_below hown B2)
            have HB2 := Lib.hid (hb.trans (B2.mono hb.size))
            clear hT hx hown hb B1 B2
            go_wp2_with (at_builtin; refine wpList_append_own _ rfl (.tmp 36) (.tmp 38) 25 rfl w1.heap.size 49 i0 (.agg #[.int .i64 0, .int .i64 0]) 2 16 Tryd.underlying25 hi hz0 hz1 hz2 rfl (by decide) (Value.slice O k oc) _ _ rfl (HO.out.alloc _) ⟨_, 0, none⟩ 1 1 [.int .i64 y, .int .i64 x] rfl rfl (cells_two_next _ _ _ _ _) (by intro u hu; simp at hu; rcases hu with rfl | rfl <;> rfl) (by unfold maxLen; omega) (by omega) (by simp; omega) ?_; intro v' wa hown' hga hdel; clear hdel)
            have b7 : Below w1.heap.size w1 wa := (HB2.out.alloc HB2.out.size _).grown hga (by simp; omega) (fun j hj => (HOB.out j hj).1)
            rw [pr_snoc, ← HT.out] at hown'
            obtain ⟨g, oc', hv, _, _⟩ := own_form hown' (by omega)
            subst hv
            clear hga
            go_roundw
            case rel => exact ⟨k + 1, _, _, by omega, by go_num, rfl, hown', b7⟩
            case measure => simp [intOf]; omega
          · rw [turn_no2 e2] at hT
            have HT := Lib.hid hT
            have HO := Lib.hid (own_below hown B1)
            have HB2 := Lib.hid (hb.trans (B1.mono hb.size))
            clear hT hx hown hb B1
            go_wp2_with (at_builtin; refine wpList_append_own _ rfl (.tmp 36) (.tmp 38) 25 rfl w1.heap.size 49 i0 (.agg #[.int .i64 0, .int .i64 0]) 2 16 Tryd.underlying25 hi hz0 hz1 hz2 rfl (by decide) (Value.slice O k oc) _ _ rfl (HO.out.alloc _) ⟨_, 0, none⟩ 1 1 [.int .i64 x, .int .i64 y] rfl rfl (cells_two_next _ _ _ _ _) (by intro u hu; simp at hu; rcases hu with rfl | rfl <;> rfl) (by unfold maxLen; omega) (by omega) (by simp; omega) ?_; intro v' wa hown' hga hdel; clear hdel)
            have b7 : Below w1.heap.size w1 wa := (HB2.out.alloc HB2.out.size _).grown hga (by simp; omega) (fun j hj => (HOB.out j hj).1)
            rw [pr_snoc, ← HT.out] at hown'
            obtain ⟨g, oc', hv, _, _⟩ := own_form hown' (by omega)
            subst hv
            clear hga
            go_roundw
            case rel => exact ⟨k + 1, _, _, by omega, by go_num, rfl, hown', b7⟩
            case measure => simp [intOf]; omega
        · rw [turn_no1 e1] at hT
          have HT := Lib.hid hT
          have HO := Lib.hid (own_below hown B1)
          have HB2 := Lib.hid (hb.trans (B1.mono hb.size))
          clear hT hx hown hb B1
          go_wp2_with (at_builtin; refine wpList_append_own _ rfl (.tmp 36) (.tmp 38) 25 rfl w1.heap.size 49 i0 (.agg #[.int .i64 0, .int .i64 0]) 2 16 Tryd.underlying25 hi hz0 hz1 hz2 rfl (by decide) (Value.slice O k oc) _ _ rfl (HO.out.alloc _) ⟨_, 0, none⟩ 1 1 [.int .i64 x, .int .i64 y] rfl rfl (cells_two_next _ _ _ _ _) (by intro u hu; simp at hu; rcases hu with rfl | rfl <;> rfl) (by unfold maxLen; omega) (by omega) (by simp; omega) ?_; intro v' wa hown' hga hdel; clear hdel)
          have b7 : Below w1.heap.size w1 wa := (HB2.out.alloc HB2.out.size _).grown hga (by simp; omega) (fun j hj => (HOB.out j hj).1)
          rw [pr_snoc, ← HT.out] at hown'
          obtain ⟨g, oc', hv, _, _⟩ := own_form hown' (by omega)
          subst hv
          clear hga
          go_roundw
          case rel => exact ⟨k + 1, _, _, by omega, by go_num, rfl, hown', b7⟩
          case measure => simp [intOf]; omega
      · have : k = n := by omega
        subst this
        rw [List.take_of_length_le (by rw [HL.out]; exact Nat.le_refl _)] at hown
        have b4 : Below w.heap.size w wr := HB1.out.trans (hb.mono HB1.out.size)
        have HO4 := Lib.hid (own_base hown HB1.out.size)
        clear hown hb
        go_wp2
        go_ret2
        exact ⟨_, _, _, rfl, HO4.out, b4⟩
end Go.Proofs.YthdbaflihgkomaaDoor
