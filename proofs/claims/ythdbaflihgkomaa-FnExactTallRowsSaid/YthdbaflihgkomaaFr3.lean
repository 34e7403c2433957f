/- FirstRows of the reference; inOrder of the program. -/
import Derived.Test.YthdbaflihgkomaaFr2
namespace Go.Proofs.Ythdbaflihgkomaa
open Go.RowKit Go.Shelf

/-- 0, 1, .., n - 1. -/
def upto (n : Nat) : List Int := (List.range n).map fun i : Nat => (i : Int)
theorem upto_len (n : Nat) : (upto n).length = n := by simp [upto]
theorem upto_get {n j : Nat} {i : Int} (h : (upto n)[j]? = some i) : i = (j : Int) ∧ j < n := by
  unfold upto at h
  rw [List.getElem?_map] at h
  cases hj : (List.range n)[j]? with
  | none => rw [hj] at h; simp at h
  | some v =>
    rw [hj] at h
    obtain ⟨hlt, hv⟩ := List.getElem?_eq_some_iff.1 hj
    simp at hlt hv h
    omega
theorem upto_succ (n : Nat) : upto (n + 1) = upto n ++ [(n : Int)] := by simp [upto, List.range_succ]
theorem ints_snoc (l : List Int) (x : Int) : ints l ++ [.int .i64 x] = ints (l ++ [x]) := by simp [ints]
/-- What is handed back: a slice of its own that reads as xs, and a code. -/
def IntPost (w : World) (xs : List Int) (z : Int) (e : Ending) (w' : World) : Prop :=
  ∃ A n c, e = .returned (.tuple #[.slice A n c, .int .i64 z]) ∧ w'.ownsRow w.heap.size 2 1 (.slice A n c) n (ints xs) ∧ Below w.heap.size w w'
theorem intPost_nil {w w' : World} {z : Int} (hb : Below w.heap.size w w') : IntPost w [] z (.returned (.tuple #[.slice none 0 0, .int .i64 z])) w' :=
  ⟨none, 0, 0, rfl, World.ownsRow_nil _ _ _ _, hb⟩
def firstZ (ps : List (Int × Int)) (roll : Int) : List Int × Int := if blocksB ps roll = true then ((firstK ps roll (upto ps.length) ps.length).1, 0) else ([], 1)

theorem info_int : (Try.prog.info? 3).map (fun i => (i.zero, i.size, i.bytes)) = some (some (.int .i64 0), 1, 8) := by kernel_rfl
set_option maxRecDepth 100000 in
set_option maxHeartbeats 4000000 in
theorem inOrder_any (A : Option Addr) (n c : Nat) (w : World) (hn9 : n ≤ 9) (h1 : n ≤ c) (h2 : c ≤ 9223372036854775807) :
    Calls Try.prog 57 #[.slice A n c] w fun e w' => ∃ g d, e = .returned (.slice (some ⟨g, 0, none⟩) n d) ∧ w'.ownsRow w.heap.size 3 1 (.slice (some ⟨g, 0, none⟩) n d) n (ints (upto n)) ∧ Below w.heap.size w w' := by
  obtain ⟨i0, hi, hz0, hz1, hz2⟩ := info_parts info_int
  go_enter Try.func57, Try.ntmps57
  go_wp2_with fail
  have hown0 : (w.alloc (.cells #[] 3)).ownsRow w.heap.size 3 1 (.slice (some ⟨w.heap.size, 0, none⟩) 0 0) 0 (ints (upto 0)) := World.ownsRow_made w #[] 0 (Nat.le_refl _) (by unfold maxLen; omega) rfl
  go_loopw [3, 8] (fun vo vi wr => ∃ (k : Nat) (g oc : Nat), k ≤ n ∧ vi = .int .i64 k ∧ vo = .slice (some ⟨g, 0, none⟩) k oc ∧ wr.ownsRow w.heap.size 3 1 (.slice (some ⟨g, 0, none⟩) k oc) k (ints (upto k)) ∧ Below w.heap.size w wr) (fun _ vi _ => n - (intOf vi).toNat)
  case atStart => exact ⟨0, _, _, Nat.zero_le _, rfl, rfl, hown0, (Below.refl _ _).alloc (Nat.le_refl _) _⟩
  case round =>
    obtain ⟨k, g0, oc, hk, rfl, rfl, hown, hb⟩ := hrel
    by_cases hlt : k < n
    · have hk0 : (0 : Int) ≤ (k : Int) := by omega
      have hk1 : (k : Int) < (n : Int) := by omega
      have hss := hb.size
      have HOB := Lib.hid (own_block hown)
      have HO := Lib.hid hown
      have HB := Lib.hid hb
      clear hown hb
      go_wp2_with (at_builtin; refine wpList_append_own _ rfl (.tmp 11) (.tmp 13) 65 rfl w.heap.size 3 i0 (.int .i64 0) 1 8 Try.underlying65 hi hz0 hz1 hz2 rfl (by decide) (Value.slice (some ⟨g0, 0, none⟩) k oc) _ _ rfl (HO.out.alloc _) ⟨_, 0, none⟩ 1 1 [.int .i64 k] rfl rfl (cell_one_new _ _ _) (by intro u hu; simp at hu; subst hu; rfl) (by unfold maxLen; omega) (by omega) (by simp; omega) ?_; intro v' wa hown' hga hdel; clear hdel)
      have b7 : Below w.heap.size w wa := (HB.out.alloc HB.out.size _).grown hga (by simp; omega) (fun j hj => (HOB.out j hj).1)
      rw [ints_snoc, ← upto_succ] at hown'
      obtain ⟨g, oc', hv, _, _⟩ := own_form hown' (by omega)
      subst hv
      clear hga
      go_roundw
      case rel => exact ⟨k + 1, _, _, by omega, by go_num, rfl, hown', b7⟩
      case measure => simp [intOf]; omega
    · have : k = n := by omega
      subst this
      have HO4 := Lib.hid hown
      clear hown
      go_wp2
      go_ret
      exact ⟨_, _, rfl, HO4.out, hb⟩

set_option maxRecDepth 100000 in
set_option maxHeartbeats 4000000 in
theorem specFirstRows_any (A : Option Addr) (n c : Nat) (ps : List (Int × Int)) (roll : Int) (w : World) (h : Rd w 2 A n c (pr ps)) :
    Calls Try.prog 26 #[.slice A n c, .int .i64 roll] w (IntPost w (firstZ ps roll).1 (firstZ ps roll).2) := by
  obtain ⟨i0, hi, hz0, hz1, hz2⟩ := info_parts info_i64r
  have hl := h.plen
  have h1 := h.cap
  have h2 := h.max
  have hcall := fun W h => l11Ok_any A n c ps roll W h
  unfold firstZ
  cases hz : blocksB ps roll with
  | false =>
    rw [hz] at hcall
    rw [if_neg (by simp)]
    have HC := Lib.hid hcall
    have H := Lib.hid h
    clear hcall h hz hi hz0 hz1 hz2 i0
    go_enter Try.func26, Try.ntmps26
    go_wp2_with fail
    refine (HC.out _ H.out).mono ?_
    rintro e w1 ⟨rfl, rfl⟩
    go_wp2
    go_ret2
    exact intPost_nil (Below.refl _ _)
  | true =>
    have ho := bok hz
    have hn9 := ho.len
    have hn9' : n ≤ 9 := by omega
    rw [hz] at hcall
    rw [if_pos rfl]
    have hf := fun W B d h hB => l11First_any A n c ps roll B n d (upto n) W h hB ho hn9' (fun j i hj => by have := upto_get hj; omega)
    have hR : (firstK ps roll (upto ps.length) ps.length).1 = (firstK ps roll (upto n) n).1 := by rw [hl]
    rw [hR]
    generalize (firstK ps roll (upto n) n).1 = R at *
    have HC := Lib.hid hcall
    have HF := Lib.hid hf
    have H := Lib.hid h
    clear hcall h hz hl ho hn9 hf hR
    go_enter Try.func26, Try.ntmps26
    go_wp2_with fail
    refine (HC.out _ H.out).mono ?_
    rintro e w1 ⟨rfl, rfl⟩
    go_wp2_with fail
    have hown0 : (w.alloc (.cells #[] 2)).ownsRow w.heap.size 2 1 (.slice (some ⟨w.heap.size, 0, none⟩) 0 0) 0 (ints (upto 0)) := World.ownsRow_made w #[] 0 (Nat.le_refl _) (by unfold maxLen; omega) rfl
    go_loopw [6, 7] (fun vo vi wr => ∃ (k : Nat) (O : Option Addr) (oc : Nat), k ≤ n ∧ vi = .int .i64 k ∧ vo = .slice O k oc ∧ wr.ownsRow w.heap.size 2 1 (.slice O k oc) k (ints (upto k)) ∧ Below w.heap.size w wr) (fun _ vi _ => n - (intOf vi).toNat)
    case atStart => exact ⟨0, _, _, Nat.zero_le _, rfl, rfl, hown0, (Below.refl _ _).alloc (Nat.le_refl _) _⟩
    case round =>
      obtain ⟨k, O, oc, hk, rfl, rfl, hown, hb⟩ := hrel
      by_cases hlt : k < n
      · have hk0 : (0 : Int) ≤ (k : Int) := by omega
        have hk1 : (k : Int) < (n : Int) := by omega
        have hss := hb.size
        have HOB := Lib.hid (own_block hown)
        have HO := Lib.hid hown
        have HB := Lib.hid hb
        clear hown hb
        go_wp2_with (at_builtin; refine wpList_append_own _ rfl (.tmp 19) (.tmp 21) 35 rfl w.heap.size 2 i0 (.int .i64 0) 1 8 Try.underlying35 hi hz0 hz1 hz2 rfl (by decide) (Value.slice O k oc) _ _ rfl (HO.out.alloc _) ⟨_, 0, none⟩ 1 1 [.int .i64 k] rfl rfl (cell_one_new _ _ _) (by intro u hu; simp at hu; subst hu; rfl) (by unfold maxLen; omega) (by omega) (by simp; omega) ?_; intro v' wa hown' hga hdel; clear hdel)
        have b7 : Below w.heap.size w wa := (HB.out.alloc HB.out.size _).grown hga (by simp; omega) (fun j hj => (HOB.out j hj).1)
        rw [ints_snoc, ← upto_succ] at hown'
        obtain ⟨g, oc', hv, _, _⟩ := own_form hown' (by omega)
        subst hv
        clear hga
        go_roundw
        case rel => exact ⟨k + 1, _, _, by omega, by go_num, rfl, hown', b7⟩
        case measure => simp [intOf]; omega
      · have : k = n := by omega
        subst this
        have HR := Lib.hid (Rd.of_own hown)
        have HB := Lib.hid hb
        have H2 := Lib.hid (H.out.below hb)
        clear hown hb
        go_wp2_with fail
        refine (HF.out _ _ _ H2.out HR.out).mono ?_
        rintro e w3 ⟨g, rfl, hown, hb3⟩
        have b3 := HB.out.trans (hb3.mono HB.out.size)
        have HO4 := Lib.hid (own_base hown HB.out.size)
        clear hown hb3
        go_wp2
        go_ret2
        exact ⟨_, _, _, rfl, HO4.out, b3⟩
end Go.Proofs.Ythdbaflihgkomaa
