/- IsName: of the program, of the reference. -/
import Derived.Test.YtgghjieeckkpbaaDoorOpB
namespace Go.Proofs.YtgghjieeckkpbaaDoor
open Go.RowKit

/-- A byte that a name may hold. -/
def okC (x : Int) : Prop := (97 ≤ x ∧ x ≤ 122) ∨ (48 ≤ x ∧ x ≤ 57) ∨ x = 45
def IsNm (s : ByteArray) : Prop := 1 ≤ s.size ∧ s.size ≤ 12 ∧ (∀ h : 0 < s.size, 97 ≤ ((s[0]'h).toNat : Int) ∧ ((s[0]'h).toNat : Int) ≤ 122) ∧ ∀ (k : Nat) (h : k < s.size), okC (s[k]'h).toNat
open Classical in
noncomputable def nmB (s : ByteArray) : Bool := decide (IsNm s)
open Classical in
theorem nm_yes {s : ByteArray} (h : IsNm s) : nmB s = true := by unfold nmB; exact decide_eq_true h
open Classical in
theorem nm_no {s : ByteArray} (h : ¬ IsNm s) : nmB s = false := by unfold nmB; exact decide_eq_false h

set_option maxRecDepth 100000 in
set_option maxHeartbeats 2000000 in
theorem implIsName_any (s : ByteArray) (w : World) (hs : s.size ≤ 9223372036854775807) :
    Calls Tryd.prog 62 #[.string s] w fun e w' => e = .returned (.bool (nmB s)) ∧ w = w' := by
  have hyes := nm_yes (s := s)
  have hno := nm_no (s := s)
  generalize nmB s = r at *
  by_cases h1 : (s.size : Int) < 1
  · have hr := hno (fun h => by have := h.1; omega)
    subst hr
    clear hyes hno
    go_enter Tryd.func62, Tryd.ntmps62
    go_wp2
    go_ret
    exact ⟨rfl, rfl⟩
  · by_cases h2 : (12 : Int) < s.size
    · have hr := hno (fun h => by have := h.2.1; omega)
      subst hr
      clear hyes hno
      go_enter Tryd.func62, Tryd.ntmps62
      go_wp2
      go_ret
      exact ⟨rfl, rfl⟩
    · have hs0 : 0 < s.size := by omega
      by_cases h3 : ((s[0]'hs0).toNat : Int) < 97
      · have hr := hno (fun h => by have := (h.2.2.1 hs0).1; omega)
        subst hr
        clear hyes hno
        go_enter Tryd.func62, Tryd.ntmps62
        go_wp2
        go_ret
        exact ⟨rfl, rfl⟩
      · by_cases h4 : (122 : Int) < ((s[0]'hs0).toNat : Int)
        · have hr := hno (fun h => by have := (h.2.2.1 hs0).2; omega)
          subst hr
          clear hyes hno
          go_enter Tryd.func62, Tryd.ntmps62
          go_wp2
          go_ret
          exact ⟨rfl, rfl⟩
        · have HY := Lib.hid hyes
          have HN := Lib.hid hno
          clear hyes hno
          go_enter Tryd.func62, Tryd.ntmps62
          go_wp2
          go_loop [3] (fun vi => ∃ k : Nat, 1 ≤ k ∧ k ≤ s.size ∧ vi = .int .i64 k ∧ Hid (∀ (j : Nat) (h : j < s.size), 1 ≤ j → j < k → okC (s[j]'h).toNat)) (fun vi => s.size - (intOf vi).toNat)
          case atStart => exact ⟨1, by omega, by omega, rfl, (show Hid _ from fun j h h1 h2 => by omega)⟩
          case round =>
            obtain ⟨k, hk1, hk, rfl, HB⟩ := hrel
            by_cases hlt : k < s.size
            · have hk0 : (0 : Int) ≤ (k : Int) := by omega
              have hk2 : (k : Int) < (s.size : Int) := by omega
              by_cases hok : okC (s[k]'hlt).toNat
              · have HB2 : Hid (∀ (j : Nat) (h : j < s.size), 1 ≤ j → j < k + 1 → okC (s[j]'h).toNat) := Lib.hid (fun j h h1 h2 => by
                  by_cases e : j = k
                  · subst e; exact hok
                  · exact HB.out j h h1 (by omega))
                unfold okC at hok
                rcases hok with ⟨a, b⟩ | ⟨a, b⟩ | a
                · have a' : ¬ ((s[k]'hlt).toNat : Int) < 97 := by omega
                  have b' : ¬ (122 : Int) < ((s[k]'hlt).toNat : Int) := by omega
                  go_wp2
                  go_round
                  case rel => exact ⟨k + 1, by omega, by omega, by go_num, HB2⟩
                  case measure => simp [intOf]; omega
                · have a' : ((s[k]'hlt).toNat : Int) < 97 := by omega
                  have b' : ¬ ((s[k]'hlt).toNat : Int) < 48 := by omega
                  have c' : ¬ (57 : Int) < ((s[k]'hlt).toNat : Int) := by omega
                  go_wp2
                  go_round
                  case rel => exact ⟨k + 1, by omega, by omega, by go_num, HB2⟩
                  case measure => simp [intOf]; omega
                · have a' : ((s[k]'hlt).toNat : Int) < 97 := by omega
                  have b' : ((s[k]'hlt).toNat : Int) < 48 := by omega
                  have c' : (((s[k]'hlt).toNat : Int) != 45) = false := by simp [a]
                  go_wp2
                  go_round
                  case rel => exact ⟨k + 1, by omega, by omega, by go_num, HB2⟩
                  case measure => simp [intOf]; omega
              · have hr := HN.out (fun h => hok (h.2.2.2 k hlt))
                subst hr
                unfold okC at hok
                have hne : (((s[k]'hlt).toNat : Int) != 45) = true := by simp; omega
                clear HY HN HB
                by_cases a : ((s[k]'hlt).toNat : Int) < 97
                · by_cases b : ((s[k]'hlt).toNat : Int) < 48
                  · go_wp2
                    go_ret
                    exact ⟨rfl, rfl⟩
                  · have c : (57 : Int) < ((s[k]'hlt).toNat : Int) := by omega
                    go_wp2
                    go_ret
                    exact ⟨rfl, rfl⟩
                · have b : (122 : Int) < ((s[k]'hlt).toNat : Int) := by omega
                  have c : ¬ ((s[k]'hlt).toNat : Int) < 48 := by omega
                  have d : (57 : Int) < ((s[k]'hlt).toNat : Int) := by omega
                  go_wp2
                  go_ret
                  exact ⟨rfl, rfl⟩
            · have hke : k = s.size := by omega
              have hr := HY.out ⟨by omega, by omega, fun h => ⟨by omega, by omega⟩, fun j h => by
                by_cases e : j = 0
                · subst e
                  exact .inl ⟨by omega, by omega⟩
                · exact HB.out j h (by omega) (by omega)⟩
              subst hr
              clear HY HN HB
              go_wp2
              go_ret
              exact ⟨rfl, rfl⟩

set_option maxRecDepth 100000 in
set_option maxHeartbeats 2000000 in
theorem specIsName_any (s : ByteArray) (w : World) (hs : s.size ≤ 9223372036854775807) :
    Calls Tryd.prog 68 #[.string s] w fun e w' => e = .returned (.bool (nmB s)) ∧ w = w' := by
  have hyes := nm_yes (s := s)
  have hno := nm_no (s := s)
  generalize nmB s = r at *
  by_cases h1 : s.size = 0
  · have hr := hno (fun h => by have := h.1; omega)
    have hse : s = ByteArray.empty := by
      cases s with
      | mk d => simp [ByteArray.size] at h1; subst h1; rfl
    subst hr
    subst hse
    clear hyes hno
    go_enter Tryd.func68, Tryd.ntmps68
    go_wp2
    go_ret
    exact ⟨rfl, rfl⟩
  · have hs0 : 0 < s.size := by omega
    have hse : s.toList.isEmpty = false := by
      cases s with
      | mk d =>
        have hd : d.toList ≠ [] := fun e => by simp [ByteArray.size] at h1; simp at e; exact h1 e
        have : (ByteArray.mk d).toList = d.toList := ByteArray.toList_eq _
        rw [this]
        simpa using hd
    by_cases h2 : (12 : Int) < s.size
    · have hr := hno (fun h => by have := h.2.1; omega)
      subst hr
      clear hyes hno
      go_enter Tryd.func68, Tryd.ntmps68
      go_wp2
      go_ret
      exact ⟨rfl, rfl⟩
    · by_cases h3 : ((s[0]'hs0).toNat : Int) < 97
      · have hr := hno (fun h => by have := (h.2.2.1 hs0).1; omega)
        subst hr
        clear hyes hno
        go_enter Tryd.func68, Tryd.ntmps68
        go_wp2
        go_ret
        exact ⟨rfl, rfl⟩
      · by_cases h4 : (122 : Int) < ((s[0]'hs0).toNat : Int)
        · have hr := hno (fun h => by have := (h.2.2.1 hs0).2; omega)
          have h4' : ¬ ((s[0]'hs0).toNat : Int) ≤ 122 := by omega
          subst hr
          clear hyes hno
          go_enter Tryd.func68, Tryd.ntmps68
          go_wp2
          go_ret
          exact ⟨rfl, rfl⟩
        · have h4' : ((s[0]'hs0).toNat : Int) ≤ 122 := by omega
          have HY := Lib.hid hyes
          have HN := Lib.hid hno
          clear hyes hno
          go_enter Tryd.func68, Tryd.ntmps68
          go_wp2
          go_loop [3] (fun vi => ∃ k : Nat, k ≤ s.size ∧ vi = .int .i64 k ∧ Hid (∀ (j : Nat) (h : j < s.size), j < k → okC (s[j]'h).toNat)) (fun vi => s.size - (intOf vi).toNat)
          case atStart => exact ⟨0, by omega, rfl, (show Hid _ from fun j h h1 => by omega)⟩
          case round =>
            obtain ⟨k, hk, rfl, HB⟩ := hrel
            by_cases hlt : k < s.size
            · have hk0 : (0 : Int) ≤ (k : Int) := by omega
              have hk2 : (k : Int) < (s.size : Int) := by omega
              by_cases hok : okC (s[k]'hlt).toNat
              · have HB2 : Hid (∀ (j : Nat) (h : j < s.size), j < k + 1 → okC (s[j]'h).toNat) := Lib.hid (fun j h h1 => by
                  by_cases e : j = k
                  · subst e; exact hok
                  · exact HB.out j h (by omega))
                unfold okC at hok
                rcases hok with ⟨a, b⟩ | ⟨a, b⟩ | a
                · have a' : ¬ ((s[k]'hlt).toNat : Int) < 97 := by omega
                  go_wp2
                  go_round
                  case rel => exact ⟨k + 1, by omega, by go_num, HB2⟩
                  case measure => simp [intOf]; omega
                · have a' : ((s[k]'hlt).toNat : Int) < 97 := by omega
                  have b' : ¬ ((s[k]'hlt).toNat : Int) < 48 := by omega
                  go_wp2
                  go_round
                  case rel => exact ⟨k + 1, by omega, by go_num, HB2⟩
                  case measure => simp [intOf]; omega
                · have a' : ((s[k]'hlt).toNat : Int) < 97 := by omega
                  have b' : ((s[k]'hlt).toNat : Int) < 48 := by omega
                  have c' : (((s[k]'hlt).toNat : Int) != 45) = false := by simp [a]
                  go_wp2
                  go_round
                  case rel => exact ⟨k + 1, by omega, by go_num, HB2⟩
                  case measure => simp [intOf]; omega
              · have hr := HN.out (fun h => hok (h.2.2.2 k hlt))
                subst hr
                unfold okC at hok
                have hne : (((s[k]'hlt).toNat : Int) != 45) = true := by simp; omega
                clear HY HN HB
                by_cases a : ((s[k]'hlt).toNat : Int) < 97
                · by_cases b : ((s[k]'hlt).toNat : Int) < 48
                  · go_wp2
                    go_ret
                    exact ⟨rfl, rfl⟩
                  · have c : ¬ ((s[k]'hlt).toNat : Int) ≤ 57 := by omega
                    go_wp2
                    go_ret
                    exact ⟨rfl, rfl⟩
                · have b : ¬ ((s[k]'hlt).toNat : Int) ≤ 122 := by omega
                  have c : ¬ ((s[k]'hlt).toNat : Int) < 48 := by omega
                  have d : ¬ ((s[k]'hlt).toNat : Int) ≤ 57 := by omega
                  go_wp2
                  go_ret
                  exact ⟨rfl, rfl⟩
            · have hke : k = s.size := by omega
              have hr := HY.out ⟨by omega, by omega, fun h => ⟨by omega, by omega⟩, fun j h => HB.out j h (by omega)⟩
              subst hr
              clear HY HN HB
              go_wp2
              go_ret
              exact ⟨rfl, rfl⟩
end Go.Proofs.YtgghjieeckkpbaaDoor
