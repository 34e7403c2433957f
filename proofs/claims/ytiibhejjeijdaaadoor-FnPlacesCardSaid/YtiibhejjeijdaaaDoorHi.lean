/- Hides: ValidHide of the program, l10Ok of the reference. -/
import Derived.Test.YtiibhejjeijdaaaDoorQd
import Derived.Test.YtiibhejjeijdaaaDoorShP
import Derived.Shelf.Strings.SlTrimAscii
import Derived.BigQuiet
namespace Go.Proofs.YtiibhejjeijdaaaDoor
open Go.RowKit

/-- The quality of a field: of the reference, of the program. -/
def qS (k : Int) : Int := if k = 97 then 3 else if k = 98 then 2 else if k = 99 then 1 else if k = 120 then 0 else -1
def qI (k : Int) : Int := if k = 97 then 3 else if k = 98 then 2 else if k = 99 then 1 else 0
theorem qS_bd (k : Int) : -1 ≤ qS k ∧ qS k ≤ 3 := by unfold qS; (repeat' split) <;> omega
theorem qI_bd (k : Int) : 0 ≤ qI k ∧ qI k ≤ 3 := by unfold qI; (repeat' split) <;> omega
theorem q_eq {k : Int} (h : 0 ≤ qS k) : qI k = qS k := by
  unfold qS at h ⊢
  unfold qI
  (repeat' split) <;> first | rfl | (exfalso; revert h; (repeat' split) <;> omega)
set_option maxHeartbeats 1000000 in
theorem l10Quality_any (k : Int) (w : World) : Calls Tryd.prog 72 #[.int .u8 k] w fun e w' => e = .returned (.int .i64 (qS k)) ∧ w = w' := by
  unfold qS
  by_cases h1 : k = 97
  · subst h1
    go_enter Tryd.func72, Tryd.ntmps72
    go_wp2
    go_ret
    exact ⟨rfl, rfl⟩
  · rw [if_neg h1]
    have e1 : (k == 97) = false := by simpa using h1
    by_cases h2 : k = 98
    · subst h2
      go_enter Tryd.func72, Tryd.ntmps72
      go_wp2
      go_ret
      exact ⟨rfl, rfl⟩
    · rw [if_neg h2]
      have e2 : (k == 98) = false := by simpa using h2
      by_cases h3 : k = 99
      · subst h3
        go_enter Tryd.func72, Tryd.ntmps72
        go_wp2
        go_ret
        exact ⟨rfl, rfl⟩
      · rw [if_neg h3]
        have e3 : (k == 99) = false := by simpa using h3
        by_cases h4 : k = 120
        · subst h4
          go_enter Tryd.func72, Tryd.ntmps72
          go_wp2
          go_ret
          exact ⟨rfl, rfl⟩
        · rw [if_neg h4]
          have e4 : (k == 120) = false := by simpa using h4
          clear h1 h2 h3 h4
          go_enter Tryd.func72, Tryd.ntmps72
          go_wp2
          go_ret
          exact ⟨rfl, rfl⟩
set_option maxHeartbeats 1000000 in
theorem qualityOf_any (k : Int) (w : World) : Calls Tryd.prog 58 #[.int .u8 k] w fun e w' => e = .returned (.int .i64 (qI k)) ∧ w = w' := by
  unfold qI
  by_cases h1 : k = 97
  · subst h1
    go_enter Tryd.func58, Tryd.ntmps58
    go_wp2
    go_ret
    exact ⟨rfl, rfl⟩
  · rw [if_neg h1]
    have e1 : (k == 97) = false := by simpa using h1
    by_cases h2 : k = 98
    · subst h2
      go_enter Tryd.func58, Tryd.ntmps58
      go_wp2
      go_ret
      exact ⟨rfl, rfl⟩
    · rw [if_neg h2]
      have e2 : (k == 98) = false := by simpa using h2
      by_cases h3 : k = 99
      · subst h3
        go_enter Tryd.func58, Tryd.ntmps58
        go_wp2
        go_ret
        exact ⟨rfl, rfl⟩
      · rw [if_neg h3]
        have e3 : (k == 99) = false := by simpa using h3
        clear h1 h2 h3
        go_enter Tryd.func58, Tryd.ntmps58
        go_wp2
        go_ret
        exact ⟨rfl, rfl⟩

/-- The byte at a place, as a number; 0 behind the end. -/
def chr (s : ByteArray) (j : Nat) : Int := if h : j < s.size then ((s[j]'h).toNat : Int) else 0
theorem chr_at {s : ByteArray} {j : Nat} (h : j < s.size) : ((s[j]'h).toNat : Int) = chr s j := by unfold chr; rw [dif_pos h]
structure RowOk (m : Nat) (r : ByteArray) : Prop where
  bd : 1 ≤ r.size ∧ r.size ≤ 6
  eq : r.size = m
  fld : ∀ j, j < r.size → 0 ≤ qS (chr r j)
open Classical in
noncomputable def rowB (m : Nat) (r : ByteArray) : Bool := decide (RowOk m r)
open Classical in
theorem rowB_yes {m : Nat} {r : ByteArray} (h : RowOk m r) : rowB m r = true := by unfold rowB; exact decide_eq_true h
open Classical in
theorem rowB_no {m : Nat} {r : ByteArray} (h : ¬ RowOk m r) : rowB m r = false := by unfold rowB; exact decide_eq_false h
open Classical in
theorem rowB_true {m : Nat} {r : ByteArray} (h : rowB m r = true) : RowOk m r := of_decide_eq_true h
/-- The rows are a hide. -/
structure HOk (rs : List ByteArray) : Prop where
  len : 1 ≤ rs.length ∧ rs.length ≤ 6
  row : ∀ r ∈ rs, RowOk (rs.getD 0 ByteArray.empty).size r
open Classical in
noncomputable def hidB (rs : List ByteArray) : Bool := decide (HOk rs)
open Classical in
theorem hidB_yes {rs : List ByteArray} (h : HOk rs) : hidB rs = true := by unfold hidB; exact decide_eq_true h
open Classical in
theorem hidB_no {rs : List ByteArray} (h : ¬ HOk rs) : hidB rs = false := by unfold hidB; exact decide_eq_false h
open Classical in
theorem hidB_true {rs : List ByteArray} (h : hidB rs = true) : HOk rs := of_decide_eq_true h
theorem hidB_any {rs : List ByteArray} : hidB rs = (inB (rs.length : Int) 1 6 && !(rs.any fun r => !rowB (rs.getD 0 ByteArray.empty).size r)) := by
  rw [Bool.eq_iff_iff, Bool.and_eq_true, Bool.not_eq_true', List.any_eq_false]
  constructor
  · intro h
    have h := hidB_true h
    refine ⟨inB_mk (by have := h.len; omega) (by have := h.len; omega), fun r hr => ?_⟩
    rw [rowB_yes (h.row r hr)]
    simp
  · rintro ⟨h1, h2⟩
    have h1 := inB_true h1
    refine hidB_yes ⟨by omega, fun r hr => rowB_true ?_⟩
    have := h2 r hr
    simpa using this

/-- The fields' letters. -/
def fldC (c : UInt8) : Bool := [97, 98, 99, 120].contains c
theorem fldC_iff (c : UInt8) : fldC c = true ↔ 0 ≤ qS (c.toNat : Int) := by
  unfold fldC qS
  have h : ∀ a : UInt8, (c == a) = true ↔ (c.toNat : Int) = (a.toNat : Int) := fun a => by
    rw [beq_iff_eq]
    constructor
    · rintro rfl; rfl
    · intro h; exact UInt8.toNat_inj.1 (by omega)
  have h1 := h 97
  have h2 := h 98
  have h3 := h 99
  have h4 := h 120
  simp only [List.contains, List.elem] at *
  have t1 : ((97 : UInt8).toNat : Int) = 97 := rfl
  have t2 : ((98 : UInt8).toNat : Int) = 98 := rfl
  have t3 : ((99 : UInt8).toNat : Int) = 99 := rfl
  have t4 : ((120 : UInt8).toNat : Int) = 120 := rfl
  rw [t1] at h1
  rw [t2] at h2
  rw [t3] at h3
  rw [t4] at h4
  cases c1 : (c == 97) with
  | true => rw [if_pos (h1.1 c1)]; simp
  | false =>
    rw [if_neg (fun e => by rw [h1.2 e] at c1; cases c1)]
    cases c2 : (c == 98) with
    | true => rw [if_pos (h2.1 c2)]; simp
    | false =>
      rw [if_neg (fun e => by rw [h2.2 e] at c2; cases c2)]
      cases c3 : (c == 99) with
      | true => rw [if_pos (h3.1 c3)]; simp
      | false =>
        rw [if_neg (fun e => by rw [h3.2 e] at c3; cases c3)]
        cases c4 : (c == 120) with
        | true => rw [if_pos (h4.1 c4)]; simp
        | false =>
          rw [if_neg (fun e => by rw [h4.2 e] at c4; cases c4)]
          simp
theorem dropW_nil {p : UInt8 → Bool} : ∀ l : List UInt8, l.dropWhile p = [] ↔ ∀ c ∈ l, p c = true
  | [] => by simp
  | a :: l => by
    rw [List.dropWhile_cons]
    cases h : p a with
    | true =>
      rw [if_pos rfl, dropW_nil l]
      simp [h]
    | false => simp [h]
theorem dropW_head {p : UInt8 → Bool} : ∀ l : List UInt8, (∀ c ∈ l.dropWhile p, p c = true) → l.dropWhile p = []
  | [], _ => rfl
  | a :: l, h => by
    rw [List.dropWhile_cons] at h ⊢
    cases e : p a with
    | true => rw [e, if_pos rfl] at h; rw [if_pos rfl]; exact dropW_head l h
    | false => rw [e, if_neg (by simp)] at h; have := h a (by simp); rw [e] at this; cases this
theorem trim_nil (l : List UInt8) : Go.Lib.trimS l [97, 98, 99, 120] = [] ↔ ∀ c ∈ l, fldC c = true := by
  unfold Go.Lib.trimS Go.Lib.trimLeftS Go.Lib.trimRightS
  rw [dropW_nil]
  constructor
  · intro h
    have h2 : l.reverse.dropWhile ([97, 98, 99, 120].contains ·) = [] := dropW_head _ (fun c hc => h c (by simpa using hc))
    rw [dropW_nil] at h2
    exact fun c hc => h2 c (by simpa using hc)
  · intro h
    have h2 : l.reverse.dropWhile ([97, 98, 99, 120].contains ·) = [] := (dropW_nil _).2 (fun c hc => h c (by simpa using hc))
    rw [h2]
    simp
theorem all_chr (s : ByteArray) (P : UInt8 → Bool) : (∀ c ∈ s.data.toList, P c = true) ↔ ∀ (j : Nat) (h : j < s.size), P (s[j]'h) = true := by
  constructor
  · intro h j hj
    exact h _ (by rw [List.mem_iff_getElem]; exact ⟨j, by simpa using hj, rfl⟩)
  · intro h c hc
    obtain ⟨j, hj, e⟩ := List.mem_iff_getElem.1 hc
    have hj' : j < s.size := by simpa using hj
    have := h j hj'
    rw [← e]
    exact this
theorem trim_row {m : Nat} {r : ByteArray} (h1 : 1 ≤ r.size ∧ r.size ≤ 6) (h2 : r.size = m) : RowOk m r ↔ Go.Lib.trimS r.data.toList [97, 98, 99, 120] = [] := by
  rw [trim_nil, all_chr]
  constructor
  · intro h j hj
    rw [fldC_iff, chr_at hj]
    exact h.fld j hj
  · intro h
    refine ⟨h1, h2, fun j hj => ?_⟩
    rw [← chr_at hj, ← fldC_iff]
    exact h j hj

set_option maxRecDepth 100000 in
set_option maxHeartbeats 1000000 in
theorem trim_any (r : ByteArray) (w : World) (hs : r.size ≤ 9223372036854775807) :
    Calls Tryd.prog 78 #[.string r, .string ⟨#[97, 98, 99, 120]⟩] w fun e w' => e = .returned (.string ⟨(Go.Lib.trimS r.data.toList [97, 98, 99, 120]).toArray⟩) ∧ Below w.heap.size w w' :=
  Any.strings_Trim_laid Tryd.lays160 (by kernel_rfl) r ⟨#[97, 98, 99, 120]⟩ w hs (by decide) (ascii_of_all (by decide))

set_option maxRecDepth 100000 in
set_option maxHeartbeats 1000000 in
theorem valid_pred (A : Option Addr) (n c gb m : Nat) (rs : List ByteArray) (w : World) (h : Rd w 1 A n c (txs rs)) (hs : ∀ s ∈ rs, s.size ≤ 9223372036854775807) (hm : (rs.getD 0 ByteArray.empty).size = m) (hc : w.cell? ⟨gb, 0, none⟩ = some (.slice A n c)) :
    PredB Tryd.prog 77 #[.pointer (some ⟨gb, 0, none⟩)] Value.string (fun r => !rowB m r) rs w := fun W r hr hbel => by
  have cb := cell_belT hc hbel
  have hrs := hs r hr
  have hn : 0 < n := by
    have := h.tlen
    have : 0 < rs.length := List.length_pos_of_mem hr
    omega
  have h1 := h.cap
  have h2 := h.max
  obtain ⟨b, o, s, hA, hbl, hx, c0⟩ := h.txt hn
  subst hA
  have c1 := cell_belT c0 hbel
  rw [Nat.add_zero] at c1
  have hsm : s.size = m := by rw [← hm]; simp [List.getD, hx]
  have hyes := rowB_yes (m := m) (r := r)
  have hno := rowB_no (m := m) (r := r)
  have htr := fun a b => trim_row (m := m) (r := r) a b
  show Calls Tryd.prog 77 #[.string r, .pointer (some ⟨gb, 0, none⟩)] W fun e w' => e = .returned (.bool (!rowB m r)) ∧ Below W.heap.size W w'
  generalize rowB m r = q at *
  have HY := Lib.hid hyes
  have HN := Lib.hid hno
  have HT := Lib.hid htr
  have hwi := fun W => within_any (r.size : Int) 1 6 W
  clear hyes hno htr h hs hc hbel c0 hx hr hm
  cases hz : inB (r.size : Int) 1 6 with
  | false =>
    have hq := HN.out (fun h => by have := h.bd; rw [inB_mk (by omega) (by omega)] at hz; cases hz)
    subst hq
    rw [hz] at hwi
    have HW := Lib.hid hwi
    clear hwi hz HY HN HT
    go_enter Tryd.func77, Tryd.ntmps77
    go_wp2_with (go_at_call 57; refine (HW.out _).mono ?_; rintro e w' ⟨rfl, rfl⟩)
    go_ret
    exact ⟨rfl, Below.refl _ _⟩
  | true =>
    have hb := inB_true hz
    rw [hz] at hwi
    have HW := Lib.hid hwi
    clear hwi hz
    by_cases he : r.size = m
    · have ht := HT.out (by omega) he
      have hcall := fun W => trim_any r W hrs
      have hne : ((r.size : Int) != (s.size : Int)) = false := by simp; omega
      cases htn : Go.Lib.trimS r.data.toList [97, 98, 99, 120] with
      | nil =>
        have hq := HY.out (ht.2 htn)
        subst hq
        rw [htn] at hcall
        have HC := Lib.hid hcall
        clear hcall HY HN HT ht htn he hsm
        go_enter Tryd.func77, Tryd.ntmps77
        go_wp2_with (first | (go_at_call 57; refine (HW.out _).mono ?_; rintro e w' ⟨rfl, rfl⟩) | (go_at_call 78; refine (HC.out _).mono ?_; rintro e w' ⟨rfl, hb'⟩))
        go_ret
        exact ⟨rfl, hb'⟩
      | cons a l =>
        have hq := HN.out (fun h => by rw [ht.1 h] at htn; cases htn)
        subst hq
        rw [htn] at hcall
        have HC := Lib.hid hcall
        clear hcall HY HN HT ht htn he hsm
        go_enter Tryd.func77, Tryd.ntmps77
        go_wp2_with (first | (go_at_call 57; refine (HW.out _).mono ?_; rintro e w' ⟨rfl, rfl⟩) | (go_at_call 78; refine (HC.out _).mono ?_; rintro e w' ⟨rfl, hb'⟩))
        go_ret
        exact ⟨rfl, hb'⟩
    · have hq := HN.out (fun h => he h.eq)
      subst hq
      have hne : ((r.size : Int) != (s.size : Int)) = true := by simp; omega
      clear HY HN HT he hsm
      go_enter Tryd.func77, Tryd.ntmps77
      go_wp2_with (go_at_call 57; refine (HW.out _).mono ?_; rintro e w' ⟨rfl, rfl⟩)
      go_ret
      exact ⟨rfl, Below.refl _ _⟩

set_option maxRecDepth 100000 in
set_option maxHeartbeats 1000000 in
theorem implValidHide_any (A : Option Addr) (n c : Nat) (rs : List ByteArray) (w : World) (h : Rd w 1 A n c (txs rs)) (hs : ∀ s ∈ rs, s.size ≤ 9223372036854775807) :
    Calls Tryd.prog 47 #[.slice A n c] w fun e w' => e = .returned (.bool (hidB rs)) ∧ Below w.heap.size w w' := by
  have hl := h.tlen
  have h1 := h.cap
  have h2 := h.max
  have hb0 : Below w.heap.size w (w.alloc (.cells #[.slice A n c] 22)) := (Below.refl _ _).alloc (Nat.le_refl _) _
  have eg : ∀ args w, (callFunc 77 args).run Tryd.prog w = .ok (.enter 77 args) w := enters_of Tryd.func77 (by kernel_rfl) rfl
  have hcf := containsFunc_str 77 #[.pointer (some ⟨w.heap.size, 0, none⟩)] eg (fun r => !rowB (rs.getD 0 ByteArray.empty).size r) A n c rs (w.alloc (.cells #[.slice A n c] 22)) (h.below hb0)
    (valid_pred A n c w.heap.size _ rs _ (h.below hb0) hs rfl (by simp))
  rw [hidB_any, hl]
  have hwi := fun W => within_any (n : Int) 1 6 W
  generalize (rs.any fun r => !rowB (rs.getD 0 ByteArray.empty).size r) = q at *
  generalize inB (n : Int) 1 6 = z at *
  have HW := Lib.hid hwi
  have HC := Lib.hid hcf
  have HB := Lib.hid hb0
  clear hwi hcf hb0 h hs hl eg
  cases z with
  | false =>
    go_enter Tryd.func47, Tryd.ntmps47
    go_wp2_with (go_at_call 57; refine (HW.out _).mono ?_; rintro e w' ⟨rfl, rfl⟩)
    go_ret
    exact ⟨rfl, HB.out⟩
  | true =>
    go_enter Tryd.func47, Tryd.ntmps47
    go_wp2_with (first | (go_at_call 57; refine (HW.out _).mono ?_; rintro e w' ⟨rfl, rfl⟩) | (go_at_call 76; refine (HC.out).mono ?_; rintro e w2 ⟨rfl, hb2⟩))
    go_ret
    exact ⟨by simp, HB.out.trans (hb2.mono HB.out.size)⟩

theorem row_at {rs : List ByteArray} {k : Nat} {r : ByteArray} (h : HOk rs) (hr : rs[k]? = some r) : RowOk (rs.getD 0 ByteArray.empty).size r := h.row r (List.mem_of_getElem? hr)
set_option maxRecDepth 100000 in
set_option maxHeartbeats 2000000 in
theorem l10Ok_any (A : Option Addr) (n c : Nat) (rs : List ByteArray) (w : World) (h : Rd w 1 A n c (txs rs)) (hs : ∀ s ∈ rs, s.size ≤ 9223372036854775807) :
    Calls Tryd.prog 46 #[.slice A n c] w fun e w' => e = .returned (.bool (hidB rs)) ∧ Below w.heap.size w w' := by
  have hl := h.tlen
  have h1 := h.cap
  have h2 := h.max
  have hyes := hidB_yes (rs := rs)
  have hno := hidB_no (rs := rs)
  have hrow := fun k r (hr : rs[k]? = some r) (h : HOk rs) => row_at h hr
  generalize hidB rs = R at *
  have hm0 : ∃ m, (rs.getD 0 ByteArray.empty).size = m := ⟨_, rfl⟩
  obtain ⟨m, hm⟩ := hm0
  rw [hm] at hrow
  have hall : 1 ≤ n ∧ n ≤ 6 → (∀ (k : Nat) (r : ByteArray), rs[k]? = some r → RowOk m r) → HOk rs := fun hn ha => ⟨by rw [hl]; exact hn, fun r hr => by
    obtain ⟨k, hk⟩ := List.getElem?_of_mem hr
    rw [hm]
    exact ha k r hk⟩
  have hlen : HOk rs → 1 ≤ n ∧ n ≤ 6 := fun h => by have := h.len; rw [hl] at this; exact this
  have H := Lib.hid h
  have HS := Lib.hid hs
  have HL := Lib.hid hl
  have HY := Lib.hid hyes
  have HN := Lib.hid hno
  have HR := Lib.hid hrow
  have HM := Lib.hid hm
  have HA := Lib.hid hall
  have HLN := Lib.hid hlen
  clear h hs hl hyes hno hrow hm hall hlen
  go_enter Tryd.func46, Tryd.ntmps46
  go_wp2
  go_loopw [3] (fun vy wr => ∃ y : Nat, y ≤ n ∧ vy = .int .i64 y ∧ Hid (∀ (k : Nat) (r : ByteArray), k < y → rs[k]? = some r → RowOk m r) ∧ Below w.heap.size w wr) (fun vy _ => n - (intOf vy).toNat)
  case atStart => exact ⟨0, Nat.zero_le _, rfl, (show Hid _ from fun k r hk => absurd hk (Nat.not_lt_zero _)), Below.refl _ _⟩
  case round =>
    obtain ⟨y, hy, rfl, HB, hb⟩ := hrel
    have Hb := Lib.hid hb
    by_cases hlt : y < n
    · have hy0 : (0 : Int) ≤ (y : Int) := by omega
      have hy1 : (y : Int) < (n : Int) := by omega
      have hn0 : (0 : Int) < (n : Int) := by omega
      have hn0' : 0 < n := by omega
      obtain ⟨b, o, r, hA, hbl, hx, c0⟩ := (H.out.below hb).txt hlt
      obtain ⟨b', o', s, hA', hbl', hx', c1⟩ := (H.out.below hb).txt hn0'
      subst hA
      injection hA' with hA'
      injection hA' with e1 e2
      subst e1
      subst e2
      rw [Nat.add_zero] at c1
      have hsz := HS.out r (List.mem_of_getElem? hx)
      have hsm : s.size = m := by rw [← HM.out]; simp [List.getD, hx']
      have hrow := HR.out y r hx
      have HRW := Lib.hid hrow
      have HX := Lib.hid hx
      clear hx hx' hrow hb
      by_cases he : r.size = m
      · have hne : ((r.size : Int) != (s.size : Int)) = false := by simp; omega
        have hwi := fun W => l00In_any (r.size : Int) 1 6 W
        cases hz : inB (r.size : Int) 1 6 with
        | false =>
          have hR := HN.out (fun h => by have := (HRW.out h).bd; rw [inB_mk (by omega) (by omega)] at hz; cases hz)
          subst hR
          rw [hz] at hwi
          have HW := Lib.hid hwi
          clear hwi hz he hsm HRW
          go_wp2
          go_quiet ((go_at_call 59; refine Calls.quiet_of_same ((HW.out _).mono fun _ _ h => ⟨h.1, h.2.symm⟩)))
          go_wp2
          go_ret
          exact ⟨rfl, below_drewN Hb.out _⟩
        | true =>
          have hbd := inB_true hz
          rw [hz] at hwi
          have HW := Lib.hid hwi
          have HE := Lib.hid he
          clear hwi hz he hsm
          go_wp2
          go_quiet ((go_at_call 59; refine Calls.quiet_of_same ((HW.out _).mono fun _ _ h => ⟨h.1, h.2.symm⟩)))
          have d0 := cell_belT c0 (below_drewN (Below.refl wr.heap.size wr) nq)
          have b3 := below_drewN Hb.out nq
          generalize wr.drewN nq = w3 at *
          have HB3 := Lib.hid b3
          clear b3 c0 c1
          go_wp2
          go_loopw [4] (fun vx wz => ∃ x : Nat, x ≤ r.size ∧ vx = .int .i64 x ∧ Hid (∀ j, j < x → 0 ≤ qS (chr r j)) ∧ w3 = wz) (fun vx _ => r.size - (intOf vx).toNat)
          case atStart => exact ⟨0, Nat.zero_le _, rfl, (show Hid _ from fun j hj => absurd hj (Nat.not_lt_zero _)), rfl⟩
          case round =>
            obtain ⟨x, hx, rfl, HF, hrel⟩ := hrel
            subst hrel
            by_cases hlx : x < r.size
            · have hx0 : (0 : Int) ≤ (x : Int) := by omega
              have hx1 : (x : Int) < (r.size : Int) := by omega
              have hqc := fun W => l10Quality_any ((r[x]'hlx).toNat : Int) W
              have hch := chr_at hlx
              have hcq : qS ((r[x]'hlx).toNat : Int) = qS (chr r x) := by rw [hch]
              rw [hcq] at hqc
              have hbd2 := qS_bd (chr r x)
              have hbad := fun (h : qS (chr r x) < 0) => HN.out (fun hh => by have := (HRW.out hh).fld x hlx; omega)
              have hgood := fun (h : ¬ qS (chr r x) < 0) => (show ∀ j, j < x + 1 → 0 ≤ qS (chr r j) from fun j hj => by
                by_cases e : j = x
                · subst e; omega
                · exact HF.out j (by omega))
              have HBAD := Lib.hid hbad
              have HGD := Lib.hid hgood
              have HQ := Lib.hid hqc
              clear hqc hch hcq hbad hgood
              by_cases hq : qS (chr r x) < 0
              · have hR := HBAD.out hq
                subst hR
                generalize qS (chr r x) = q at *
                clear HBAD HGD
                go_wp2_with (go_at_call 72; refine (HQ.out _).mono ?_; rintro e w' ⟨rfl, rfl⟩)
                go_ret
                exact ⟨rfl, HB3.out⟩
              · have HF2 := Lib.hid (HGD.out hq)
                generalize qS (chr r x) = q at *
                clear HBAD HGD
                go_wp2_with (go_at_call 72; refine (HQ.out _).mono ?_; rintro e w' ⟨rfl, rfl⟩)
                go_roundw
                case rel => exact ⟨x + 1, by omega, by go_num, HF2, by trivial⟩
                case measure => simp [intOf]; omega
            · have HB2 : Hid (∀ (k : Nat) (r : ByteArray), k < y + 1 → rs[k]? = some r → RowOk m r) := Lib.hid (fun k r' hk hr => by
                by_cases e : k = y
                · subst e
                  have := HX.out
                  rw [this] at hr
                  injection hr with hr
                  subst hr
                  exact ⟨by omega, HE.out, fun j hj => HF.out j (by omega)⟩
                · exact HB.out k r' (by omega) hr)
              go_wp2
              go_roundw
              case rel => exact ⟨y + 1, by omega, by go_num, HB2, HB3.out⟩
              case measure => simp [intOf]; omega
      · have hR := HN.out (fun h => he ((HRW.out h).eq))
        subst hR
        have hne : ((r.size : Int) != (s.size : Int)) = true := by simp; omega
        clear HRW he hsm
        go_wp2
        go_quiet (fail)
        go_wp2
        go_ret
        exact ⟨rfl, below_drewN Hb.out _⟩
    · have hyn : n = y := by omega
      subst hyn
      have hwi := fun W => l00In_any (n : Int) 1 6 W
      cases hz : inB (n : Int) 1 6 with
      | false =>
        have hR := HN.out (fun h => by have := HLN.out h; rw [inB_mk (by omega) (by omega)] at hz; cases hz)
        subst hR
        rw [hz] at hwi
        have HW := Lib.hid hwi
        clear hwi hz hb
        go_wp2_with (go_at_call 59; refine (HW.out _).mono ?_; rintro e w' ⟨rfl, rfl⟩)
        go_ret
        exact ⟨rfl, Hb.out⟩
      | true =>
        have hbd := inB_true hz
        have hR := HY.out (HA.out (by omega) (fun k r hk => HB.out k r (by have := (List.getElem?_eq_some_iff.1 hk).1; have := HL.out; omega) hk))
        subst hR
        rw [hz] at hwi
        have HW := Lib.hid hwi
        clear hwi hz hb
        go_wp2_with (go_at_call 59; refine (HW.out _).mono ?_; rintro e w' ⟨rfl, rfl⟩)
        go_ret
        exact ⟨rfl, Hb.out⟩
end Go.Proofs.YtiibhejjeijdaaaDoor
