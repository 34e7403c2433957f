/- Slices of strings: words, and the laws' own helpers for them (szStringS, toStringS, eqStringS, markText, markStringS, heldStringS). -/
import Derived.Test.YtiibhejjeijdaaaDoorOwn
import Derived.Test.YtiibhejjeijdaaaDoorSl
import Derived.Laws.BytesArg
import Derived.Deep.RegionHeld3
import Derived.IntWalk
namespace Go.Proofs.YtiibhejjeijdaaaDoor
open Go.RowKit

/-- A list of texts as cells. -/
def txs (ss : List ByteArray) : List Value := ss.map Value.string
theorem txs_len (ss : List ByteArray) : (txs ss).length = ss.length := by simp [txs]
theorem txs_get (ss : List ByteArray) (j : Nat) : (txs ss)[j]? = (ss[j]?).map Value.string := by simp [txs]
theorem txs_append (a b : List ByteArray) : txs (a ++ b) = txs a ++ txs b := by simp [txs]
theorem txs_set (ss : List ByteArray) (i : Nat) (s : ByteArray) : (txs ss).set i (.string s) = txs (ss.set i s) := by simp [txs, List.map_set]
theorem txs_snoc (ss : List ByteArray) (s : ByteArray) : txs ss ++ [.string s] = txs (ss ++ [s]) := by simp [txs]
theorem Rd.tlen {w : World} {A : Option Addr} {n c : Nat} {ss : List ByteArray} (h : Rd w 1 A n c (txs ss)) : ss.length = n := by
  have := h.len; rw [txs_len] at this; omega
/-- The k-th text of a slice that reads as texts. -/
theorem Rd.txt {w : World} {A : Option Addr} {n c : Nat} {ss : List ByteArray} (h : Rd w 1 A n c (txs ss)) {k : Nat} (hk : k < n) :
    ∃ b o s, A = some ⟨b, o, none⟩ ∧ b < w.heap.size ∧ ss[k]? = some s ∧ w.cell? ⟨b, o + k, none⟩ = some (.string s) := by
  have hl := h.tlen
  obtain ⟨b, o, hA, hlt, hc⟩ := h.at0 (by rw [txs_len]; omega)
  have hx : ss[k]? = some (ss[k]'(by omega)) := List.getElem?_eq_getElem _
  refine ⟨b, o, _, hA, hlt, hx, ?_⟩
  rw [hc k (by rw [txs_len]; omega), txs_get, hx]; rfl
theorem own_txt {w : World} {base : Nat} {e : TypeId} {g n c : Nat} {ss : List ByteArray} (h : w.ownsRow base e 1 (.slice (some ⟨g, 0, none⟩) n c) n (txs ss)) {i : Nat} {s : ByteArray} (hi : i < n) (hs : ss[i]? = some s) :
    w.cell? ⟨g, i, none⟩ = some (.string s) := by
  rw [h.cellAt i (by omega), txs_get, hs]; rfl
theorem own_tset {w : World} {base : Nat} {e : TypeId} {g n c : Nat} {ss : List ByteArray} (h : w.ownsRow base e 1 (.slice (some ⟨g, 0, none⟩) n c) n (txs ss)) (i : Nat) (s : ByteArray) :
    (w.setCell ⟨g, i, none⟩ (.string s)).ownsRow base e 1 (.slice (some ⟨g, 0, none⟩) n c) n (txs (ss.set i s)) ∧ w.grownBy (w.setCell ⟨g, i, none⟩ (.string s)) (some g) := by
  have S := h.stored i (.string s)
  rw [txs_set] at S
  exact S
theorem OwnIn.tlen {w : World} {lo hi n c : Nat} {t : TypeId} {A : Option Addr} {ss : List ByteArray} (h : OwnIn w lo hi t 1 A n c (txs ss)) : ss.length = n := by
  have := h.len; rw [txs_len] at this; omega
/-- Filling a list from the left. -/
theorem set_growT {α : Type} {xs : List α} {k : Nat} {x : α} (hx : xs[k]? = some x) (n : Nat) (hn : xs.length = n) (z : α) :
    (xs.take k ++ List.replicate (n - k) z).set k x = xs.take (k + 1) ++ List.replicate (n - (k + 1)) z := by
  have hk : k < xs.length := (List.getElem?_eq_some_iff.1 hx).1
  apply List.ext_getElem?
  intro j
  rw [List.getElem?_set]
  rcases Nat.lt_trichotomy j k with h | h | h
  · rw [if_neg (by omega), List.getElem?_append_left (by simp; omega), List.getElem?_append_left (by simp; omega), List.getElem?_take_of_lt h, List.getElem?_take_of_lt (by omega)]
  · subst h
    rw [if_pos rfl, if_pos (by simp; omega), List.getElem?_append_left (by simp; omega), List.getElem?_take_of_lt (by omega), hx]
  · rw [if_neg (by omega), List.getElem?_append_right (by simp; omega), List.getElem?_append_right (by simp; omega)]
    simp only [List.length_take, List.getElem?_replicate]
    by_cases hj : j < n
    · rw [if_pos (by omega), if_pos (by omega)]
    · rw [if_neg (by omega), if_neg (by omega)]
theorem get_growT {α : Type} {xs : List α} {k n : Nat} (hn : xs.length = n) (hk : k < n) (z : α) : (xs.take k ++ List.replicate (n - k) z)[k]? = some z := by
  rw [List.getElem?_append_right (by simp; omega), List.getElem?_replicate, if_pos (by simp; omega)]
/-- The first j turned. -/
def mixT {α : Type} (a b : List α) (j : Nat) : List α := a.take j ++ b.drop j
theorem mixT_len {α : Type} {a b : List α} (h : a.length = b.length) (j : Nat) : (mixT a b j).length = b.length := by
  unfold mixT; rw [List.length_append, List.length_take, List.length_drop]; omega
theorem mixT_at {α : Type} {a b : List α} (h : a.length = b.length) {j : Nat} (hj : j < b.length) : (mixT a b j)[j]? = b[j]? := by
  unfold mixT
  rw [List.getElem?_append_right (by rw [List.length_take]; exact Nat.min_le_left _ _), List.getElem?_drop, List.length_take]
  congr 1
  omega
theorem mixT_set {α : Type} {a b : List α} (h : a.length = b.length) {j : Nat} {x : α} (hx : a[j]? = some x) : (mixT a b j).set j x = mixT a b (j + 1) := by
  have hj := (List.getElem?_eq_some_iff.1 hx).1
  apply List.ext_getElem?
  intro i
  rw [List.getElem?_set, mixT_len h]
  unfold mixT
  rcases Nat.lt_trichotomy i j with h1 | h1 | h1
  · rw [if_neg (by omega), List.getElem?_append_left (by simp; omega), List.getElem?_append_left (by simp; omega), List.getElem?_take_of_lt h1, List.getElem?_take_of_lt (by omega)]
  · subst h1
    rw [if_pos rfl, if_pos (by omega), List.getElem?_append_left (by simp; omega), List.getElem?_take_of_lt (by omega), hx]
  · rw [if_neg (by omega), List.getElem?_append_right (by simp; omega), List.getElem?_append_right (by simp; omega), List.getElem?_drop, List.getElem?_drop, List.length_take, List.length_take]
    congr 1
    omega
theorem mixT_end {α : Type} {a b : List α} (h : a.length = b.length) {j : Nat} (hj : b.length ≤ j) : mixT a b j = a := by
  unfold mixT
  rw [List.drop_of_length_le hj, List.append_nil, List.take_of_length_le (by omega)]
theorem mixT_zero {α : Type} (a b : List α) : mixT a b 0 = b := by simp [mixT]

theorem cell_belT {w w' : World} {b o : Nat} {v : Value} (h : w.cell? ⟨b, o, none⟩ = some v) (hb : Below w.heap.size w w') : w'.cell? ⟨b, o, none⟩ = some v := (hb.cell (p := ⟨b, o, none⟩) (World.block_lt_of_cell? _ _ h)).trans h
theorem info_str : (Tryd.prog.info? 9).map (fun i => (i.zero, i.size, i.bytes)) = some (some (.string ByteArray.empty), 1, 16) := by kernel_rfl
theorem made_txs (n : Nat) : (madeCells (Value.string ByteArray.empty).cells (n * 1)).toList = txs (List.replicate n ByteArray.empty) := by
  simp [txs, toList_madeCells_one, Value.cells]

/-- What is left behind texts that were not too long. -/
def SzT (L : Int) (n : Nat) (ss : List ByteArray) (e : Ending) : Prop := ∃ z : Int, e = .returned (.int .i64 z) ∧ (z = -1 ∨ (0 ≤ z ∧ z ≤ L ∧ n ≤ 1048576 ∧ ∀ s ∈ ss, s.size ≤ 1048576))
set_option maxHeartbeats 1000000 in
theorem szStringS_any (A : Option Addr) (n c : Nat) (ss : List ByteArray) (L : Int) (w : World) (h : Rd w 1 A n c (txs ss)) (hs : ∀ s ∈ ss, s.size ≤ 9223372036854775807) (h0 : 0 ≤ L) (h1 : L ≤ 1048576) :
    Calls Tryd.prog 11 #[.slice A n c, .int .i64 L] w fun e w' => SzT L n ss e ∧ w = w' := by
  have hc := h.cap
  have hm := h.max
  have hl := h.tlen
  have H := Lib.hid h
  have HS := Lib.hid hs
  have HL := Lib.hid hl
  clear h hs hl
  by_cases hL : L < n
  · have h' : L - n < 0 := by omega
    go_enter Tryd.func11, Tryd.ntmps11
    go_wp2
    go_ret
    exact ⟨⟨-1, rfl, .inl rfl⟩, rfl⟩
  · have h' : ¬ L - n < 0 := by omega
    go_enter Tryd.func11, Tryd.ntmps11
    go_wp2
    go_loop [1, 5] (fun vl vi => ∃ (k : Nat) (z : Int), k ≤ n ∧ vi = .int .i64 k ∧ vl = .int .i64 z ∧ 0 ≤ z ∧ z ≤ L ∧ Hid (∀ (j : Nat) (s : ByteArray), j < k → ss[j]? = some s → s.size ≤ 1048576)) (fun _ vi => n - (intOf vi).toNat)
    case atStart => exact ⟨0, L - n, Nat.zero_le _, rfl, rfl, by omega, by omega, (show Hid _ from fun j _ hj => absurd hj (Nat.not_lt_zero _))⟩
    case round =>
      obtain ⟨k, z, hk, rfl, rfl, hz0, hz1, HB⟩ := hrel
      by_cases hlt : k < n
      · obtain ⟨b, o, s, hA, hbl, hx, hc0⟩ := H.out.txt hlt
        subst hA
        have hsz := HS.out s (List.mem_of_getElem? hx)
        have HX := Lib.hid hx
        clear hx
        by_cases hzs : z - s.size < 0
        · go_wp2
          go_ret
          exact ⟨⟨-1, rfl, .inl rfl⟩, rfl⟩
        · go_wp2
          go_round
          case rel =>
            refine ⟨k + 1, z - s.size, by omega, by go_num, rfl, by omega, by omega, (show Hid _ from fun j q hj hq => ?_)⟩
            by_cases e : j = k
            · subst e
              have := HX.out
              rw [this] at hq
              injection hq with hq
              subst hq
              omega
            · exact HB.out j q (by omega) hq
          case measure => simp [intOf]; omega
      · go_wp2
        go_ret
        have : k = n := by omega
        subst this
        refine ⟨⟨z, rfl, .inr ⟨hz0, hz1, by omega, fun s hs => ?_⟩⟩, rfl⟩
        obtain ⟨j, hj⟩ := List.getElem?_of_mem hs
        have hjl := (List.getElem?_eq_some_iff.1 hj).1
        rw [HL.out] at hjl
        exact HB.out j s hjl hj
set_option maxHeartbeats 1000000 in
theorem toStringS_any (A : Option Addr) (n c : Nat) (ss : List ByteArray) (w : World) (h : Rd w 1 A n c (txs ss)) (hn : n ≤ 1048576) :
    Calls Tryd.prog 13 #[.slice A n c] w fun e w' => ∃ g, e = .returned (.slice (some ⟨g, 0, none⟩) n n) ∧ w'.ownsRow w.heap.size 9 1 (.slice (some ⟨g, 0, none⟩) n n) n (txs ss) ∧ Below w.heap.size w w' := by
  obtain ⟨i0, hi, hz0, hz1, hz2⟩ := info_parts info_str
  have hl := h.tlen
  have H := Lib.hid h
  have HL := Lib.hid hl
  clear h hl
  go_enter Tryd.func13, Tryd.ntmps13
  go_wp2_with (refine wpList_make_full _ rfl (.tmp 6) (.tmp 6) _ rfl w.heap.size 9 i0 (.string ByteArray.empty) 1 Tryd.underlying22 hi hz0 hz1 .i64 .i64 n n n rfl rfl rfl rfl (by rw [hz2]; omega) (by unfold maxLen; omega) (Nat.le_refl _) ?_; intro w1 hown1 hg1)
  have hb1 : Below w.heap.size w w1 := (Below.refl _ _).grown hg1 (Nat.le_refl _) (by simp)
  have hown1' : w1.ownsRow w.heap.size 9 1 (.slice (some ⟨w.heap.size, 0, none⟩) n n) n (txs (ss.take 0 ++ List.replicate (n - 0) ByteArray.empty)) := by
    rw [made_txs] at hown1
    simpa using hown1
  clear hown1 hg1
  go_wp2_with fail
  go_loopw [4] (fun i wr => ∃ k : Nat, k ≤ n ∧ i = .int .i64 k ∧ wr.ownsRow w.heap.size 9 1 (.slice (some ⟨w.heap.size, 0, none⟩) n n) n (txs (ss.take k ++ List.replicate (n - k) ByteArray.empty)) ∧ Below w.heap.size w wr)
    (fun i _ => n - (intOf i).toNat)
  case atStart => exact ⟨0, Nat.zero_le _, rfl, hown1', hb1⟩
  case round =>
    obtain ⟨k, hk, rfl, hown, hb⟩ := hrel
    by_cases hlt : k < n
    · obtain ⟨b, o, s, hA, hbl, hx, hc⟩ := H.out.txt hlt
      subst hA
      have hcx : wr.cell? ⟨b, o + k, none⟩ = some (.string s) := (hb.cell (p := ⟨b, o + k, none⟩) hbl).trans hc
      have hold := own_txt hown hlt (get_growT HL.out hlt ByteArray.empty)
      have hfr := hown.frozenAt
      have HX := Lib.hid hx
      have S := (own_tset hown k s).1
      rw [set_growT hx n HL.out] at S
      have HS := Lib.hid S
      have HB : Hid (Below w.heap.size w (wr.setCell ⟨w.heap.size, k, none⟩ (.string s))) := hb.setCell (Nat.le_refl _) _
      clear hx S hc hown hb
      go_wp2
      go_roundw
      case rel => exact ⟨k + 1, by omega, by go_num, HS.out, HB.out⟩
      case measure => simp [intOf]; omega
    · go_wp2
      go_ret
      have : k = n := by omega
      subst this
      refine ⟨_, rfl, ?_, hb⟩
      have e : ss.take k ++ List.replicate (k - k) ByteArray.empty = ss := by rw [List.take_of_length_le (by rw [HL.out]; exact Nat.le_refl _)]; simp
      rw [e] at hown
      exact hown
set_option maxHeartbeats 1000000 in
theorem eqStringS_any (A : Option Addr) (n c : Nat) (B : Option Addr) (m d : Nat) (ss : List ByteArray) (w : World) (hA : Rd w 1 A n c (txs ss)) (hB : Rd w 1 B m d (txs ss)) :
    Calls Tryd.prog 15 #[.slice A n c, .slice B m d] w fun e w' => e = .returned (.bool true) ∧ Below w.heap.size w w' := by
  obtain rfl : n = m := by rw [← hA.tlen, hB.tlen]
  have h1 := hA.cap
  have h2 := hA.max
  have h3 := hB.cap
  have h4 := hB.max
  have HA := Lib.hid hA
  have HB := Lib.hid hB
  clear hA hB
  go_enter Tryd.func15, Tryd.ntmps15
  go_wp2
  go_loopw [5] (fun i wr => ∃ k : Nat, k ≤ n ∧ i = .int .i64 k ∧ Below w.heap.size w wr) (fun i _ => n - (intOf i).toNat)
  case atStart => exact ⟨0, Nat.zero_le _, rfl, Below.refl _ _⟩
  case round =>
    obtain ⟨k, hk, rfl, hb⟩ := hrel
    by_cases hlt : k < n
    · obtain ⟨b, o, s, hA, hbl, hx, hc⟩ := (HA.out.below hb).txt hlt
      obtain ⟨b', o', s', hB, hbl', hx', hc'⟩ := (HB.out.below hb).txt hlt
      rw [hx] at hx'
      injection hx' with hx'
      subst hx'
      subst hA
      subst hB
      have Hb := Lib.hid hb
      clear hb hx
      have hk0 : (0 : Int) ≤ (k : Int) := by omega
      have hk1 : (k : Int) < (n : Int) := by omega
      go_wp2
      go_quiet (fail)
      go_wp2
      go_roundw
      case rel => exact ⟨k + 1, by omega, by go_num, below_drewN Hb.out _⟩
      case measure => simp [intOf]; omega
    · go_wp2
      go_ret
      exact ⟨rfl, hb⟩
/-- The decimal of k ahead of s. -/
def mtD (k : Nat) (s : ByteArray) : ByteArray := if 0 < k then mtD (k / 10) (strOfNums [48 + (k : Int) % 10] ++ s) else s
termination_by k
decreasing_by omega
def mtM : ByteArray := ⟨#[109]⟩
/-- What markText writes. -/
def mtxt (k : Nat) : ByteArray := mtM ++ mtD k ByteArray.empty

set_option maxRecDepth 100000 in
set_option maxHeartbeats 1000000 in
theorem markText_any (k : Nat) (w : World) (h0 : 0 < k) (h1 : k ≤ 9223372036854775807) :
    Calls Tryd.prog 49 #[.int .i64 k] w fun e w' => e = .returned (.string (mtxt k)) ∧ Below w.heap.size w w' := by
  have hk : ¬ (k : Int) ≤ 0 := by omega
  obtain ⟨R, hR⟩ : ∃ R, mtD k ByteArray.empty = R := ⟨_, rfl⟩
  unfold mtxt
  rw [hR]
  have HR := Lib.hid hR
  clear hR
  go_enter Tryd.func49, Tryd.ntmps49
  go_wp2
  go_loopw [0, 3] (fun vk vs wr => ∃ (q x : Nat) (s : ByteArray), vk = .int .i64 x ∧ vs = .string s ∧ x ≤ k ∧ Hid (x < 2 ^ q) ∧ q ≤ 63 ∧ s.size + q ≤ 63 ∧ Hid (mtD x s = R) ∧ Below w.heap.size w wr) (fun vk _ _ => (intOf vk).toNat)
  case atStart => exact ⟨63, k, ByteArray.empty, rfl, rfl, Nat.le_refl _, Lib.hid (by omega), by omega, by simp, HR, Below.refl _ _⟩
  case round =>
    obtain ⟨q, x, s, rfl, rfl, hxk, HQ, hq, hs, HD, hb⟩ := hrel
    by_cases hx : 0 < x
    · cases q with
      | zero => have := HQ.out; simp at this; omega
      | succ q =>
        have hxI : (0 : Int) < (x : Int) := by omega
        have hdiv : x / 10 < 2 ^ q := by have := HQ.out; rw [Nat.pow_succ] at this; omega
        have hD2 : mtD (x / 10) (strOfNums [48 + (x : Int) % 10] ++ s) = R := by
          have := HD.out
          rw [mtD, if_pos hx] at this
          exact this
        have hcast : ((x : Int) / 10) = ((x / 10 : Nat) : Int) := by omega
        have hcv := run_convert_bytes_arg (P := Tryd.prog) (wr.alloc (Obj.cells #[Value.int .u8 (48 + (x : Int) % 10)] 5)) 29 5 Tryd.underlying29 Tryd.underlying5 wr.heap.size 0 1 1 [48 + (x : Int) % 10] rfl (fun i hi => by
          have : i = 0 := by omega
          subst this
          simp) 9 Tryd.underlying9
        have hsz : (strOfNums [48 + (x : Int) % 10] ++ s).size = 1 + s.size := by rw [ByteArray.size_append]; rfl
        have hs1 : (strOfNums [48 + (x : Int) % 10]).size = 1 := rfl
        generalize strOfNums [48 + (x : Int) % 10] = s1 at *
        have HX := Lib.hid hdiv
        have HD2 := Lib.hid hD2
        have HCA := Lib.hid hcast
        have hb1 : Below w.heap.size w (wr.alloc (Obj.cells #[Value.int .u8 (48 + (x : Int) % 10)] 5)) := hb.alloc hb.size _
        have HB := Lib.hid hb1
        clear hdiv hb hb1 hD2 hcast HD
        go_wp2
        go_roundw
        case rel => exact ⟨q, x / 10, _, by rw [← HCA.out], rfl, by omega, HX, by omega, by rw [hsz]; omega, HD2, HB.out⟩
        case measure => simp [intOf]; omega
    · have hx0 : x = 0 := by omega
      subst hx0
      have hD := HD.out
      rw [mtD, if_neg (by omega)] at hD
      subst hD
      have hm : mtM = ⟨#[109]⟩ := rfl
      go_wp2
      go_ret
      exact ⟨rfl, hb⟩

/-- The texts that the marks are: from the number k on. -/
def marksT (k n : Nat) : List ByteArray := (List.range n).map fun i => mtxt (k + i)
theorem marksT_len (k n : Nat) : (marksT k n).length = n := by simp [marksT]
theorem marksT_get (k n j : Nat) (h : j < n) : (marksT k n)[j]? = some (mtxt (k + j)) := by simp [marksT, h]
set_option maxRecDepth 100000 in
set_option maxHeartbeats 1000000 in
theorem markStringS_any (base : Nat) (A : Option Addr) (n c : Nat) (ss : List ByteArray) (k0 : Nat) (w : World) (h : w.ownsRow base 9 1 (.slice A n c) n (txs ss)) (hk0 : 0 < k0) (hkn : k0 + n ≤ 4611686018427387904) :
    Calls Tryd.prog 16 #[.slice A n c, .int .i64 k0] w fun e w' => e = .returned (.int .i64 ((k0 : Int) + n)) ∧ w'.ownsRow base 9 1 (.slice A n c) n (txs (marksT k0 n)) ∧ w.grownBy w' (Value.slice A n c).ownBlock := by
  have hl : ss.length = n := by have := h.1; rw [txs_len] at this; omega
  have hml : (marksT k0 n).length = ss.length := by rw [marksT_len, hl]
  have hcap := (Rd.of_own h).cap
  have hmax := (Rd.of_own h).max
  have H : Hid (w.ownsRow base 9 1 (.slice A n c) n (txs (mixT (marksT k0 n) ss 0))) := Lib.hid (by rw [mixT_zero]; exact h)
  have HL := Lib.hid hl
  have HM := Lib.hid hml
  clear h hl hml
  go_enter Tryd.func16, Tryd.ntmps16
  go_wp2
  go_loopw [1, 5] (fun kk i wr => ∃ j : Nat, j ≤ n ∧ i = .int .i64 j ∧ kk = .int .i64 ((k0 : Int) + j) ∧ wr.ownsRow base 9 1 (.slice A n c) n (txs (mixT (marksT k0 n) ss j)) ∧ w.grownBy wr (Value.slice A n c).ownBlock)
    (fun _ i _ => n - (intOf i).toNat)
  case atStart => exact ⟨0, Nat.zero_le _, rfl, by simp, H.out, World.grownBy.refl _ _⟩
  case round =>
    obtain ⟨j, hj, rfl, rfl, hown, hg⟩ := hrel
    by_cases hlt : j < n
    · obtain ⟨g, hA, hbg, hgl⟩ := own_at hown (by omega)
      subst hA
      have hcast : (k0 : Int) + j = ((k0 + j : Nat) : Int) := by omega
      have hmt := fun W => markText_any (k0 + j) W (by omega) (by omega)
      rw [← hcast] at hmt
      have HO := Lib.hid hown
      have HG := Lib.hid hg
      have HT := Lib.hid hmt
      have hj0 : (0 : Int) ≤ (j : Int) := by omega
      have hj1 : (j : Int) < (n : Int) := by omega
      have hmj := marksT_get k0 n j hlt
      have HMJ := Lib.hid hmj
      clear hown hg hmt hcast hmj
      go_wp2_with fail
      refine (HT.out _).mono ?_
      rintro e w2 ⟨rfl, hb2⟩
      have hown := own_below HO.out hb2
      obtain ⟨s0, hs0⟩ : ∃ s, ss[j]? = some s := ⟨_, List.getElem?_eq_getElem (by rw [HL.out]; exact hlt)⟩
      have hold := own_txt hown hlt (by rw [mixT_at HM.out (by rw [HL.out]; exact hlt)]; exact hs0)
      have hfr := hown.frozenAt
      have S := own_tset hown j (mtxt (k0 + j))
      rw [mixT_set HM.out HMJ.out] at S
      generalize mtxt (k0 + j) = t at *
      have HS := Lib.hid S.1
      have hg2 : w.grownBy w2 (Value.slice (some ⟨g, 0, none⟩) n c).ownBlock := World.grownBy.trans HG.out ⟨hb2.os, hb2.tape, hb2.output, hb2.size, fun i hi _ => hb2.block i hi⟩
      have HG2 : Hid (w.grownBy (w2.setCell ⟨g, j, none⟩ (.string t)) (Value.slice (some ⟨g, 0, none⟩) n c).ownBlock) := World.grownBy.trans hg2 S.2
      clear S hown hg2 hb2 HO HG HT hs0
      go_wp2
      go_roundw
      case rel => exact ⟨j + 1, by omega, by go_num, by go_num, HS.out, HG2.out⟩
      case measure => simp [intOf]; omega
    · go_wp2
      go_ret
      have : j = n := by omega
      subst this
      rw [mixT_end HM.out (by rw [HL.out]; exact Nat.le_refl _)] at hown
      exact ⟨rfl, hown, hg⟩
set_option maxRecDepth 100000 in
set_option maxHeartbeats 1000000 in
theorem heldStringS_any (A : Option Addr) (n c : Nat) (k0 : Nat) (w : World) (h : Rd w 1 A n c (txs (marksT k0 n))) (hk0 : 0 < k0) (hkn : k0 + n ≤ 4611686018427387904) :
    Calls Tryd.prog 17 #[.slice A n c, .int .i64 k0] w fun e w' => e = .returned (.int .i64 ((k0 : Int) + n)) ∧ Below w.heap.size w w' := by
  have hcap := h.cap
  have hmax := h.max
  have H := Lib.hid h
  clear h
  go_enter Tryd.func17, Tryd.ntmps17
  go_wp2
  go_loopw [1, 5] (fun kk i wr => ∃ j : Nat, j ≤ n ∧ i = .int .i64 j ∧ kk = .int .i64 ((k0 : Int) + j) ∧ Below w.heap.size w wr) (fun _ i _ => n - (intOf i).toNat)
  case atStart => exact ⟨0, Nat.zero_le _, rfl, by simp, Below.refl _ _⟩
  case round =>
    obtain ⟨j, hj, rfl, rfl, hb⟩ := hrel
    by_cases hlt : j < n
    · obtain ⟨b, o, s, hA, hbl, hx, hc⟩ := (H.out.below hb).txt hlt
      rw [marksT_get _ _ _ hlt] at hx
      injection hx with hx
      subst hx
      subst hA
      have hcast : (k0 : Int) + j = ((k0 + j : Nat) : Int) := by omega
      have hmt := fun W => markText_any (k0 + j) W (by omega) (by omega)
      rw [← hcast] at hmt
      generalize mtxt (k0 + j) = t at *
      have HT := Lib.hid hmt
      have Hb := Lib.hid hb
      have hj0 : (0 : Int) ≤ (j : Int) := by omega
      have hj1 : (j : Int) < (n : Int) := by omega
      clear hmt hcast hb
      go_wp2
      go_region_held3 (fun w' => w'.cell? ⟨b, o + j, none⟩ = some (.string t) ∧ Below wr.heap.size wr w')
        (first | exact ⟨hc, (Below.refl _ _).drew⟩ | exact ⟨cell_belT (‹_ ∧ Below wr.heap.size wr _›).1 hb, (‹_ ∧ Below wr.heap.size wr _›).2.trans (hb.mono (‹_ ∧ Below wr.heap.size wr _›).2.size)⟩ | go_keep)
        (first | (go_at_call 49; refine (HT.out _).mono ?_; rintro e w' ⟨rfl, hb⟩))
      have hbb : Below wr.heap.size wr w' := (‹_ ∧ Below wr.heap.size wr w'›).2
      have b3 := Hb.out.trans (hbb.mono Hb.out.size)
      go_wp2
      go_roundw
      case rel => exact ⟨j + 1, by omega, by go_num, by go_num, b3⟩
      case measure => simp [intOf]; omega
    · go_wp2
      go_ret
      have : j = n := by omega
      subst this
      exact ⟨rfl, hb⟩
end Go.Proofs.YtiibhejjeijdaaaDoor
