/- What can be done: canBeDone of the program, l13Can of the reference. -/
import Derived.Test.YtgghjieeckkpbaaDoorBf
namespace Go.Proofs.YtgghjieeckkpbaaDoor
open Go.RowKit

/-- A set as marks and as bits. -/
structure SetD (n : Nat) (d : List Bool) (x : Nat) : Prop where
  len : d.length = n
  n14 : n ≤ 14
  bit : ∀ j, seenAt d j = x.testBit j
theorem seen_out {d : List Bool} {j : Nat} (h : d.length ≤ j) : seenAt d j = false := by
  unfold seenAt
  simp [List.getD, List.getElem?_eq_none h]
theorem SetD.lt {n x : Nat} {d : List Bool} (h : SetD n d x) : x < 16384 := by
  have h1 : x < 2 ^ n := by
    apply Nat.lt_pow_two_of_testBit
    intro b hb
    rw [← h.bit b]
    exact seen_out (by rw [h.len]; exact hb)
  have h2 : 2 ^ n ≤ 2 ^ 14 := Nat.pow_le_pow_right (by omega) h.n14
  omega
theorem SetD.zero {n : Nat} (hn : n ≤ 14) : SetD n (List.replicate n false) 0 := by
  refine ⟨by simp, hn, fun j => ?_⟩
  rw [Nat.zero_testBit]
  unfold seenAt
  simp only [List.getD, List.getElem?_replicate]
  split <;> rfl
theorem SetD.put {n x k : Nat} {d : List Bool} (h : SetD n d x) (hk : k < n) : SetD n (d.set k true) (x ||| 2 ^ k) := by
  refine ⟨by rw [List.length_set]; exact h.len, h.n14, fun j => ?_⟩
  rw [seen_set (by rw [h.len]; exact hk), Nat.testBit_or, Nat.testBit_two_pow, ← h.bit j]
  by_cases e : j = k
  · subst e; simp
  · rw [if_neg e]
    have : decide (k = j) = false := decide_eq_false (fun h => e h.symm)
    rw [this, Bool.or_false]
theorem orPow (x k : Nat) (hx : x < 16384) (hk : k ≤ 14) : bits .or .i64 (x : Int) (2 ^ k) = ((x ||| 2 ^ k : Nat) : Int) := by
  have e : (2 : Int) ^ k = ((2 ^ k : Nat) : Int) := by rw [Int.natCast_pow]; rfl
  have h := pow_lt k (by omega)
  rw [e]
  exact orI x (2 ^ k) (by omega) h

set_option maxHeartbeats 1000000 in
theorem undone_pred (xs : List Int) (n x gb : Nat) (w : World) (hx : x < 16384) (hn : n ≤ 14) (hxs : ∀ b ∈ xs, 0 ≤ b ∧ b < n) (hc : w.cell? ⟨gb, 0, none⟩ = some (.int .i64 x)) :
    PredB Tryd.prog 81 #[.pointer (some ⟨gb, 0, none⟩)] (Value.int .i64) (fun b => !x.testBit b.toNat) xs w := fun W b hb hbel => by
  have c0 := cell_bel hc hbel
  obtain ⟨h0, h1⟩ := hxs b hb
  obtain ⟨q, rfl⟩ := Int.eq_ofNat_of_zero_le h0
  have hhas := has_any x q W (by omega) (by omega)
  show Calls Tryd.prog 81 #[.int .i64 q, .pointer (some ⟨gb, 0, none⟩)] W fun e w' => e = .returned (.bool (!x.testBit q)) ∧ Below W.heap.size W w'
  generalize x.testBit q = z at *
  have HH := Lib.hid hhas
  clear hhas hbel hc
  go_enter Tryd.func81, Tryd.ntmps81
  go_wp2_with (go_at_call 52; refine (HH.out).mono ?_; rintro e w' ⟨rfl, rfl⟩)
  go_ret
  exact ⟨rfl, Below.refl _ _⟩
theorem can_any (bfs : List (List Int)) (d : List Bool) (x k : Nat) (h : ∀ j, seenAt d j = x.testBit j) : canB bfs d k = (!x.testBit k && !((bfs.getD k []).any fun b => !x.testBit b.toNat)) := by
  unfold canB
  rw [h k]
  congr 1
  rw [Bool.eq_iff_iff]
  simp only [List.all_eq_true, Bool.not_eq_true', List.any_eq_false]
  constructor
  · intro hh b hb
    rw [← h b.toNat, hh b hb]
    simp
  · intro hh b hb
    have := hh b hb
    rw [h b.toNat]
    simpa using this

set_option maxRecDepth 100000 in
set_option maxHeartbeats 2000000 in
theorem canBeDone_any (A : Option Addr) (n c : Nat) (ops : List OpV) (k x : Nat) (d : List Bool) (w : World) (h : RdO w A n c ops) (hok : OOk ops) (hk : k < n) (hd : SetD n d x) :
    Calls Tryd.prog 50 #[.slice A n c, .int .i64 k, .int .i64 x] w fun e w' => e = .returned (.bool (canB (bfsO ops) d k)) ∧ Below w.heap.size w w' := by
  have hl := h.len
  have hbf := bfs_ok hok hl
  have hlt := hd.lt
  have h14 := hd.n14
  rw [can_any _ _ _ _ hd.bit]
  obtain ⟨p, b, o, B, m, q, hp, hps, hA, hbl, c0, c1, c2, hr⟩ := h.op hk
  subst hA
  rw [bf_at hp]
  have hb1 : Below w.heap.size w (w.alloc (.cells #[.int .i64 x] 2)) := (by go_grown)
  have d2 := cell_bel c2 hb1
  have hcap := h.cap
  have hmax := h.max
  have hhas := has_any x k (w.alloc (.cells #[.int .i64 x] 2)) (by omega) (by omega)
  have eg : ∀ args w, (callFunc 81 args).run Tryd.prog w = .ok (.enter 81 args) w := enters_of Tryd.func81 (by kernel_rfl) rfl
  have hcf := containsFunc_i64 81 #[.pointer (some ⟨w.heap.size, 0, none⟩)] eg (fun b => !x.testBit b.toNat) B m q p.bf (w.alloc (.cells #[.int .i64 x] 2)) (hr.below hb1)
    (undone_pred p.bf n x w.heap.size _ hlt h14 (fun y hy => hbf.hb k y (by rw [bf_at hp]; exact hy)) (by simp))
  generalize (p.bf.any fun b => !x.testBit b.toNat) = z at *
  generalize x.testBit k = y at *
  have hk0 : (0 : Int) ≤ (k : Int) := by omega
  have hk1 : (k : Int) < (n : Int) := by omega
  have HH := Lib.hid hhas
  have HF := Lib.hid hcf
  have HB1 := Lib.hid hb1
  clear hhas hcf hb1 hbf hd hr h hok hp eg c0 c1 c2
  cases y with
  | true =>
    go_enter Tryd.func50, Tryd.ntmps50
    go_wp2_with (go_at_call 52; refine (HH.out).mono ?_; rintro e w' ⟨rfl, rfl⟩)
    go_ret
    exact ⟨rfl, HB1.out⟩
  | false =>
    go_enter Tryd.func50, Tryd.ntmps50
    go_wp2_with (first | (go_at_call 52; refine (HH.out).mono ?_; rintro e w' ⟨rfl, rfl⟩) | (go_at_call 79; refine (HF.out).mono ?_; rintro e w2 ⟨rfl, hb2⟩))
    go_ret
    exact ⟨rfl, HB1.out.trans (hb2.mono HB1.out.size)⟩

set_option maxRecDepth 100000 in
set_option maxHeartbeats 2000000 in
theorem l13Can_any (A : Option Addr) (n c : Nat) (ops : List OpV) (base g e0 k : Nat) (d : List Bool) (w : World) (h : RdO w A n c ops) (hok : OOk ops) (hk : k < n) (hdl : d.length = n) (hown : w.ownsRow base 4 1 (.slice (some ⟨g, 0, none⟩) n e0) n (bs d)) :
    Calls Tryd.prog 44 #[.slice A n c, .slice (some ⟨g, 0, none⟩) n e0, .int .i64 k] w fun e w' => e = .returned (.bool (canB (bfsO ops) d k)) ∧ w = w' := by
  have hl := h.len
  have hbf := bfs_ok hok hl
  have ck := own_bool hown hk hdl
  have q1 := (Rd.of_own hown).cap
  have q2 := (Rd.of_own hown).max
  obtain ⟨p, b, o, B, m, q, hp, hps, hA, hbl, c0, c1, c2, hr⟩ := h.op hk
  subst hA
  have hcap := h.cap
  have hmax := h.max
  have hrc := hr.cap
  have hrm := hr.max
  have hrl := hr.ilen
  have hk0 : (0 : Int) ≤ (k : Int) := by omega
  have hk1 : (k : Int) < (n : Int) := by omega
  have hci := can_iff (bfs := bfsO ops) (d := d) (k := k)
  rw [bf_at hp] at hci
  generalize canB (bfsO ops) d k = R at *
  have HBB : Hid (∀ y ∈ p.bf, 0 ≤ y ∧ y < n) := Lib.hid fun y hy => hbf.hb k y (by rw [bf_at hp]; exact hy)
  have HR := Lib.hid hr
  have HRL := Lib.hid hrl
  have HO := Lib.hid hown
  have HCI := Lib.hid hci
  cases hy : seenAt d k with
  | true =>
    have hRf : R = false := by
      cases R with
      | false => rfl
      | true => have := (HCI.out.1 rfl).1; rw [hy] at this; cases this
    subst hRf
    rw [hy] at ck
    clear HCI hci hr hown hbf h hok hp hy HBB HR HRL HO hrl
    go_enter Tryd.func44, Tryd.ntmps44
    go_wp2
    go_ret
    exact ⟨rfl, rfl⟩
  | false =>
    rw [hy] at ck
    have HY := Lib.hid hy
    clear hci hr hown hbf h hok hp hy hrl
    go_enter Tryd.func44, Tryd.ntmps44
    go_wp2
    go_loop [8] (fun vj => ∃ j : Nat, j ≤ m ∧ vj = .int .i64 j ∧ Hid (∀ y ∈ p.bf.take j, seenAt d y.toNat = true)) (fun vj => m - (intOf vj).toNat)
    case atStart => exact ⟨0, Nat.zero_le _, rfl, Lib.hid (by simp)⟩
    case round =>
      obtain ⟨j, hj, rfl, HJ⟩ := hrel
      by_cases hlj : j < m
      · obtain ⟨b3, o3, y, hB, hb3, hx, c3⟩ := HR.out.int hlj
        subst hB
        have hyr := HBB.out y (List.mem_of_getElem? hx)
        obtain ⟨v, rfl⟩ := Int.eq_ofNat_of_zero_le hyr.1
        have hv : v < n := by omega
        have hv0 : (0 : Int) ≤ (v : Int) := by omega
        have hv1 : (v : Int) < (n : Int) := by omega
        have hj0 : (0 : Int) ≤ (j : Int) := by omega
        have hj1 : (j : Int) < (m : Int) := by omega
        have cv := own_bool HO.out hv hdl
        have HX := Lib.hid hx
        clear hx
        cases hs : seenAt d v with
        | true =>
          rw [hs] at cv
          have HJ2 : Hid (∀ y ∈ p.bf.take (j + 1), seenAt d y.toNat = true) := Lib.hid (fun y hy => by
            rw [List.take_add_one, HX.out] at hy
            rcases List.mem_append.1 hy with hy | hy
            · exact HJ.out y hy
            · simp at hy; subst hy; simpa using hs)
          clear hs
          go_wp2
          go_round
          case rel => exact ⟨j + 1, by omega, by go_num, HJ2⟩
          case measure => simp [intOf]; omega
        | false =>
          have hRf : R = false := by
            cases R with
            | false => rfl
            | true => have := (HCI.out.1 rfl).2 _ (List.mem_of_getElem? HX.out); simp at this; rw [hs] at this; cases this
          subst hRf
          rw [hs] at cv
          clear hs HCI
          go_wp2
          go_ret
          exact ⟨rfl, rfl⟩
      · have hjm : j = m := by omega
        subst hjm
        have hRt : R = true := HCI.out.2 ⟨HY.out, fun y hy => HJ.out y (by rw [List.take_of_length_le (by rw [HRL.out]; exact Nat.le_refl _)]; exact hy)⟩
        subst hRt
        clear HCI
        go_wp2
        go_ret
        exact ⟨rfl, rfl⟩
end Go.Proofs.YtgghjieeckkpbaaDoor
