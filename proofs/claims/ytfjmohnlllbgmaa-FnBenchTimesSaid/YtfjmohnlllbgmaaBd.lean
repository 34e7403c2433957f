/- BoundOf (program and reference), the sums of jobs; and the law. Printed by mkbd.py. -/
import Derived.Test.YtfjmohnlllbgmaaVj
import Derived.Test.YtfjmohnlllbgmaaFrac
import Derived.Lib.MinMax
namespace Go.Proofs.Ytfjmohnlllbgmaa
open Go.RowKit

theorem takeJ {α : Type} {ps : List α} {k : Nat} {z : α} (h : ps[k]? = some z) : ps.take (k + 1) = ps.take k ++ [z] := by rw [List.take_add_one, h]; rfl
def sumG (f : Int × Int → Int) : List (Int × Int) → Int
  | [] => 0
  | p :: ps => f p + sumG f ps
def minG (f : Int × Int → Int) (a : Int) : List (Int × Int) → Int
  | [] => a
  | p :: ps => min (f p) (minG f a ps)
theorem sum_app (f : Int × Int → Int) : ∀ (ps : List (Int × Int)) (z : Int × Int), sumG f (ps ++ [z]) = sumG f ps + f z
  | [], z => by simp [sumG]
  | p :: ps, z => by
    simp only [List.cons_append, sumG, sum_app f ps z]
    omega
theorem min_app (f : Int × Int → Int) (a : Int) : ∀ (ps : List (Int × Int)) (z : Int × Int), minG f a (ps ++ [z]) = min (minG f a ps) (f z)
  | [], z => by simp [minG]; omega
  | p :: ps, z => by
    simp only [List.cons_append, minG, min_app f a ps z]
    omega
theorem sumB : ∀ (n : Nat) {ps : List (Int × Int)}, JOk ps → n ≤ ps.length → ((n : Int) ≤ sumG Prod.fst (ps.take n) ∧ sumG Prod.fst (ps.take n) ≤ n * 1000) ∧ ((n : Int) ≤ sumG Prod.snd (ps.take n) ∧ sumG Prod.snd (ps.take n) ≤ n * 1000)
  | 0, ps, _, _ => by simp [sumG]
  | n + 1, ps, h, hn => by
    obtain ⟨⟨x, y⟩, hx⟩ : ∃ z, ps[n]? = some z := ⟨_, List.getElem?_eq_getElem (by omega)⟩
    have ih := sumB n h (by omega)
    have hb := h.job n _ hx
    rw [takeJ hx, sum_app, sum_app]
    simp only at hb ⊢
    omega
theorem minB (a : Int) (ha : 1 ≤ a ∧ a ≤ 1000) : ∀ (n : Nat) {ps : List (Int × Int)}, JOk ps → n ≤ ps.length → (1 ≤ minG Prod.fst a (ps.take n) ∧ minG Prod.fst a (ps.take n) ≤ 1000) ∧ (1 ≤ minG Prod.snd a (ps.take n) ∧ minG Prod.snd a (ps.take n) ≤ 1000)
  | 0, ps, _, _ => by simp [minG]; omega
  | n + 1, ps, h, hn => by
    obtain ⟨⟨x, y⟩, hx⟩ : ∃ z, ps[n]? = some z := ⟨_, List.getElem?_eq_getElem (by omega)⟩
    have ih := minB a ha n h (by omega)
    have hb := h.job n _ hx
    rw [takeJ hx, min_app, min_app]
    simp only at hb ⊢
    omega
/-- The bound. -/
def boundZ (ps : List (Int × Int)) : Int × Int :=
  if jobsB ps = true then
    match ps with
    | [] => (0, 0)
    | p :: _ => (max (sumG Prod.fst ps + minG Prod.snd p.2 ps) (sumG Prod.snd ps + minG Prod.fst p.1 ps), 0)
  else (0, 1)
theorem l00MaxJ_any (a b : Int) (w : World) : Calls Try.prog 63 #[.int .i64 a, .int .i64 b] w fun e w' => e = .returned (.int .i64 (max a b)) ∧ w = w' := by
  have h : maxZ a b = max a b := by unfold maxZ; split <;> omega
  rw [← h]
  exact l00Max_any a b w
theorem l00MinJ_any (a b : Int) (w : World) : Calls Try.prog 62 #[.int .i64 a, .int .i64 b] w fun e w' => e = .returned (.int .i64 (min a b)) ∧ w = w' := by
  have h : minZ a b = min a b := by unfold minZ; split <;> omega
  rw [← h]
  exact l00Min_any a b w

set_option maxHeartbeats 2000000 in
theorem sums_any (A : Option Addr) (n c : Nat) (ps : List (Int × Int)) (w : World) (h : Rd w 2 A n c (pr ps)) (ho : JOk ps) :
    Calls Try.prog 64 #[.slice A n c] w fun e w' => e = .returned (.tuple #[.int .i64 (sumG Prod.fst ps), .int .i64 (sumG Prod.snd ps)]) ∧ Below w.heap.size w w' := by
  have hl := h.plen
  have hn9 := ho.len
  have hn9' : n ≤ 7 := by omega
  have h1 := h.cap
  have h2 := h.max
  have H := Lib.hid h
  have HL := Lib.hid hl
  have HO := Lib.hid ho
  obtain ⟨R1, hR1⟩ : ∃ R, sumG Prod.fst ps = R := ⟨_, rfl⟩
  obtain ⟨R2, hR2⟩ : ∃ R, sumG Prod.snd ps = R := ⟨_, rfl⟩
  rw [hR1, hR2]
  have HR1 := Lib.hid hR1
  have HR2 := Lib.hid hR2
  clear h hl ho hR1 hR2
  go_enter Try.func64, Try.ntmps64
  go_wp2
  go_loopw [4, 5, 10] (fun am bm i wr => ∃ (k : Nat) (Q S : Int), k ≤ n ∧ i = .int .i64 k ∧ am = .int .i64 Q ∧ bm = .int .i64 S ∧ Hid (sumG Prod.fst (ps.take k) = Q) ∧ Hid (sumG Prod.snd (ps.take k) = S) ∧ Below w.heap.size w wr) (fun _ _ i _ => n - (intOf i).toNat)
  case atStart => exact ⟨0, 0, 0, Nat.zero_le _, rfl, rfl, rfl, (show Hid _ from rfl), (show Hid _ from rfl), Below.refl _ _⟩
  case round =>
    obtain ⟨k, Q, S, hk, rfl, rfl, rfl, HA, HS, hb⟩ := hrel
    by_cases hlt : k < n
    · obtain ⟨b, o, x, y, hA, hbl, hx, hc1, hc2⟩ := (H.out.below hb).pair hlt
      subst hA
      have hxy := HO.out.job k _ hx
      have hQ := sumB k HO.out (by have := HL.out; omega)
      rw [HS.out, HA.out] at hQ
      have hk0 : (0 : Int) ≤ (k : Int) := by omega
      have hk1 : (k : Int) < (n : Int) := by omega
      have HX : Hid (sumG Prod.fst (ps.take (k + 1)) = Q + x) := by rw [takeJ hx, sum_app, HA.out]; exact Lib.hid rfl
      have HY : Hid (sumG Prod.snd (ps.take (k + 1)) = S + y) := by rw [takeJ hx, sum_app, HS.out]; exact Lib.hid rfl
      have x0 : 1 ≤ x ∧ x ≤ 1000 := hxy.1
      have y0 : 1 ≤ y ∧ y ≤ 1000 := hxy.2
      have Hb := Lib.hid (hb.alloc hb.size (.cells #[.int .i64 x, .int .i64 y] 46))
      clear hx hb hxy
      go_wp2
      go_quiet (fail)
      go_wp2
      go_roundw
      case rel => exact ⟨k + 1, Q + x, S + y, by omega, by go_num, rfl, rfl, HX, HY, below_drewN Hb.out _⟩
      case measure => simp [intOf]; omega
    · have : k = n := by omega
      subst this
      have htk : ps.take k = ps := List.take_of_length_le (by rw [HL.out]; exact Nat.le_refl _)
      have hQ : Q = R1 := by rw [← HA.out, ← HR1.out, htk]
      have hS : S = R2 := by rw [← HS.out, ← HR2.out, htk]
      subst hQ
      subst hS
      have Hb := Lib.hid hb
      clear hb HA HS htk
      go_wp2
      go_returns
      exact ⟨rfl, Hb.out⟩

set_option maxHeartbeats 2000000 in
theorem l14Sums_any (A : Option Addr) (n c : Nat) (ps : List (Int × Int)) (w : World) (h : Rd w 2 A n c (pr ps)) (ho : JOk ps) :
    Calls Try.prog 61 #[.slice A n c] w fun e w' => e = .returned (.tuple #[.int .i64 (sumG Prod.fst ps), .int .i64 (sumG Prod.snd ps)]) ∧ Below w.heap.size w w' := by
  have hl := h.plen
  have hn9 := ho.len
  have hn9' : n ≤ 7 := by omega
  have h1 := h.cap
  have h2 := h.max
  have H := Lib.hid h
  have HL := Lib.hid hl
  have HO := Lib.hid ho
  obtain ⟨R1, hR1⟩ : ∃ R, sumG Prod.fst ps = R := ⟨_, rfl⟩
  obtain ⟨R2, hR2⟩ : ∃ R, sumG Prod.snd ps = R := ⟨_, rfl⟩
  rw [hR1, hR2]
  have HR1 := Lib.hid hR1
  have HR2 := Lib.hid hR2
  clear h hl ho hR1 hR2
  go_enter Try.func61, Try.ntmps61
  go_wp2
  go_loopw [4, 5, 6] (fun am bm i wr => ∃ (k : Nat) (Q S : Int), k ≤ n ∧ i = .int .i64 k ∧ am = .int .i64 Q ∧ bm = .int .i64 S ∧ Hid (sumG Prod.fst (ps.take k) = Q) ∧ Hid (sumG Prod.snd (ps.take k) = S) ∧ Below w.heap.size w wr) (fun _ _ i _ => n - (intOf i).toNat)
  case atStart => exact ⟨0, 0, 0, Nat.zero_le _, rfl, rfl, rfl, (show Hid _ from rfl), (show Hid _ from rfl), Below.refl _ _⟩
  case round =>
    obtain ⟨k, Q, S, hk, rfl, rfl, rfl, HA, HS, hb⟩ := hrel
    by_cases hlt : k < n
    · obtain ⟨b, o, x, y, hA, hbl, hx, hc1, hc2⟩ := (H.out.below hb).pair hlt
      subst hA
      have hxy := HO.out.job k _ hx
      have hQ := sumB k HO.out (by have := HL.out; omega)
      rw [HS.out, HA.out] at hQ
      have hk0 : (0 : Int) ≤ (k : Int) := by omega
      have hk1 : (k : Int) < (n : Int) := by omega
      have HX : Hid (sumG Prod.fst (ps.take (k + 1)) = Q + x) := by rw [takeJ hx, sum_app, HA.out]; exact Lib.hid rfl
      have HY : Hid (sumG Prod.snd (ps.take (k + 1)) = S + y) := by rw [takeJ hx, sum_app, HS.out]; exact Lib.hid rfl
      have x0 : 1 ≤ x ∧ x ≤ 1000 := hxy.1
      have y0 : 1 ≤ y ∧ y ≤ 1000 := hxy.2
      have Hb := Lib.hid hb
      clear hx hb hxy
      go_wp2
      go_roundw
      case rel => exact ⟨k + 1, Q + x, S + y, by omega, by go_num, rfl, rfl, HX, HY, Hb.out⟩
      case measure => simp [intOf]; omega
    · have : k = n := by omega
      subst this
      have htk : ps.take k = ps := List.take_of_length_le (by rw [HL.out]; exact Nat.le_refl _)
      have hQ : Q = R1 := by rw [← HA.out, ← HR1.out, htk]
      have hS : S = R2 := by rw [← HS.out, ← HR2.out, htk]
      subst hQ
      subst hS
      have Hb := Lib.hid hb
      clear hb HA HS htk
      go_wp2
      go_returns
      exact ⟨rfl, Hb.out⟩

set_option maxHeartbeats 4000000 in
theorem implBoundOf_any (A : Option Addr) (n c : Nat) (ps : List (Int × Int)) (w : World) (h : Rd w 2 A n c (pr ps)) :
    Calls Try.prog 22 #[.slice A n c] w fun e w' => e = .returned (.tuple #[.int .i64 (boundZ ps).1, .int .i64 (boundZ ps).2]) ∧ Below w.heap.size w w' := by
  have hl := h.plen
  have h1 := h.cap
  have h2 := h.max
  have hcall := fun W h => implValidJobs_any A n c ps W h
  unfold boundZ
  cases hz : jobsB ps with
  | false =>
    rw [hz] at hcall
    have HC := Lib.hid hcall
    have H := Lib.hid h
    clear hcall h hz
    go_enter Try.func22, Try.ntmps22
    go_wp2_with fail
    refine (HC.out _ H.out).mono ?_
    rintro e w1 ⟨rfl, hb⟩
    go_wp2
    go_returns
    exact ⟨rfl, hb⟩
  | true =>
    have ho := jok hz
    have hn9 := ho.len
    have hn9' : n ≤ 7 := by omega
    rw [hz] at hcall
    rw [if_pos rfl]
    have H := Lib.hid h
    have HC := Lib.hid hcall
    have HO := Lib.hid ho
    have HL := Lib.hid hl
    clear hcall hz ho hl
    by_cases hn : n = 0
    · subst hn
      have hp : ps = [] := List.eq_nil_of_length_eq_zero HL.out
      subst hp
      clear h
      go_enter Try.func22, Try.ntmps22
      go_wp2_with fail
      refine (HC.out _ H.out).mono ?_
      rintro e w1 ⟨rfl, hb⟩
      go_wp2
      go_returns
      exact ⟨rfl, hb⟩
    obtain ⟨b, o, x, y, hA, hbl, hx, hc1, hc2⟩ := h.pair (show 0 < n by omega)
    have hx0 := HO.out.job 0 _ hx
    have x0 : 1 ≤ x ∧ x ≤ 1000 := hx0.1
    have y0 : 1 ≤ y ∧ y ≤ 1000 := hx0.2
    have hps : ∃ qs, ps = (x, y) :: qs := by
      cases ps with
      | nil => simp at hx
      | cons p qs => simp at hx; exact ⟨qs, by rw [hx]⟩
    obtain ⟨qs, hps⟩ := hps
    have hret : (match ps with
      | [] => ((0, 0) : Int × Int)
      | p :: _ => (max (sumG Prod.fst ps + minG Prod.snd p.2 ps) (sumG Prod.snd ps + minG Prod.fst p.1 ps), 0)) = (max (sumG Prod.fst ps + minG Prod.snd y ps) (sumG Prod.snd ps + minG Prod.fst x ps), 0) := by rw [hps]
    rw [hret]
    have htk : ps.take n = ps := List.take_of_length_le (by rw [HL.out]; exact Nat.le_refl _)
    have hone : ps.take 1 = [(x, y)] := by rw [hps]; rfl
    have hs := sumB n HO.out (by rw [HL.out]; exact Nat.le_refl _)
    rw [htk] at hs
    have hsc := fun W h => sums_any A n c ps W h HO.out
    obtain ⟨R1, hR1⟩ : ∃ R, sumG Prod.fst ps = R := ⟨_, rfl⟩
    obtain ⟨R2, hR2⟩ : ∃ R, sumG Prod.snd ps = R := ⟨_, rfl⟩
    obtain ⟨M1, hM1⟩ : ∃ R, minG Prod.fst x ps = R := ⟨_, rfl⟩
    obtain ⟨M2, hM2⟩ : ∃ R, minG Prod.snd y ps = R := ⟨_, rfl⟩
    have hm1 := (minB x x0 n HO.out (by rw [HL.out]; exact Nat.le_refl _)).1
    have hm2 := (minB y y0 n HO.out (by rw [HL.out]; exact Nat.le_refl _)).2
    rw [htk] at hm1 hm2
    rw [hR1, hR2] at hsc
    rw [hR1, hR2, hM1, hM2]
    rw [hR1, hR2] at hs
    rw [hM1] at hm1
    rw [hM2] at hm2
    have HM1 := Lib.hid hM1
    have HM2 := Lib.hid hM2
    have HS := Lib.hid hsc
    have HT := Lib.hid htk
    have HE := Lib.hid hone
    have HX0 := Lib.hid (And.intro hc1 hc2)
    clear hM1 hM2 hsc htk hone hR1 hR2 h hx hx0 hps hret hc1 hc2 hbl
    have hnz : ¬ (n : Int) = 0 := by omega
    have hnp : (0 : Int) < (n : Int) := by omega
    have hnb : ((n : Int) == 0) = false := by simpa using hnz
    subst hA
    go_enter Try.func22, Try.ntmps22
    go_wp2_with fail
    refine (HC.out _ H.out).mono ?_
    rintro e w1 ⟨rfl, hb⟩
    have H1 := Lib.hid (H.out.below hb)
    have HB1 := Lib.hid hb
    clear hb HC
    go_wp2_with fail
    refine (HS.out _ H1.out).mono ?_
    rintro e w2 ⟨rfl, hb⟩
    have H2 := Lib.hid (H1.out.below hb)
    have HB2 := Lib.hid (HB1.out.trans (hb.mono HB1.out.size))
    have c1 : w2.cell? ⟨b, o, none⟩ = some (.int .i64 x) := by
      have hh := HX0.out.1
      simpa using (HB2.out.cell (p := ⟨b, o + 0 * 2, none⟩) (World.block_lt_of_cell? _ _ hh)).trans hh
    have c2 : w2.cell? ⟨b, o + 1, none⟩ = some (.int .i64 y) := by
      have hh := HX0.out.2
      simpa using (HB2.out.cell (p := ⟨b, o + 0 * 2 + 1, none⟩) (World.block_lt_of_cell? _ _ hh)).trans hh
    clear hb H1 HB1 HS
    go_wp2
    go_quiet (fail)
    go_wp2
    go_loopw [6, 7, 33] (fun am bm i wr => ∃ (k : Nat) (Q S : Int), k ≤ n ∧ i = .int .i64 k ∧ am = .int .i64 Q ∧ bm = .int .i64 S ∧ Hid (minG Prod.fst x (ps.take k) = Q) ∧ Hid (minG Prod.snd y (ps.take k) = S) ∧ Below w2.heap.size w2 wr) (fun _ _ i _ => n - (intOf i).toNat)
    case atStart => exact ⟨0, x, y, Nat.zero_le _, rfl, rfl, rfl, (show Hid _ from rfl), (show Hid _ from rfl), below_drewN (Below.refl _ _) _⟩
    case round =>
      obtain ⟨k, Q, S, hk, rfl, rfl, rfl, HA, HS, hb⟩ := hrel
      by_cases hlt : k < n
      · obtain ⟨b', o', x', y', hA, hbl, hx, hd1, hd2⟩ := (H2.out.below hb).pair hlt
        injection hA with hA
        injection hA with hA1 hA2
        subst hA1
        subst hA2
        have hxy := HO.out.job k _ hx
        have hk0 : (0 : Int) ≤ (k : Int) := by omega
        have hk1 : (k : Int) < (n : Int) := by omega
        have HX : Hid (minG Prod.fst x (ps.take (k + 1)) = min Q x') := by rw [takeJ hx, min_app, HA.out]; exact Lib.hid rfl
        have HY : Hid (minG Prod.snd y (ps.take (k + 1)) = min S y') := by rw [takeJ hx, min_app, HS.out]; exact Lib.hid rfl
        have Hb := Lib.hid (hb.alloc hb.size (.cells #[.int .i64 x', .int .i64 y'] 46))
        clear hx hb hxy
        go_wp2
        go_quiet (fail)
        go_wp2
        go_roundw
        case rel => exact ⟨k + 1, min Q x', min S y', by omega, by go_num, rfl, rfl, HX, HY, below_drewN Hb.out _⟩
        case measure => simp [intOf]; omega
      · have : k = n := by omega
        subst this
        have hQ : Q = M1 := by rw [← HA.out, ← HM1.out, HT.out]
        have hS : S = M2 := by rw [← HS.out, ← HM2.out, HT.out]
        subst hQ
        subst hS
        have Hb := Lib.hid (HB2.out.trans (hb.mono HB2.out.size))
        clear hb HA HS
        go_wp2
        go_returns
        exact ⟨rfl, Hb.out⟩

set_option maxHeartbeats 4000000 in
theorem specBoundOf_any (A : Option Addr) (n c : Nat) (ps : List (Int × Int)) (w : World) (h : Rd w 2 A n c (pr ps)) :
    Calls Try.prog 21 #[.slice A n c] w fun e w' => e = .returned (.tuple #[.int .i64 (boundZ ps).1, .int .i64 (boundZ ps).2]) ∧ Below w.heap.size w w' := by
  have hl := h.plen
  have h1 := h.cap
  have h2 := h.max
  have hcall := fun W h => l14Ok_any A n c ps W h
  unfold boundZ
  cases hz : jobsB ps with
  | false =>
    rw [hz] at hcall
    have HC := Lib.hid hcall
    have H := Lib.hid h
    clear hcall h hz
    go_enter Try.func21, Try.ntmps21
    go_wp2_with fail
    refine (HC.out _ H.out).mono ?_
    rintro e w1 ⟨rfl, rfl⟩
    have hb : Below w.heap.size w w := Below.refl _ _
    go_wp2
    go_returns
    exact ⟨rfl, hb⟩
  | true =>
    have ho := jok hz
    have hn9 := ho.len
    have hn9' : n ≤ 7 := by omega
    rw [hz] at hcall
    rw [if_pos rfl]
    have H := Lib.hid h
    have HC := Lib.hid hcall
    have HO := Lib.hid ho
    have HL := Lib.hid hl
    clear hcall hz ho hl
    by_cases hn : n = 0
    · subst hn
      have hp : ps = [] := List.eq_nil_of_length_eq_zero HL.out
      subst hp
      clear h
      go_enter Try.func21, Try.ntmps21
      go_wp2_with fail
      refine (HC.out _ H.out).mono ?_
      rintro e w1 ⟨rfl, rfl⟩
      have hb : Below w.heap.size w w := Below.refl _ _
      go_wp2
      go_returns
      exact ⟨rfl, hb⟩
    obtain ⟨b, o, x, y, hA, hbl, hx, hc1, hc2⟩ := h.pair (show 0 < n by omega)
    have hx0 := HO.out.job 0 _ hx
    have x0 : 1 ≤ x ∧ x ≤ 1000 := hx0.1
    have y0 : 1 ≤ y ∧ y ≤ 1000 := hx0.2
    have hps : ∃ qs, ps = (x, y) :: qs := by
      cases ps with
      | nil => simp at hx
      | cons p qs => simp at hx; exact ⟨qs, by rw [hx]⟩
    obtain ⟨qs, hps⟩ := hps
    have hret : (match ps with
      | [] => ((0, 0) : Int × Int)
      | p :: _ => (max (sumG Prod.fst ps + minG Prod.snd p.2 ps) (sumG Prod.snd ps + minG Prod.fst p.1 ps), 0)) = (max (sumG Prod.fst ps + minG Prod.snd y ps) (sumG Prod.snd ps + minG Prod.fst x ps), 0) := by rw [hps]
    rw [hret]
    have htk : ps.take n = ps := List.take_of_length_le (by rw [HL.out]; exact Nat.le_refl _)
    have hone : ps.take 1 = [(x, y)] := by rw [hps]; rfl
    have hs := sumB n HO.out (by rw [HL.out]; exact Nat.le_refl _)
    rw [htk] at hs
    have hsc := fun W h => l14Sums_any A n c ps W h HO.out
    obtain ⟨R1, hR1⟩ : ∃ R, sumG Prod.fst ps = R := ⟨_, rfl⟩
    obtain ⟨R2, hR2⟩ : ∃ R, sumG Prod.snd ps = R := ⟨_, rfl⟩
    obtain ⟨M1, hM1⟩ : ∃ R, minG Prod.fst x ps = R := ⟨_, rfl⟩
    obtain ⟨M2, hM2⟩ : ∃ R, minG Prod.snd y ps = R := ⟨_, rfl⟩
    have hm1 := (minB x x0 n HO.out (by rw [HL.out]; exact Nat.le_refl _)).1
    have hm2 := (minB y y0 n HO.out (by rw [HL.out]; exact Nat.le_refl _)).2
    rw [htk] at hm1 hm2
    rw [hR1, hR2] at hsc
    rw [hR1, hR2, hM1, hM2]
    rw [hR1, hR2] at hs
    rw [hM1] at hm1
    rw [hM2] at hm2
    have HM1 := Lib.hid hM1
    have HM2 := Lib.hid hM2
    have HS := Lib.hid hsc
    have HT := Lib.hid htk
    have HE := Lib.hid hone
    have HX0 := Lib.hid (And.intro hc1 hc2)
    clear hM1 hM2 hsc htk hone hR1 hR2 h hx hx0 hps hret hc1 hc2 hbl
    have hnz : ¬ (n : Int) = 0 := by omega
    have hnp : (0 : Int) < (n : Int) := by omega
    have hnb : ((n : Int) == 0) = false := by simpa using hnz
    subst hA
    go_enter Try.func21, Try.ntmps21
    go_wp2_with fail
    refine (HC.out _ H.out).mono ?_
    rintro e w1 ⟨rfl, rfl⟩
    have hb : Below w.heap.size w w := Below.refl _ _
    have H1 := Lib.hid (H.out.below hb)
    have HB1 := Lib.hid hb
    clear hb HC
    go_wp2_with fail
    refine (HS.out _ H1.out).mono ?_
    rintro e w2 ⟨rfl, hb⟩
    have H2 := Lib.hid (H1.out.below hb)
    have HB2 := Lib.hid (HB1.out.trans (hb.mono HB1.out.size))
    have c1 : w2.cell? ⟨b, o, none⟩ = some (.int .i64 x) := by
      have hh := HX0.out.1
      simpa using (HB2.out.cell (p := ⟨b, o + 0 * 2, none⟩) (World.block_lt_of_cell? _ _ hh)).trans hh
    have c2 : w2.cell? ⟨b, o + 1, none⟩ = some (.int .i64 y) := by
      have hh := HX0.out.2
      simpa using (HB2.out.cell (p := ⟨b, o + 0 * 2 + 1, none⟩) (World.block_lt_of_cell? _ _ hh)).trans hh
    clear hb H1 HB1 HS
    go_wp2
    go_loopw [6, 7, 8] (fun am bm i wr => ∃ (k : Nat) (Q S : Int), 1 ≤ k ∧ k ≤ n ∧ i = .int .i64 k ∧ am = .int .i64 Q ∧ bm = .int .i64 S ∧ Hid (minG Prod.fst x (ps.take k) = Q) ∧ Hid (minG Prod.snd y (ps.take k) = S) ∧ Below w2.heap.size w2 wr) (fun _ _ i _ => n - (intOf i).toNat)
    case atStart => exact ⟨1, x, y, by omega, by omega, rfl, rfl, rfl, (show Hid _ from by rw [HE.out]; show min x x = x; omega), (show Hid _ from by rw [HE.out]; show min y y = y; omega), Below.refl _ _⟩
    case round =>
      obtain ⟨k, Q, S, hk1', hk, rfl, rfl, rfl, HA, HS, hb⟩ := hrel
      by_cases hlt : k < n
      · obtain ⟨b', o', x', y', hA, hbl, hx, hd1, hd2⟩ := (H2.out.below hb).pair hlt
        injection hA with hA
        injection hA with hA1 hA2
        subst hA1
        subst hA2
        have hxy := HO.out.job k _ hx
        have hk0 : (0 : Int) ≤ (k : Int) := by omega
        have hk1 : (k : Int) < (n : Int) := by omega
        have HX : Hid (minG Prod.fst x (ps.take (k + 1)) = min Q x') := by rw [takeJ hx, min_app, HA.out]; exact Lib.hid rfl
        have HY : Hid (minG Prod.snd y (ps.take (k + 1)) = min S y') := by rw [takeJ hx, min_app, HS.out]; exact Lib.hid rfl
        have Hb := Lib.hid hb
        clear hx hb hxy
        go_wp2_with (go_at_call 62; refine (l00MinJ_any _ _ _).mono ?_; rintro e w' ⟨rfl, rfl⟩)
        go_roundw
        case rel => exact ⟨k + 1, min Q x', min S y', by omega, by omega, by go_num, rfl, rfl, HX, HY, Hb.out⟩
        case measure => simp [intOf]; omega
      · have : k = n := by omega
        subst this
        have hQ : Q = M1 := by rw [← HA.out, ← HM1.out, HT.out]
        have hS : S = M2 := by rw [← HS.out, ← HM2.out, HT.out]
        subst hQ
        subst hS
        have Hb := Lib.hid (HB2.out.trans (hb.mono HB2.out.size))
        clear hb HA HS
        go_wp2_with (go_at_call 63; refine (l00MaxJ_any _ _ _).mono ?_; rintro e w' ⟨rfl, rfl⟩)
        go_returns
        exact ⟨rfl, Hb.out⟩

set_option maxHeartbeats 4000000 in
theorem law_BoundOf (A : Option Addr) (n c : Nat) (ps : List (Int × Int)) (w : World) (h : Rd w 2 A n c (pr ps)) :
    Calls Try.prog 4 #[.slice A n c] w fun e w' => e = .returned (.bool true) ∧ Below w.heap.size w w' := by
  have h1 := h.cap
  have h2 := h.max
  have HA := Lib.hid h
  clear h
  by_cases hn : (1048576 : Int) < (n : Int)
  · go_enter Try.func4, Try.ntmps4
    go_wp2_with fail
    refine (szPrS_any _ _ _ _ _ (by omega) (by omega) (by omega)).mono ?_
    rw [if_pos (by omega)]
    rintro e w' ⟨rfl, rfl⟩
    go_wp2
    go_ret
    exact ⟨rfl, Below.refl _ _⟩
  have b0 : Below w.heap.size w w := Below.refl _ _
  go_enter Try.func4, Try.ntmps4
  go_wp2_with fail
  refine (szPrS_any _ _ _ _ _ (by omega) (by omega) (by omega)).mono ?_
  rw [if_neg (by omega)]
  rintro e w' ⟨rfl, rfl⟩
  have h5 : ¬ 1048576 - (n : Int) < 0 := by omega
  go_wp2_with fail
  refine (toPrS_any A n c ps _ (HA.out.below b0) (by omega)).mono ?_
  rintro e w1 ⟨gp, rfl, ho, hb⟩
  have b1 : Below w.heap.size w w1 := b0.trans (hb.mono b0.size)
  have Rp1 := Lib.hid (Rd.of_own ho)
  clear hb b0 ho
  go_wp2_with fail
  refine (specBoundOf_any _ _ _ ps _ Rp1.out).mono ?_
  rintro e w2 ⟨rfl, hb⟩
  have b2 : Below w.heap.size w w2 := b1.trans (hb.mono b1.size)
  have Rp2 := Lib.hid (Rp1.out.below hb)
  clear hb b1 Rp1
  go_wp2_with fail
  refine (toPrS_any A n c ps _ (HA.out.below b2) (by omega)).mono ?_
  rintro e w3 ⟨gx, rfl, ho, hb⟩
  have b3 : Below w.heap.size w w3 := b2.trans (hb.mono b2.size)
  have Rp3 := Lib.hid (Rp2.out.below hb)
  have Rx3 := Lib.hid (Rd.of_own ho)
  clear hb b2 Rp2 ho
  go_wp2_with fail
  refine (implBoundOf_any _ _ _ ps _ Rx3.out).mono ?_
  rintro e w4 ⟨rfl, hb⟩
  have b4 : Below w.heap.size w w4 := b3.trans (hb.mono b3.size)
  have Rp4 := Lib.hid (Rp3.out.below hb)
  have Rx4 := Lib.hid (Rx3.out.below hb)
  clear hb b3 Rp3 Rx3
  go_wp2_with fail
  refine (toPrS_any A n c ps _ (HA.out.below b4) (by omega)).mono ?_
  rintro e w5 ⟨gz, rfl, ho, hb⟩
  have b5 : Below w.heap.size w w5 := b4.trans (hb.mono b4.size)
  have Rp5 := Lib.hid (Rp4.out.below hb)
  have Rx5 := Lib.hid (Rx4.out.below hb)
  have Rz5 := Lib.hid (Rd.of_own ho)
  clear hb b4 Rp4 Rx4 ho
  go_wp2_with fail
  refine (eqPrS_any _ _ _ ps _ _ _ ps _ Rx5.out Rz5.out).mono ?_
  rw [eqG_self]
  rintro e w6 ⟨rfl, hb⟩
  have b6 : Below w.heap.size w w6 := b5.trans (hb.mono b5.size)
  have Rp6 := Lib.hid (Rp5.out.below hb)
  have Rx6 := Lib.hid (Rx5.out.below hb)
  have Rz6 := Lib.hid (Rz5.out.below hb)
  clear hb b5 Rp5 Rx5 Rz5
  go_wp2_with fail
  go_ret
  exact ⟨rfl, b6⟩
end Go.Proofs.Ytfjmohnlllbgmaa
