/- The order by the rule, of the program (ruleOrder). Printed by mkru.py. -/
import Derived.Test.YtfjmohnlllbgmaaSb
import Derived.Test.YtfjmohnlllbgmaaTi
import Derived.Test.YtfjmohnlllbgmaaVj
namespace Go.Proofs.Ytfjmohnlllbgmaa
open Go.RowKit Go.Shelf

set_option maxHeartbeats 2000000 in
theorem rule1_cmp (b o n c p i j : Nat) (ps : List (Int × Int)) (x y x' y' : Int) (w : World) (h : Rd w 2 (some ⟨b, o, none⟩) n c (pr ps)) (h1 : w.cell? ⟨p, 0, none⟩ = some (.slice (some ⟨b, o, none⟩) n c)) (hi : i < n) (hj : j < n) (hx : ps[i]? = some (x, y)) (hy : ps[j]? = some (x', y')) :
    Calls Try.prog 84 #[.int .i64 i, .int .i64 j, .pointer (some ⟨p, 0, none⟩)] w fun e w' => e = .returned (.int .i64 (cmpZ x x')) ∧ ∃ q, w' = w.drewN q := by
  obtain ⟨b1, o1, u, v, hA, _, hu, c0, c1⟩ := h.pair hi
  obtain ⟨b2, o2, u', v', hB, _, hv, d0, d1⟩ := h.pair hj
  injection hA with hA
  injection hA with e1 e2
  injection hB with hB
  injection hB with e3 e4
  subst e1
  subst e2
  subst e3
  subst e4
  rw [hx] at hu
  rw [hy] at hv
  simp at hu hv
  obtain ⟨rfl, rfl⟩ := hu
  obtain ⟨rfl, rfl⟩ := hv
  have k1 := h.cap
  have k2 := h.max
  have i0 : (0 : Int) ≤ (i : Int) := by omega
  have i1 : (i : Int) < (n : Int) := by omega
  have j0 : (0 : Int) ≤ (j : Int) := by omega
  have j1 : (j : Int) < (n : Int) := by omega
  clear h hx hy
  go_enter Try.func84, Try.ntmps84
  go_wp2
  go_quiet (first | (go_at_call 85; refine Calls.quiet_of_same ((compare_any _ _ _).mono fun _ _ h => ⟨h.1, h.2.symm⟩)))
  go_wp2
  go_ret
  exact ⟨rfl, _, rfl⟩
set_option maxHeartbeats 2000000 in
theorem rule2_cmp (b o n c p i j : Nat) (ps : List (Int × Int)) (x y x' y' : Int) (w : World) (h : Rd w 2 (some ⟨b, o, none⟩) n c (pr ps)) (h1 : w.cell? ⟨p, 0, none⟩ = some (.slice (some ⟨b, o, none⟩) n c)) (hi : i < n) (hj : j < n) (hx : ps[i]? = some (x, y)) (hy : ps[j]? = some (x', y')) :
    Calls Try.prog 86 #[.int .i64 i, .int .i64 j, .pointer (some ⟨p, 0, none⟩)] w fun e w' => e = .returned (.int .i64 (cmpZ y' y)) ∧ ∃ q, w' = w.drewN q := by
  obtain ⟨b1, o1, u, v, hA, _, hu, c0, c1⟩ := h.pair hi
  obtain ⟨b2, o2, u', v', hB, _, hv, d0, d1⟩ := h.pair hj
  injection hA with hA
  injection hA with e1 e2
  injection hB with hB
  injection hB with e3 e4
  subst e1
  subst e2
  subst e3
  subst e4
  rw [hx] at hu
  rw [hy] at hv
  simp at hu hv
  obtain ⟨rfl, rfl⟩ := hu
  obtain ⟨rfl, rfl⟩ := hv
  have k1 := h.cap
  have k2 := h.max
  have i0 : (0 : Int) ≤ (i : Int) := by omega
  have i1 : (i : Int) < (n : Int) := by omega
  have j0 : (0 : Int) ≤ (j : Int) := by omega
  have j1 : (j : Int) < (n : Int) := by omega
  clear h hx hy
  go_enter Try.func86, Try.ntmps86
  go_wp2
  go_quiet (first | (go_at_call 85; refine Calls.quiet_of_same ((compare_any _ _ _).mono fun _ _ h => ⟨h.1, h.2.symm⟩)))
  go_wp2
  go_ret
  exact ⟨rfl, _, rfl⟩

def cf1 (ps : List (Int × Int)) (i j : Int) : Int := cmpZ (jobF ps i).1 (jobF ps j).1
def cf2 (ps : List (Int × Int)) (i j : Int) : Int := cmpZ (jobF ps j).2 (jobF ps i).2
theorem cf1_lt (ps : List (Int × Int)) : ltC (cf1 ps) = ltF (jobF ps) := by
  funext i j
  exact cmpZ_neg _ _
theorem cf2_lt (ps : List (Int × Int)) : ltC (cf2 ps) = ltS (jobF ps) := by
  funext i j
  exact cmpZ_neg _ _
theorem rule1_cmpB (b o n c p : Nat) (ps : List (Int × Int)) (os : List Int) (w1 : World) (hl : ps.length = n) (hos : ∀ i ∈ os, 0 ≤ i ∧ i < n) (h : Rd w1 2 (some ⟨b, o, none⟩) n c (pr ps)) (h1 : w1.cell? ⟨p, 0, none⟩ = some (.slice (some ⟨b, o, none⟩) n c)) :
    CmpB Try.prog 84 #[.pointer (some ⟨p, 0, none⟩)] (cf1 ps) os (fun W => Below w1.heap.size w1 W) := fun W hW i j hi hj => by
  obtain ⟨hi0, hi1⟩ := hos i hi
  obtain ⟨hj0, hj1⟩ := hos j hj
  obtain ⟨a, rfl⟩ := Int.eq_ofNat_of_zero_le hi0
  obtain ⟨a', rfl⟩ := Int.eq_ofNat_of_zero_le hj0
  have hx := List.getElem?_eq_getElem (l := ps) (i := a) (by omega)
  have hy := List.getElem?_eq_getElem (l := ps) (i := a') (by omega)
  unfold cf1
  rw [jobF_at hx, jobF_at hy]
  exact rule1_cmp b o n c p a a' ps _ _ _ _ W (h.below hW) (cell_bel h1 hW) (by omega) (by omega) hx hy
theorem rule2_cmpB (b o n c p : Nat) (ps : List (Int × Int)) (os : List Int) (w1 : World) (hl : ps.length = n) (hos : ∀ i ∈ os, 0 ≤ i ∧ i < n) (h : Rd w1 2 (some ⟨b, o, none⟩) n c (pr ps)) (h1 : w1.cell? ⟨p, 0, none⟩ = some (.slice (some ⟨b, o, none⟩) n c)) :
    CmpB Try.prog 86 #[.pointer (some ⟨p, 0, none⟩)] (cf2 ps) os (fun W => Below w1.heap.size w1 W) := fun W hW i j hi hj => by
  obtain ⟨hi0, hi1⟩ := hos i hi
  obtain ⟨hj0, hj1⟩ := hos j hj
  obtain ⟨a, rfl⟩ := Int.eq_ofNat_of_zero_le hi0
  obtain ⟨a', rfl⟩ := Int.eq_ofNat_of_zero_le hj0
  have hx := List.getElem?_eq_getElem (l := ps) (i := a) (by omega)
  have hy := List.getElem?_eq_getElem (l := ps) (i := a') (by omega)
  unfold cf2
  rw [jobF_at hx, jobF_at hy]
  exact rule2_cmp b o n c p a a' ps _ _ _ _ W (h.below hW) (cell_bel h1 hW) (by omega) (by omega) hx hy

/-- The jobs of the first kind among the first k, and the others. -/
def kF (ps : List (Int × Int)) (k : Nat) : List Int := (upto k).filter (isF (jobF ps))
def kO (ps : List (Int × Int)) (k : Nat) : List Int := (upto k).filter fun i => !isF (jobF ps) i
def ruleL (ps : List (Int × Int)) (n : Nat) : List Int := sortA (fun i j => beforeJ (jobF ps i) (jobF ps j)) (upto n)
theorem upto_succ (n : Nat) : upto (n + 1) = upto n ++ [(n : Int)] := by simp [upto, List.range_succ]
theorem kF_yes {ps : List (Int × Int)} {k : Nat} {x y : Int} (hx : ps[k]? = some (x, y)) (h : x < y) : kF ps (k + 1) = kF ps k ++ [(k : Int)] ∧ kO ps (k + 1) = kO ps k := by
  have hi : isF (jobF ps) (k : Int) = true := by unfold isF; rw [jobF_at hx]; simpa using h
  unfold kF kO
  rw [upto_succ, List.filter_append, List.filter_append]
  simp [hi]
theorem kF_no {ps : List (Int × Int)} {k : Nat} {x y : Int} (hx : ps[k]? = some (x, y)) (h : ¬ x < y) : kF ps (k + 1) = kF ps k ∧ kO ps (k + 1) = kO ps k ++ [(k : Int)] := by
  have hi : isF (jobF ps) (k : Int) = false := by unfold isF; rw [jobF_at hx]; simpa using h
  unfold kF kO
  rw [upto_succ, List.filter_append, List.filter_append]
  simp [hi]
theorem kF_in {ps : List (Int × Int)} {k : Nat} : ∀ i ∈ kF ps k, 0 ≤ i ∧ i < k := fun _ hi => upto_mem'.1 (List.mem_filter.1 hi).1
theorem kO_in {ps : List (Int × Int)} {k : Nat} : ∀ i ∈ kO ps k, 0 ≤ i ∧ i < k := fun _ hi => upto_mem'.1 (List.mem_filter.1 hi).1
theorem kF_len {ps : List (Int × Int)} {k : Nat} : (kF ps k).length ≤ k := by have := List.length_filter_le (isF (jobF ps)) (upto k); rw [upto_len] at this; exact this
theorem kO_len {ps : List (Int × Int)} {k : Nat} : (kO ps k).length ≤ k := by have := List.length_filter_le (fun i => !isF (jobF ps) i) (upto k); rw [upto_len] at this; exact this
theorem rule_two (ps : List (Int × Int)) (n : Nat) : ruleL ps n = sortA (ltC (cf1 ps)) (kF ps n) ++ sortA (ltC (cf2 ps)) (kO ps n) := by
  rw [cf1_lt, cf2_lt]
  exact rule_parts (jobF ps) n
theorem rule_perm (ps : List (Int × Int)) (n : Nat) : (ruleL ps n).Perm (upto n) := by
  have := sortK_perm (fun i j => beforeJ (jobF ps i) (jobF ps j)) (upto n) (upto n).length (Nat.le_refl _)
  rw [List.take_length] at this
  exact this
theorem own_ne {w : World} {base k : Nat} {e : TypeId} {g n c : Nat} {cs : List Value} (h : w.ownsRow base e k (.slice (some ⟨g, 0, none⟩) n c) n cs) : base ≤ g ∧ g < w.heap.size := own_block h g rfl
theorem own_some {w : World} {base k n : Nat} {e : TypeId} {v : Value} {cs : List Value} (h : w.ownsRow base e k v n cs) (hv : v ≠ .slice none 0 0) : ∃ g c, v = .slice (some ⟨g, 0, none⟩) n c := by
  rcases h.2 with ⟨h', _⟩ | ⟨g, cap, cur, h', _⟩
  · exact absurd h' hv
  · exact ⟨g, cap, h'⟩

set_option maxRecDepth 100000 in
set_option maxHeartbeats 8000000 in
theorem ruleOrder_any (b o n c : Nat) (ps : List (Int × Int)) (w : World) (h : Rd w 2 (some ⟨b, o, none⟩) n c (pr ps)) (hn7 : n ≤ 7) :
    Calls Try.prog 69 #[.slice (some ⟨b, o, none⟩) n c] w fun e w' => ∃ g d, e = .returned (.slice (some ⟨g, 0, none⟩) n d) ∧ w'.ownsRow w.heap.size 2 1 (.slice (some ⟨g, 0, none⟩) n d) n (ints (ruleL ps n)) ∧ Below w.heap.size w w' := by
  obtain ⟨i0, hi, hz0, hz1, hz2⟩ := info_parts info_i64r
  have eg1 : ∀ args w, (callFunc 84 args).run Try.prog w = .ok (.enter 84 args) w := enters_of Try.func84 (by kernel_rfl) rfl
  have eg2 : ∀ args w, (callFunc 86 args).run Try.prog w = .ok (.enter 86 args) w := enters_of Try.func86 (by kernel_rfl) rfl
  have hl := h.plen
  have h1 := h.cap
  have h2 := h.max
  have b0 : Below w.heap.size w (w.alloc (.cells #[.slice (some ⟨b, o, none⟩) n c] 25)) := (by go_grown)
  have B0 := Box.new w #[.slice (some ⟨b, o, none⟩) n c] 25
  have hs0 : (w.alloc (.cells #[.slice (some ⟨b, o, none⟩) n c] 25)).heap.size = w.heap.size + 1 := by simp
  have hr2 := rule_two ps n
  have hrl : (ruleL ps n).length = n := by rw [(rule_perm ps n).length_eq, upto_len]
  have hs1 := fun W g d hown K hK hKs hKd hc => sortStable_any 84 #[.pointer (some ⟨w.heap.size, 0, none⟩)] eg1 (cf1 ps) (fun i j => cmpZ_bd _ _) (kF ps n) K w.heap.size g (kF ps n).length d W (by have := kF_len (ps := ps) (k := n); omega) hown hK hKs hKd hc
  have hs2 := fun W g d hown K hK hKs hKd hc => sortStable_any 86 #[.pointer (some ⟨w.heap.size, 0, none⟩)] eg2 (cf2 ps) (fun i j => cmpZ_bd _ _) (kO ps n) K w.heap.size g (kO ps n).length d W (by have := kO_len (ps := ps) (k := n); omega) hown hK hKs hKd hc
  have hc1 := fun w1 h h1 => rule1_cmpB b o n c w.heap.size ps (kF ps n) w1 hl kF_in h h1
  have hc2 := fun w1 h h1 => rule2_cmpB b o n c w.heap.size ps (kO ps n) w1 hl kO_in h h1
  have H0 := Lib.hid (h.below b0)
  have HB0 := Lib.hid b0
  have BX := Lib.hid B0
  have HS0 := Lib.hid hs0
  have HL := Lib.hid hl
  have HR2 := Lib.hid hr2
  have HRL := Lib.hid hrl
  have HS1 := Lib.hid hs1
  have HS2 := Lib.hid hs2
  have HC1 := Lib.hid hc1
  have HC2 := Lib.hid hc2
  clear h b0 B0 hs0 hl hr2 hrl hs1 hs2 hc1 hc2 eg1 eg2
  go_enter Try.func69, Try.ntmps69
  go_wp2
  generalize hw1 : w.alloc (.cells #[.slice (some ⟨b, o, none⟩) n c] 25) = w1 at *
  clear hw1
  have r1 : ((w1.alloc (.cells #[] 2)).alloc (.cells #[] 2)).ownsRow w.heap.size 2 1 (.slice (some ⟨w.heap.size + 1, 0, none⟩) 0 0) 0 (ints (kF ps 0)) := by
    have := World.ownsRow_made (e := 2) (size := 1) w1 #[] 0 (Nat.le_refl _) (by unfold maxLen; omega) rfl
    rw [HS0.out] at this
    exact own_base (own_below (by simpa [kF, upto, ints] using this) ((Below.refl _ _).alloc (Nat.le_refl _) _)) (by omega)
  have r2 : ((w1.alloc (.cells #[] 2)).alloc (.cells #[] 2)).ownsRow w.heap.size 2 1 (.slice (some ⟨w.heap.size + 2, 0, none⟩) 0 0) 0 (ints (kO ps 0)) := by
    have := World.ownsRow_made (e := 2) (size := 1) (w1.alloc (.cells #[] 2)) #[] 0 (Nat.le_refl _) (by unfold maxLen; omega) rfl
    have e : (w1.alloc (.cells #[] 2)).heap.size = w.heap.size + 2 := by simp; rw [HS0.out]
    rw [e] at this
    exact own_base (by simpa [kO, upto, ints] using this) (by omega)
  have rb : Below w1.heap.size w1 ((w1.alloc (.cells #[] 2)).alloc (.cells #[] 2)) := ((Below.refl w1.heap.size w1).alloc (Nat.le_refl _) _).alloc (by simp) _
  have R1 := Lib.hid r1
  have R2 := Lib.hid r2
  have RB := Lib.hid rb
  clear r1 r2 rb
  go_loopw [3, 4, 11] (fun va vb vi wr => ∃ (k g1 g2 d1 d2 : Nat), k ≤ n ∧ vi = .int .i64 k ∧ va = .slice (some ⟨g1, 0, none⟩) (kF ps k).length d1 ∧ vb = .slice (some ⟨g2, 0, none⟩) (kO ps k).length d2 ∧ w1.heap.size ≤ g1 ∧ w1.heap.size ≤ g2 ∧ g1 ≠ g2 ∧
      wr.ownsRow w.heap.size 2 1 (.slice (some ⟨g1, 0, none⟩) (kF ps k).length d1) (kF ps k).length (ints (kF ps k)) ∧ wr.ownsRow w.heap.size 2 1 (.slice (some ⟨g2, 0, none⟩) (kO ps k).length d2) (kO ps k).length (ints (kO ps k)) ∧ Below w1.heap.size w1 wr) (fun _ _ vi _ => n - (intOf vi).toNat)
  case atStart => exact ⟨0, w.heap.size + 1, w.heap.size + 2, 0, 0, Nat.zero_le _, rfl, rfl, rfl, by rw [HS0.out]; omega, by rw [HS0.out]; omega, by omega, R1.out, R2.out, RB.out⟩
  case round =>
    obtain ⟨k, g1, g2, d1, d2, hk, rfl, rfl, rfl, hg1, hg2, hne, hown1, hown2, hb⟩ := hrel
    by_cases hlt : k < n
    · obtain ⟨b', o', x, y, hA, hbl, hx, hx1, hx2⟩ := H0.out.pair hlt
      injection hA with hA
      injection hA with e1 e2
      subst e1
      subst e2
      have c1 := cell_bel hx1 hb
      have c2 := cell_bel hx2 hb
      have cb := cell_bel (BX.out.cell 0) hb
      have hk0 : (0 : Int) ≤ (k : Int) := by omega
      have hk1 : (k : Int) < (n : Int) := by omega
      have hkd : decide ((k : Int) < (n : Int)) = true := decide_eq_true hk1
      have hF := kF_len (ps := ps) (k := k)
      have hO := kO_len (ps := ps) (k := k)
      have hyes := fun hxy => kF_yes hx hxy
      have hno := fun hxy => kF_no hx hxy
      have hss := hb.size
      have hs1' : w.heap.size ≤ w1.heap.size := by rw [HS0.out]; omega
      have hgl1 := own_ne hown1
      have hgl2 := own_ne hown2
      have hYES := Lib.hid hyes
      have hNO := Lib.hid hno
      have O1 := Lib.hid hown1
      have O2 := Lib.hid hown2
      have OB := Lib.hid hb
      have al := Below.refl wr.heap.size wr
      have AL2 := Lib.hid ((al.alloc (Nat.le_refl _) (.cells #[.int .i64 x, .int .i64 y] 46)).alloc (by simp) (.cells #[.int .i64 k] 2))
      clear hown1 hown2 hb hx hx1 hx2 hyes hno al
      by_cases hxy : x < y
      · obtain ⟨eF, eO⟩ := hYES.out hxy
        have EF := Lib.hid eF
        have EO := Lib.hid eO
        clear eF eO
        go_wp2_with (at_builtin; refine wpList_append_own_at _ rfl (.tmp 21) (.tmp 23) 34 rfl w.heap.size 2 i0 (.int .i64 0) 1 8 Try.underlying34 hi hz0 hz1 hz2 rfl (by decide) (Value.slice (some ⟨g1, 0, none⟩) (kF ps k).length d1) _ _ rfl (own_below O1.out AL2.out) ⟨_, 0, none⟩ 1 1 [.int .i64 k] rfl rfl (by have := cell_one_new (wr.alloc (.cells #[.int .i64 x, .int .i64 y] 46)) (.int .i64 k) 2; simpa using this) (by intro u hu; simp at hu; subst hu; rfl) (by unfold maxLen; omega) (by omega) (by simp; omega) ?_; intro v' wa hown' hga hdel hblk)
        obtain ⟨g3, d3, hv⟩ := own_some hown' (fun h => by have := (hdel.1 h).1; simp at this)
        have hg3 : g3 = g1 ∨ g3 = wr.heap.size + 2 := by rw [hv] at hblk; simp [Value.ownBlock] at hblk; omega
        have b7 : Below w1.heap.size w1 wa := (OB.out.trans (AL2.out.mono hss)).grown hga (by simp; omega) (fun j hj => by simp [Value.ownBlock] at hj; omega)
        have o7 := own_other (g' := g1) (own_below O2.out AL2.out) hga hne.symm
        rw [ints_snoc, ← EF.out] at hown'
        have hlen : (kF ps k).length + 1 = (kF ps (k + 1)).length := by rw [EF.out]; simp
        rw [hlen] at hown' hv
        subst hv
        rw [← EO.out] at o7
        have hle2 : (kO ps k).length = (kO ps (k + 1)).length := by rw [EO.out]
        clear hga hdel hblk
        go_roundw
        case rel => exact ⟨k + 1, g3, g2, d3, d2, by omega, by go_num, by first | rfl | rw [hlen], by rw [EO.out], by omega, by omega, by omega, hown', o7, b7⟩
        case measure => simp [intOf]; omega
      · obtain ⟨eF, eO⟩ := hNO.out hxy
        have EF := Lib.hid eF
        have EO := Lib.hid eO
        clear eF eO
        go_wp2_with (at_builtin; refine wpList_append_own_at _ rfl (.tmp 25) (.tmp 27) 34 rfl w.heap.size 2 i0 (.int .i64 0) 1 8 Try.underlying34 hi hz0 hz1 hz2 rfl (by decide) (Value.slice (some ⟨g2, 0, none⟩) (kO ps k).length d2) _ _ rfl (own_below O2.out AL2.out) ⟨_, 0, none⟩ 1 1 [.int .i64 k] rfl rfl (by have := cell_one_new (wr.alloc (.cells #[.int .i64 x, .int .i64 y] 46)) (.int .i64 k) 2; simpa using this) (by intro u hu; simp at hu; subst hu; rfl) (by unfold maxLen; omega) (by omega) (by simp; omega) ?_; intro v' wa hown' hga hdel hblk)
        obtain ⟨g3, d3, hv⟩ := own_some hown' (fun h => by have := (hdel.1 h).1; simp at this)
        have hg3 : g3 = g2 ∨ g3 = wr.heap.size + 2 := by rw [hv] at hblk; simp [Value.ownBlock] at hblk; omega
        have b7 : Below w1.heap.size w1 wa := (OB.out.trans (AL2.out.mono hss)).grown hga (by simp; omega) (fun j hj => by simp [Value.ownBlock] at hj; omega)
        have o7 := own_other (g' := g2) (own_below O1.out AL2.out) hga hne
        rw [ints_snoc, ← EO.out] at hown'
        have hlen : (kO ps k).length + 1 = (kO ps (k + 1)).length := by rw [EO.out]; simp
        rw [hlen] at hown' hv
        subst hv
        rw [← EF.out] at o7
        clear hga hdel hblk
        go_roundw
        case rel => exact ⟨k + 1, g1, g3, d1, d3, by omega, by go_num, by rw [EF.out], by first | rfl | rw [hlen], by omega, by omega, by omega, o7, hown', b7⟩
        case measure => simp [intOf]; omega
    · have : k = n := by omega
      subst this
      have hs1' : w.heap.size ≤ w1.heap.size := by rw [HS0.out]; omega
      have O1 := Lib.hid hown1
      have O2 := Lib.hid hown2
      have OB := Lib.hid hb
      have c1 := BX.out.cell 0
      have hF := kF_len (ps := ps) (k := k)
      have hO := kO_len (ps := ps) (k := k)
      clear hown1 hown2 hb
      go_wp2_with fail
      refine (HS1.out _ g1 d1 O1.out (fun W => Below w1.heap.size w1 W) OB.out (fun W i u hW => hW.setCell hg1 u) (fun W q hW => below_drewN hW q) (HC1.out w1 H0.out c1)).mono ?_
      rintro e w3 ⟨rfl, hown3, hb3, hgr3⟩
      have P1 := Lib.hid hown3
      have P2 := Lib.hid (own_other O2.out hgr3 hne.symm)
      have PB := Lib.hid hb3
      clear hown3 hb3 hgr3 O1 O2 OB
      go_wp2_with fail
      refine (HS2.out _ g2 d2 P2.out (fun W => Below w1.heap.size w1 W) PB.out (fun W i u hW => hW.setCell hg2 u) (fun W q hW => below_drewN hW q) (HC2.out w1 H0.out c1)).mono ?_
      rintro e w4 ⟨rfl, hown4, hb4, hgr4⟩
      have Q2 := Lib.hid hown4
      have Q1 := Lib.hid (own_other P1.out hgr4 hne)
      have QB := Lib.hid hb4
      have hs4 := hb4.size
      have hl2 : (sortK (ltC (cf2 ps)) (kO ps k) (kO ps k).length).length = (kO ps k).length := sortK_len _ _ _
      have HL2 := Lib.hid hl2
      clear hown4 hb4 hgr4 P1 P2 PB hl2
      go_wp2_with (at_builtin; refine wpList_append_own _ rfl (.tmp 36) (.tmp 37) 34 rfl w.heap.size 2 i0 (.int .i64 0) 1 8 Try.underlying34 hi hz0 hz1 hz2 rfl (by decide) (Value.slice (some ⟨g1, 0, none⟩) (kF ps k).length d1) _ _ rfl Q1.out ⟨g2, 0, none⟩ (kO ps k).length d2 (ints (sortK (ltC (cf2 ps)) (kO ps k) (kO ps k).length)) rfl (by rw [ints_len, HL2.out]; omega) (Rd.newsI (Rd.of_own Q2.out)) (ints_one _) (by unfold maxLen; omega) (by omega) (by omega) ?_; intro v' wa hown' hga hdel)
      obtain ⟨g3, d3, hv⟩ := own_some hown' (fun h => by have := (hdel.1 h).1; simp at this)
      have hfin : Below w.heap.size w wa := (HB0.out.trans (QB.out.mono hs1')).grown hga (by omega) (fun j hj => by simp [Value.ownBlock] at hj; omega)
      have hr := HR2.out
      unfold sortA at hr
      rw [← ints_append, ← hr] at hown'
      have hln : (kF ps k).length + (kO ps k).length = k := by
        have := HRL.out
        rw [hr, List.length_append, sortK_len, sortK_len] at this
        exact this
      rw [hln] at hown' hv
      subst hv
      have HO5 := Lib.hid hown'
      clear hown' hga hdel hr
      go_wp2
      go_ret
      exact ⟨_, _, rfl, HO5.out, hfin⟩
end Go.Proofs.Ytfjmohnlllbgmaa
