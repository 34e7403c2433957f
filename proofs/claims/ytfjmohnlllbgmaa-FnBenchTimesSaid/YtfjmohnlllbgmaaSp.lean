/- Spans: spanOf, SpanOf, IdleOf (program, reference), and their laws. Printed by mksp.py. -/
import Derived.Test.YtfjmohnlllbgmaaRn
import Derived.Test.YtfjmohnlllbgmaaCd
import Derived.Test.YtfjmohnlllbgmaaPr3
namespace Go.Proofs.Ytfjmohnlllbgmaa
open Go.RowKit Go.Shelf

theorem perm_in {n : Nat} {os : List Int} (h : os.Perm (upto n)) : os.length = n ∧ ∀ (j : Nat) (i : Int), os[j]? = some i → 0 ≤ i ∧ i < n :=
  ⟨by rw [h.length_eq, upto_len], fun j i hi => upto_mem'.1 (h.subset (List.mem_of_getElem? hi))⟩
theorem timB_all {ps : List (Int × Int)} {os : List Int} (hj : JOk ps) (hb : ∀ (j : Nat) (i : Int), os[j]? = some i → 0 ≤ i ∧ i < ps.length) : ∀ k, k ≤ os.length → TimB ps.length k (timK ps os k)
  | 0, _ => timB0 _
  | k + 1, hk => by
    have hk' := List.getElem?_eq_getElem (l := os) (i := k) (by omega)
    have hi := hb k _ hk'
    obtain ⟨i, hi'⟩ := Int.eq_ofNat_of_zero_le hi.1
    rw [hi'] at hk' hi
    have hp := List.getElem?_eq_getElem (l := ps) (i := i) (by omega)
    rw [tim_step rfl hk' hp]
    exact (timB_all hj hb k (by omega)).step (hj.job _ _ hp).1 (hj.job _ _ hp).2

set_option maxRecDepth 100000 in
set_option maxHeartbeats 4000000 in
theorem spanOf_any (A : Option Addr) (n c : Nat) (ps : List (Int × Int)) (B : Option Addr) (m d : Nat) (os : List Int) (w : World) (h : Rd w 2 A n c (pr ps)) (hB : Rd w 1 B m d (ints os)) (ho : JOk ps) (hm : m ≤ 7) (hos : ∀ (j : Nat) (i : Int), os[j]? = some i → 0 ≤ i ∧ i < n) :
    Calls Try.prog 68 #[.slice A n c, .slice B m d] w fun e w' => e = .returned (.int .i64 (timK ps os m).b) ∧ Below w.heap.size w w' := by
  have hl := h.plen
  have hlo := hB.ilen
  have h3 := hB.cap
  have h4 := hB.max
  have hcall := run_any A n c ps B m d os w h hB ho hm hos
  cases m with
  | zero =>
    have e0 : (timK ps os 0).b = 0 := rfl
    rw [e0]
    generalize timK ps os 0 = t at *
    have HC := Lib.hid hcall
    clear hcall h hB ho hos hl hlo e0
    go_enter Try.func68, Try.ntmps68
    go_wp2_with fail
    refine (HC.out).mono ?_
    rintro e w1 ⟨g1, g2, rfl, _, _, _, hb⟩
    go_wp2
    go_ret
    exact ⟨rfl, hb⟩
  | succ k =>
    obtain ⟨b', o', iv, hA', hbl', hiv, hc3⟩ := hB.int (show k < k + 1 by omega)
    have hib := hos k iv hiv
    obtain ⟨i, rfl⟩ := Int.eq_ofNat_of_zero_le hib.1
    subst hA'
    have hp := List.getElem?_eq_getElem (l := ps) (i := i) (by omega)
    have hT := timB_all (os := os) ho (fun j y hy => by have := hos j y hy; omega) k (by omega)
    have hS := timB_all (os := os) ho (fun j y hy => by have := hos j y hy; omega) (k + 1) (by omega)
    have hst := tim_step rfl hiv hp
    have hlast := tim_last hT (i := i) (by omega) (ps[i]'(by omega))
    rw [← hst] at hlast
    have hsl := hS.sl
    generalize timK ps os (k + 1) = t at *
    have HC := Lib.hid hcall
    have HLA := Lib.hid hlast
    have HSL := Lib.hid hsl
    have HL := Lib.hid hl
    have hne : (((k + 1 : Nat) : Int) == 0) = false := by simp; omega
    have hk0 : (0 : Int) ≤ (k : Int) := by omega
    have hk1 : (k : Int) < ((k + 1 : Nat) : Int) := by omega
    have hi0 : (0 : Int) ≤ (i : Int) := by omega
    have hi1 : (i : Int) < (n : Int) := by omega
    clear hcall h hB ho hos hl hlo hlast hsl hp hT hS hst hiv hib
    go_enter Try.func68, Try.ntmps68
    go_wp2_with fail
    refine (HC.out).mono ?_
    rintro e w1 ⟨g1, g2, rfl, _, _, ho2, hb⟩
    have c3 := (hb.cell (p := ⟨b', o' + k, none⟩) hbl').trans hc3
    have cs := own_int ho2 (i := i) (by omega) (by rw [HSL.out, HL.out])
    rw [HLA.out] at cs
    have Hb := Lib.hid hb
    clear ho2 hb hc3
    go_wp2
    go_ret
    exact ⟨rfl, Hb.out⟩

/-- The span of an order, and the code. -/
def spanZ (ps : List (Int × Int)) (os : List Int) : Int × Int := if codeJ ps os = 0 then ((timK ps os os.length).b, 0) else (0, codeJ ps os)
def idleZ (ps : List (Int × Int)) (os : List Int) : Int × Int := if codeJ ps os = 0 then ((timK ps os os.length).b - sumG Prod.snd ps, 0) else (0, codeJ ps os)

set_option maxRecDepth 100000 in
set_option maxHeartbeats 4000000 in
theorem implSpanOf_any (A : Option Addr) (n c : Nat) (ps : List (Int × Int)) (B : Option Addr) (m d : Nat) (os : List Int) (w : World) (h : Rd w 2 A n c (pr ps)) (hB : Rd w 1 B m d (ints os)) (hm : m ≤ 1048576) :
    Calls Try.prog 29 #[.slice A n c, .slice B m d] w fun e w' => e = .returned (.tuple #[.int .i64 (spanZ ps os).1, .int .i64 (spanZ ps os).2]) ∧ Below w.heap.size w w' := by
  have hl := h.plen
  have hlo := hB.ilen
  have h1 := h.cap
  have h2 := h.max
  have h3 := hB.cap
  have h4 := hB.max
  have hcall := fun W h hB => jobsCode_any A n c ps B m d os W h hB hm
  unfold spanZ
  by_cases hz : codeJ ps os = 0
  · rw [if_pos hz]
    obtain ⟨hj, hp⟩ := codeJ_ok hz
    obtain ⟨hon, hin⟩ := perm_in hp
    have hn7 := hj.len
    have hmn : m = n := by omega
    subst hmn
    have hn7' : m ≤ 7 := by omega
    have hin' : ∀ (j : Nat) (i : Int), os[j]? = some i → 0 ≤ i ∧ i < m := fun j i hi => by have := hin j i hi; omega
    rw [hz] at hcall
    rw [hlo]
    have hf := fun W h hB => spanOf_any A m c ps B m d os W h hB hj hn7' hin'
    generalize (timK ps os m).b = r at *
    have HF := Lib.hid hf
    clear hf
    have HC := Lib.hid hcall
    have H := Lib.hid h
    have HB := Lib.hid hB
    have HJ := Lib.hid hj
    have HI := Lib.hid hin'
    have HP := Lib.hid hp
    clear hcall h hB hj hp hin hin' hz hl hlo hon hn7
    go_enter Try.func29, Try.ntmps29
    go_wp2_with fail
    refine (HC.out _ H.out HB.out).mono ?_
    rintro e w1 ⟨rfl, hb1⟩
    have H1 := Lib.hid (H.out.below hb1)
    have B1 := Lib.hid (HB.out.below hb1)
    have Hb1 := Lib.hid hb1
    have hs1 := hb1.size
    clear hb1
    go_wp2_with fail
    refine (HF.out _ H1.out B1.out).mono ?_
    rintro e w2 ⟨rfl, hb2⟩
    go_wp2
    go_ret2
    exact ⟨rfl, Hb1.out.trans (hb2.mono hs1)⟩
  · rw [if_neg hz]
    have hne : (codeJ ps os != 0) = true := by simpa using hz
    generalize codeJ ps os = z at *
    have HC := Lib.hid hcall
    have H := Lib.hid h
    have HB := Lib.hid hB
    clear hcall h hB hl hlo hz
    go_enter Try.func29, Try.ntmps29
    go_wp2_with fail
    refine (HC.out _ H.out HB.out).mono ?_
    rintro e w1 ⟨rfl, hb1⟩
    go_wp2
    go_ret2
    exact ⟨rfl, hb1⟩

set_option maxRecDepth 100000 in
set_option maxHeartbeats 4000000 in
theorem specSpanOf_any (A : Option Addr) (n c : Nat) (ps : List (Int × Int)) (B : Option Addr) (m d : Nat) (os : List Int) (w : World) (h : Rd w 2 A n c (pr ps)) (hB : Rd w 1 B m d (ints os)) :
    Calls Try.prog 37 #[.slice A n c, .slice B m d] w fun e w' => e = .returned (.tuple #[.int .i64 (spanZ ps os).1, .int .i64 (spanZ ps os).2]) ∧ Below w.heap.size w w' := by
  have hl := h.plen
  have hlo := hB.ilen
  have h1 := h.cap
  have h2 := h.max
  have h3 := hB.cap
  have h4 := hB.max
  have hcall := fun W h hB => l14Code_any A n c ps B m d os W h hB
  unfold spanZ
  by_cases hz : codeJ ps os = 0
  · rw [if_pos hz]
    obtain ⟨hj, hp⟩ := codeJ_ok hz
    obtain ⟨hon, hin⟩ := perm_in hp
    have hn7 := hj.len
    have hmn : m = n := by omega
    subst hmn
    have hn7' : m ≤ 7 := by omega
    have hin' : ∀ (j : Nat) (i : Int), os[j]? = some i → 0 ≤ i ∧ i < m := fun j i hi => by have := hin j i hi; omega
    rw [hz] at hcall
    rw [hlo]
    have hf := fun W h hB => l14Times_any A m c ps B m d os W h hB hj hn7' hin'
    have hrb := (timB_all (os := os) hj hin m (by omega)).b0
    have hrc := (timB_all (os := os) hj hin m (by omega)).b1
    generalize timK ps os m = t at *
    have HF := Lib.hid hf
    clear hf
    have HC := Lib.hid hcall
    have H := Lib.hid h
    have HB := Lib.hid hB
    have HJ := Lib.hid hj
    have HI := Lib.hid hin'
    have HP := Lib.hid hp
    clear hcall h hB hj hp hin hin' hz hl hlo hon hn7
    go_enter Try.func37, Try.ntmps37
    go_wp2_with fail
    refine (HC.out _ H.out HB.out).mono ?_
    rintro e w1 ⟨rfl, hb1⟩
    have H1 := Lib.hid (H.out.below hb1)
    have B1 := Lib.hid (HB.out.below hb1)
    have Hb1 := Lib.hid hb1
    have hs1 := hb1.size
    clear hb1
    go_wp2_with fail
    refine (HF.out _ H1.out B1.out).mono ?_
    rintro e w2 ⟨g1, g2, rfl, _, _, _, hb2⟩
    go_wp2
    go_ret2
    exact ⟨rfl, Hb1.out.trans (hb2.mono hs1)⟩
  · rw [if_neg hz]
    have hne : (codeJ ps os != 0) = true := by simpa using hz
    generalize codeJ ps os = z at *
    have HC := Lib.hid hcall
    have H := Lib.hid h
    have HB := Lib.hid hB
    clear hcall h hB hl hlo hz
    go_enter Try.func37, Try.ntmps37
    go_wp2_with fail
    refine (HC.out _ H.out HB.out).mono ?_
    rintro e w1 ⟨rfl, hb1⟩
    go_wp2
    go_ret2
    exact ⟨rfl, hb1⟩

set_option maxRecDepth 100000 in
set_option maxHeartbeats 4000000 in
theorem implIdleOf_any (A : Option Addr) (n c : Nat) (ps : List (Int × Int)) (B : Option Addr) (m d : Nat) (os : List Int) (w : World) (h : Rd w 2 A n c (pr ps)) (hB : Rd w 1 B m d (ints os)) (hm : m ≤ 1048576) :
    Calls Try.prog 40 #[.slice A n c, .slice B m d] w fun e w' => e = .returned (.tuple #[.int .i64 (idleZ ps os).1, .int .i64 (idleZ ps os).2]) ∧ Below w.heap.size w w' := by
  have hl := h.plen
  have hlo := hB.ilen
  have h1 := h.cap
  have h2 := h.max
  have h3 := hB.cap
  have h4 := hB.max
  have hcall := fun W h hB => jobsCode_any A n c ps B m d os W h hB hm
  unfold idleZ
  by_cases hz : codeJ ps os = 0
  · rw [if_pos hz]
    obtain ⟨hj, hp⟩ := codeJ_ok hz
    obtain ⟨hon, hin⟩ := perm_in hp
    have hn7 := hj.len
    have hmn : m = n := by omega
    subst hmn
    have hn7' : m ≤ 7 := by omega
    have hin' : ∀ (j : Nat) (i : Int), os[j]? = some i → 0 ≤ i ∧ i < m := fun j i hi => by have := hin j i hi; omega
    rw [hz] at hcall
    rw [hlo]
    have hrb := (timB_all (os := os) hj hin m (by omega)).b0
    have hrc := (timB_all (os := os) hj hin m (by omega)).b1
    have hf := fun W h hB => spanOf_any A m c ps B m d os W h hB hj hn7' hin'
    generalize (timK ps os m).b = r at *
    have HF := Lib.hid hf
    clear hf
    have hsb := (sumB m hj (by omega)).2
    have htk : ps.take m = ps := List.take_of_length_le (by omega)
    rw [htk] at hsb
    have hsm := fun W h => sums_any A m c ps W h hj
    generalize sumG Prod.snd ps = q at *
    generalize sumG Prod.fst ps = q1 at *
    have HSM := Lib.hid hsm
    clear hsm htk
    have HC := Lib.hid hcall
    have H := Lib.hid h
    have HB := Lib.hid hB
    have HJ := Lib.hid hj
    have HI := Lib.hid hin'
    have HP := Lib.hid hp
    clear hcall h hB hj hp hin hin' hz hl hlo hon hn7
    go_enter Try.func40, Try.ntmps40
    go_wp2_with fail
    refine (HC.out _ H.out HB.out).mono ?_
    rintro e w1 ⟨rfl, hb1⟩
    have H1 := Lib.hid (H.out.below hb1)
    have B1 := Lib.hid (HB.out.below hb1)
    have Hb1 := Lib.hid hb1
    have hs1 := hb1.size
    clear hb1
    go_wp2_with fail
    refine (HSM.out _ H1.out).mono ?_
    rintro e w2 ⟨rfl, hb2⟩
    have H2 := Lib.hid (H1.out.below hb2)
    have B2 := Lib.hid (B1.out.below hb2)
    have Hb2 := Lib.hid (Hb1.out.trans (hb2.mono hs1))
    have hs2 := hb2.size
    clear hb2
    go_wp2_with fail
    refine (HF.out _ H2.out B2.out).mono ?_
    rintro e w3 ⟨rfl, hb3⟩
    go_wp2
    go_ret2
    exact ⟨rfl, Hb2.out.trans (hb3.mono (by omega))⟩
  · rw [if_neg hz]
    have hne : (codeJ ps os != 0) = true := by simpa using hz
    generalize codeJ ps os = z at *
    have HC := Lib.hid hcall
    have H := Lib.hid h
    have HB := Lib.hid hB
    clear hcall h hB hl hlo hz
    go_enter Try.func40, Try.ntmps40
    go_wp2_with fail
    refine (HC.out _ H.out HB.out).mono ?_
    rintro e w1 ⟨rfl, hb1⟩
    go_wp2
    go_ret2
    exact ⟨rfl, hb1⟩

set_option maxRecDepth 100000 in
set_option maxHeartbeats 4000000 in
theorem specIdleOf_any (A : Option Addr) (n c : Nat) (ps : List (Int × Int)) (B : Option Addr) (m d : Nat) (os : List Int) (w : World) (h : Rd w 2 A n c (pr ps)) (hB : Rd w 1 B m d (ints os)) :
    Calls Try.prog 39 #[.slice A n c, .slice B m d] w fun e w' => e = .returned (.tuple #[.int .i64 (idleZ ps os).1, .int .i64 (idleZ ps os).2]) ∧ Below w.heap.size w w' := by
  have hl := h.plen
  have hlo := hB.ilen
  have h1 := h.cap
  have h2 := h.max
  have h3 := hB.cap
  have h4 := hB.max
  have hcall := fun W h hB => l14Code_any A n c ps B m d os W h hB
  unfold idleZ
  by_cases hz : codeJ ps os = 0
  · rw [if_pos hz]
    obtain ⟨hj, hp⟩ := codeJ_ok hz
    obtain ⟨hon, hin⟩ := perm_in hp
    have hn7 := hj.len
    have hmn : m = n := by omega
    subst hmn
    have hn7' : m ≤ 7 := by omega
    have hin' : ∀ (j : Nat) (i : Int), os[j]? = some i → 0 ≤ i ∧ i < m := fun j i hi => by have := hin j i hi; omega
    rw [hz] at hcall
    rw [hlo]
    have hf := fun W h hB => l14Times_any A m c ps B m d os W h hB hj hn7' hin'
    have hrb := (timB_all (os := os) hj hin m (by omega)).b0
    have hrc := (timB_all (os := os) hj hin m (by omega)).b1
    generalize timK ps os m = t at *
    have HF := Lib.hid hf
    clear hf
    have hsb := (sumB m hj (by omega)).2
    have htk : ps.take m = ps := List.take_of_length_le (by omega)
    rw [htk] at hsb
    have hsm := fun W h => l14Sums_any A m c ps W h hj
    generalize sumG Prod.snd ps = q at *
    generalize sumG Prod.fst ps = q1 at *
    have HSM := Lib.hid hsm
    clear hsm htk
    have HC := Lib.hid hcall
    have H := Lib.hid h
    have HB := Lib.hid hB
    have HJ := Lib.hid hj
    have HI := Lib.hid hin'
    have HP := Lib.hid hp
    clear hcall h hB hj hp hin hin' hz hl hlo hon hn7
    go_enter Try.func39, Try.ntmps39
    go_wp2_with fail
    refine (HC.out _ H.out HB.out).mono ?_
    rintro e w1 ⟨rfl, hb1⟩
    have H1 := Lib.hid (H.out.below hb1)
    have B1 := Lib.hid (HB.out.below hb1)
    have Hb1 := Lib.hid hb1
    have hs1 := hb1.size
    clear hb1
    go_wp2_with fail
    refine (HF.out _ H1.out B1.out).mono ?_
    rintro e w2 ⟨g1, g2, rfl, _, _, _, hb2⟩
    have H2 := Lib.hid (H1.out.below hb2)
    have Hb2 := Lib.hid (Hb1.out.trans (hb2.mono hs1))
    have hs2 := hb2.size
    clear hb2
    go_wp2_with fail
    refine (HSM.out _ H2.out).mono ?_
    rintro e w3 ⟨rfl, hb3⟩
    go_wp2
    go_ret2
    exact ⟨rfl, Hb2.out.trans (hb3.mono (by omega))⟩
  · rw [if_neg hz]
    have hne : (codeJ ps os != 0) = true := by simpa using hz
    generalize codeJ ps os = z at *
    have HC := Lib.hid hcall
    have H := Lib.hid h
    have HB := Lib.hid hB
    clear hcall h hB hl hlo hz
    go_enter Try.func39, Try.ntmps39
    go_wp2_with fail
    refine (HC.out _ H.out HB.out).mono ?_
    rintro e w1 ⟨rfl, hb1⟩
    go_wp2
    go_ret2
    exact ⟨rfl, hb1⟩

set_option maxRecDepth 100000 in
set_option maxHeartbeats 8000000 in
theorem law_SpanOf (A : Option Addr) (n c : Nat) (ps : List (Int × Int)) (B : Option Addr) (m d : Nat) (os : List Int) (w : World) (hA : Rd w 2 A n c (pr ps)) (hB : Rd w 1 B m d (ints os)) :
    Calls Try.prog 9 #[.slice A n c, .slice B m d] w fun e w' => e = .returned (.bool true) ∧ Below w.heap.size w w' := by
  have eA1 := hA.cap
  have eA2 := hA.max
  have eB1 := hB.cap
  have eB2 := hB.max
  have lA := hA.plen
  have lB := hB.ilen
  have hsp := fun A n c B m d W h1 h2 => specSpanOf_any A n c ps B m d os W h1 h2
  have him := fun A n c B m d W h1 h2 hm => implSpanOf_any A n c ps B m d os W h1 h2 hm
  generalize (spanZ ps os).1 = R at *
  generalize (spanZ ps os).2 = z at *
  have HA := Lib.hid hA
  have HB := Lib.hid hB
  have HSP := Lib.hid hsp
  have HIM := Lib.hid him
  clear hA hB hsp him lA lB
  by_cases gB : (1048576 : Int) < (m : Int)
  · go_enter Try.func9, Try.ntmps9
    go_wp2
    go_ret
    exact ⟨rfl, Below.refl _ _⟩
  by_cases gA : (1048576 : Int) < (n : Int)
  · go_enter Try.func9, Try.ntmps9
    go_wp2_with fail
    refine (szPrS_any _ _ _ _ _ (by omega) (by omega) (by omega)).mono ?_
    rw [if_pos (by omega)]
    rintro e w' ⟨rfl, rfl⟩
    go_wp2
    go_ret
    exact ⟨rfl, Below.refl _ _⟩
  have b0 : Below w.heap.size w w := Below.refl _ _
  go_enter Try.func9, Try.ntmps9
  go_wp2_with fail
  refine (szPrS_any _ _ _ _ _ (by omega) (by omega) (by omega)).mono ?_
  rw [if_neg (by omega)]
  rintro e w' ⟨rfl, rfl⟩
  have sA : ¬ 1048576 - (n : Int) < 0 := by omega
  go_wp2_with fail
  refine (toPrS_any A n c ps _ (HA.out.below b0) (by omega)).mono ?_
  rintro e w1 ⟨gt0, rfl, ho, hb1⟩
  have b1 : Below w.heap.size w w1 := b0.trans (hb1.mono b0.size)
  have s1 := hb1.size
  have Ot01 := Lib.hid (OwnIn.new ho)
  clear hb1 ho
  go_wp2_with fail
  refine (toInt64S_any B m d os _ (HB.out.below b1) (by omega)).mono ?_
  rintro e w2 ⟨gt1, rfl, ho, hb2⟩
  have b2 : Below w.heap.size w w2 := b1.trans (hb2.mono b1.size)
  have s2 := hb2.size
  have Ot02 := Lib.hid (Ot01.out.below hb2)
  have Ot12 := Lib.hid (OwnIn.new ho)
  clear hb2 Ot01 ho
  go_wp2_with fail
  refine (HSP.out _ _ _ _ _ _ _ Ot02.out.rd Ot12.out.rd).mono ?_
  rintro e w3 ⟨rfl, hb3⟩
  have b3 : Below w.heap.size w w3 := b2.trans (hb3.mono b2.size)
  have s3 := hb3.size
  have Ot03 := Lib.hid (Ot02.out.below hb3)
  have Ot13 := Lib.hid (Ot12.out.below hb3)
  clear hb3 Ot02 Ot12
  go_wp2_with fail
  refine (toPrS_any A n c ps _ (HA.out.below b3) (by omega)).mono ?_
  rintro e w4 ⟨gx0, rfl, ho, hb4⟩
  have b4 : Below w.heap.size w w4 := b3.trans (hb4.mono b3.size)
  have s4 := hb4.size
  have Ot04 := Lib.hid (Ot03.out.below hb4)
  have Ot14 := Lib.hid (Ot13.out.below hb4)
  have Ox04 := Lib.hid (OwnIn.new ho)
  clear hb4 Ot03 Ot13 ho
  go_wp2_with fail
  refine (toInt64S_any B m d os _ (HB.out.below b4) (by omega)).mono ?_
  rintro e w5 ⟨gx1, rfl, ho, hb5⟩
  have b5 : Below w.heap.size w w5 := b4.trans (hb5.mono b4.size)
  have s5 := hb5.size
  have Ot05 := Lib.hid (Ot04.out.below hb5)
  have Ot15 := Lib.hid (Ot14.out.below hb5)
  have Ox05 := Lib.hid (Ox04.out.below hb5)
  have Ox15 := Lib.hid (OwnIn.new ho)
  clear hb5 Ot04 Ot14 Ox04 ho
  go_wp2_with fail
  refine (HIM.out _ _ _ _ _ _ _ Ox05.out.rd Ox15.out.rd (by omega)).mono ?_
  rintro e w6 ⟨rfl, hb6⟩
  have b6 : Below w.heap.size w w6 := b5.trans (hb6.mono b5.size)
  have s6 := hb6.size
  have Ot06 := Lib.hid (Ot05.out.below hb6)
  have Ot16 := Lib.hid (Ot15.out.below hb6)
  have Ox06 := Lib.hid (Ox05.out.below hb6)
  have Ox16 := Lib.hid (Ox15.out.below hb6)
  clear hb6 Ot05 Ot15 Ox05 Ox15
  go_wp2_with fail
  refine (toPrS_any A n c ps _ (HA.out.below b6) (by omega)).mono ?_
  rintro e w7 ⟨gy0, rfl, ho, hb7⟩
  have b7 : Below w.heap.size w w7 := b6.trans (hb7.mono b6.size)
  have s7 := hb7.size
  have Ot07 := Lib.hid (Ot06.out.below hb7)
  have Ot17 := Lib.hid (Ot16.out.below hb7)
  have Ox07 := Lib.hid (Ox06.out.below hb7)
  have Ox17 := Lib.hid (Ox16.out.below hb7)
  have Oy07 := Lib.hid (OwnIn.new ho)
  clear hb7 Ot06 Ot16 Ox06 Ox16 ho
  go_wp2_with fail
  refine (eqPrS_any _ _ _ ps _ _ _ ps _ Ox07.out.rd Oy07.out.rd).mono ?_
  rw [eqG_self]
  rintro e w8 ⟨rfl, hb8⟩
  have b8 : Below w.heap.size w w8 := b7.trans (hb8.mono b7.size)
  have s8 := hb8.size
  have Ot08 := Lib.hid (Ot07.out.below hb8)
  have Ot18 := Lib.hid (Ot17.out.below hb8)
  have Ox08 := Lib.hid (Ox07.out.below hb8)
  have Ox18 := Lib.hid (Ox17.out.below hb8)
  have Oy08 := Lib.hid (Oy07.out.below hb8)
  clear hb8 Ot07 Ot17 Ox07 Ox17 Oy07
  go_wp2_with fail
  refine (toInt64S_any B m d os _ (HB.out.below b8) (by omega)).mono ?_
  rintro e w9 ⟨gy1, rfl, ho, hb9⟩
  have b9 : Below w.heap.size w w9 := b8.trans (hb9.mono b8.size)
  have s9 := hb9.size
  have Ot09 := Lib.hid (Ot08.out.below hb9)
  have Ot19 := Lib.hid (Ot18.out.below hb9)
  have Ox09 := Lib.hid (Ox08.out.below hb9)
  have Ox19 := Lib.hid (Ox18.out.below hb9)
  have Oy09 := Lib.hid (Oy08.out.below hb9)
  have Oy19 := Lib.hid (OwnIn.new ho)
  clear hb9 Ot08 Ot18 Ox08 Ox18 Oy08 ho
  go_wp2_with fail
  refine (eqInt64S_any _ _ _ os _ _ _ os _ Ox19.out.rd Oy19.out.rd).mono ?_
  rw [eqL_self]
  rintro e w10 ⟨rfl, hb10⟩
  have b10 : Below w.heap.size w w10 := b9.trans (hb10.mono b9.size)
  have s10 := hb10.size
  have Ot010 := Lib.hid (Ot09.out.below hb10)
  have Ot110 := Lib.hid (Ot19.out.below hb10)
  have Ox010 := Lib.hid (Ox09.out.below hb10)
  have Ox110 := Lib.hid (Ox19.out.below hb10)
  have Oy010 := Lib.hid (Oy09.out.below hb10)
  have Oy110 := Lib.hid (Oy19.out.below hb10)
  clear hb10 Ot09 Ot19 Ox09 Ox19 Oy09 Oy19
  go_wp2_with fail
  go_ret
  exact ⟨rfl, b10⟩

set_option maxRecDepth 100000 in
set_option maxHeartbeats 8000000 in
theorem law_IdleOf (A : Option Addr) (n c : Nat) (ps : List (Int × Int)) (B : Option Addr) (m d : Nat) (os : List Int) (w : World) (hA : Rd w 2 A n c (pr ps)) (hB : Rd w 1 B m d (ints os)) :
    Calls Try.prog 10 #[.slice A n c, .slice B m d] w fun e w' => e = .returned (.bool true) ∧ Below w.heap.size w w' := by
  have eA1 := hA.cap
  have eA2 := hA.max
  have eB1 := hB.cap
  have eB2 := hB.max
  have lA := hA.plen
  have lB := hB.ilen
  have hsp := fun A n c B m d W h1 h2 => specIdleOf_any A n c ps B m d os W h1 h2
  have him := fun A n c B m d W h1 h2 hm => implIdleOf_any A n c ps B m d os W h1 h2 hm
  generalize (idleZ ps os).1 = R at *
  generalize (idleZ ps os).2 = z at *
  have HA := Lib.hid hA
  have HB := Lib.hid hB
  have HSP := Lib.hid hsp
  have HIM := Lib.hid him
  clear hA hB hsp him lA lB
  by_cases gB : (1048576 : Int) < (m : Int)
  · go_enter Try.func10, Try.ntmps10
    go_wp2
    go_ret
    exact ⟨rfl, Below.refl _ _⟩
  by_cases gA : (1048576 : Int) < (n : Int)
  · go_enter Try.func10, Try.ntmps10
    go_wp2_with fail
    refine (szPrS_any _ _ _ _ _ (by omega) (by omega) (by omega)).mono ?_
    rw [if_pos (by omega)]
    rintro e w' ⟨rfl, rfl⟩
    go_wp2
    go_ret
    exact ⟨rfl, Below.refl _ _⟩
  have b0 : Below w.heap.size w w := Below.refl _ _
  go_enter Try.func10, Try.ntmps10
  go_wp2_with fail
  refine (szPrS_any _ _ _ _ _ (by omega) (by omega) (by omega)).mono ?_
  rw [if_neg (by omega)]
  rintro e w' ⟨rfl, rfl⟩
  have sA : ¬ 1048576 - (n : Int) < 0 := by omega
  go_wp2_with fail
  refine (toPrS_any A n c ps _ (HA.out.below b0) (by omega)).mono ?_
  rintro e w1 ⟨gt0, rfl, ho, hb1⟩
  have b1 : Below w.heap.size w w1 := b0.trans (hb1.mono b0.size)
  have s1 := hb1.size
  have Ot01 := Lib.hid (OwnIn.new ho)
  clear hb1 ho
  go_wp2_with fail
  refine (toInt64S_any B m d os _ (HB.out.below b1) (by omega)).mono ?_
  rintro e w2 ⟨gt1, rfl, ho, hb2⟩
  have b2 : Below w.heap.size w w2 := b1.trans (hb2.mono b1.size)
  have s2 := hb2.size
  have Ot02 := Lib.hid (Ot01.out.below hb2)
  have Ot12 := Lib.hid (OwnIn.new ho)
  clear hb2 Ot01 ho
  go_wp2_with fail
  refine (HSP.out _ _ _ _ _ _ _ Ot02.out.rd Ot12.out.rd).mono ?_
  rintro e w3 ⟨rfl, hb3⟩
  have b3 : Below w.heap.size w w3 := b2.trans (hb3.mono b2.size)
  have s3 := hb3.size
  have Ot03 := Lib.hid (Ot02.out.below hb3)
  have Ot13 := Lib.hid (Ot12.out.below hb3)
  clear hb3 Ot02 Ot12
  go_wp2_with fail
  refine (toPrS_any A n c ps _ (HA.out.below b3) (by omega)).mono ?_
  rintro e w4 ⟨gx0, rfl, ho, hb4⟩
  have b4 : Below w.heap.size w w4 := b3.trans (hb4.mono b3.size)
  have s4 := hb4.size
  have Ot04 := Lib.hid (Ot03.out.below hb4)
  have Ot14 := Lib.hid (Ot13.out.below hb4)
  have Ox04 := Lib.hid (OwnIn.new ho)
  clear hb4 Ot03 Ot13 ho
  go_wp2_with fail
  refine (toInt64S_any B m d os _ (HB.out.below b4) (by omega)).mono ?_
  rintro e w5 ⟨gx1, rfl, ho, hb5⟩
  have b5 : Below w.heap.size w w5 := b4.trans (hb5.mono b4.size)
  have s5 := hb5.size
  have Ot05 := Lib.hid (Ot04.out.below hb5)
  have Ot15 := Lib.hid (Ot14.out.below hb5)
  have Ox05 := Lib.hid (Ox04.out.below hb5)
  have Ox15 := Lib.hid (OwnIn.new ho)
  clear hb5 Ot04 Ot14 Ox04 ho
  go_wp2_with fail
  refine (HIM.out _ _ _ _ _ _ _ Ox05.out.rd Ox15.out.rd (by omega)).mono ?_
  rintro e w6 ⟨rfl, hb6⟩
  have b6 : Below w.heap.size w w6 := b5.trans (hb6.mono b5.size)
  have s6 := hb6.size
  have Ot06 := Lib.hid (Ot05.out.below hb6)
  have Ot16 := Lib.hid (Ot15.out.below hb6)
  have Ox06 := Lib.hid (Ox05.out.below hb6)
  have Ox16 := Lib.hid (Ox15.out.below hb6)
  clear hb6 Ot05 Ot15 Ox05 Ox15
  go_wp2_with fail
  refine (toPrS_any A n c ps _ (HA.out.below b6) (by omega)).mono ?_
  rintro e w7 ⟨gy0, rfl, ho, hb7⟩
  have b7 : Below w.heap.size w w7 := b6.trans (hb7.mono b6.size)
  have s7 := hb7.size
  have Ot07 := Lib.hid (Ot06.out.below hb7)
  have Ot17 := Lib.hid (Ot16.out.below hb7)
  have Ox07 := Lib.hid (Ox06.out.below hb7)
  have Ox17 := Lib.hid (Ox16.out.below hb7)
  have Oy07 := Lib.hid (OwnIn.new ho)
  clear hb7 Ot06 Ot16 Ox06 Ox16 ho
  go_wp2_with fail
  refine (eqPrS_any _ _ _ ps _ _ _ ps _ Ox07.out.rd Oy07.out.rd).mono ?_
  rw [eqG_self]
  rintro e w8 ⟨rfl, hb8⟩
  have b8 : Below w.heap.size w w8 := b7.trans (hb8.mono b7.size)
  have s8 := hb8.size
  have Ot08 := Lib.hid (Ot07.out.below hb8)
  have Ot18 := Lib.hid (Ot17.out.below hb8)
  have Ox08 := Lib.hid (Ox07.out.below hb8)
  have Ox18 := Lib.hid (Ox17.out.below hb8)
  have Oy08 := Lib.hid (Oy07.out.below hb8)
  clear hb8 Ot07 Ot17 Ox07 Ox17 Oy07
  go_wp2_with fail
  refine (toInt64S_any B m d os _ (HB.out.below b8) (by omega)).mono ?_
  rintro e w9 ⟨gy1, rfl, ho, hb9⟩
  have b9 : Below w.heap.size w w9 := b8.trans (hb9.mono b8.size)
  have s9 := hb9.size
  have Ot09 := Lib.hid (Ot08.out.below hb9)
  have Ot19 := Lib.hid (Ot18.out.below hb9)
  have Ox09 := Lib.hid (Ox08.out.below hb9)
  have Ox19 := Lib.hid (Ox18.out.below hb9)
  have Oy09 := Lib.hid (Oy08.out.below hb9)
  have Oy19 := Lib.hid (OwnIn.new ho)
  clear hb9 Ot08 Ot18 Ox08 Ox18 Oy08 ho
  go_wp2_with fail
  refine (eqInt64S_any _ _ _ os _ _ _ os _ Ox19.out.rd Oy19.out.rd).mono ?_
  rw [eqL_self]
  rintro e w10 ⟨rfl, hb10⟩
  have b10 : Below w.heap.size w w10 := b9.trans (hb10.mono b9.size)
  have s10 := hb10.size
  have Ot010 := Lib.hid (Ot09.out.below hb10)
  have Ot110 := Lib.hid (Ot19.out.below hb10)
  have Ox010 := Lib.hid (Ox09.out.below hb10)
  have Ox110 := Lib.hid (Ox19.out.below hb10)
  have Oy010 := Lib.hid (Oy09.out.below hb10)
  have Oy110 := Lib.hid (Oy19.out.below hb10)
  clear hb10 Ot09 Ot19 Ox09 Ox19 Oy09 Oy19
  go_wp2_with fail
  go_ret
  exact ⟨rfl, b10⟩

end Go.Proofs.Ytfjmohnlllbgmaa
