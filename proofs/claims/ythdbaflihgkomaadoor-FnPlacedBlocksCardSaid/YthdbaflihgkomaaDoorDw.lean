/- Decimals: the reference's l01Dec at a positive number. -/
import Derived.Test.YthdbaflihgkomaaDoorHf
import Derived.Test.YthdbaflihgkomaaDoorDc
namespace Go.Proofs.YthdbaflihgkomaaDoor
open Go.RowKit Go.Shelf

set_option maxRecDepth 100000 in
set_option maxHeartbeats 2000000 in
theorem l01Dec_any (k : Nat) (w : World) (h0 : 0 < k) (h1 : k ≤ 100000) :
    Calls Tryd.prog 27 #[.int .i64 k] w fun e w' => e = .returned (.string ⟨(Go.Lib.decDigits k).toArray⟩) ∧ Below w.heap.size w w' := by
  obtain ⟨i8, gi, gz0, gz1, gz2⟩ := info_parts info_u8
  have hstr := decA_str h0
  obtain ⟨R, hR⟩ : ∃ R, decA k [] = R := ⟨_, rfl⟩
  rw [hR] at hstr
  have hRl : R ≠ [] := by
    intro e
    have h2 := decA_dec k k [] (Nat.le_refl _) h0
    rw [hR, e] at h2
    have h3 := congrArg List.length h2
    rw [List.length_append, Go.Lib.decDigits_length] at h3
    simp at h3
    have : 0 < Go.Lib.nDigits k := Go.Lib.nDigits_pos k
    omega
  have HSTR := Lib.hid hstr
  have HR := Lib.hid hR
  have ha : Below w.heap.size w (w.alloc (.cells #[] 5)) := (Below.refl _ _).alloc (Nat.le_refl _) _
  have HO0 := Lib.hid (show (w.alloc (.cells #[] 5)).ownsRow w.heap.size 5 1 (.slice (some ⟨w.heap.size, 0, none⟩) 0 0) 0 (bys []) from World.ownsRow_made w #[] 0 (Nat.le_refl _) (by unfold maxLen; omega) rfl)
  have HB0 := Lib.hid ha
  have hk0 : (0 : Int) < (k : Int) := by omega
  clear hstr hR ha
  go_enter Tryd.func27, Tryd.ntmps27
  go_wp2
  go_loopw [3, 4] (fun vo vk wr => ∃ (q l g c : Nat) (L : List Int), vk = .int .i64 q ∧ vo = .slice (some ⟨g, 0, none⟩) l c ∧ l = L.length ∧ l + q ≤ k ∧ Hid (decA q L = R) ∧ Hid (wr.ownsRow w.heap.size 5 1 (.slice (some ⟨g, 0, none⟩) l c) l (bys L)) ∧ Hid (Below w.heap.size w wr)) (fun _ vk _ => (intOf vk).toNat)
  case atStart => exact ⟨k, 0, _, 0, [], rfl, rfl, rfl, by omega, HR, HO0, HB0⟩
  case round =>
    clear HO0 HB0 HR
    obtain ⟨q, l, g, c, L, rfl, rfl, hl, hlk, HD, HO, HB⟩ := hrel
    have hcap := (Rd.of_own HO.out).cap
    have hmax := (Rd.of_own HO.out).max
    have s1 := HB.out.size
    by_cases hq : 0 < q
    · have hq0 : ((q : Int) != 0) = true := by simp; omega
      have hm0 : ¬ (q : Int) % 10 < 0 := by omega
      have hm1 : 0 ≤ (q : Int) % 10 ∧ (q : Int) % 10 ≤ 9 := by omega
      have hd1 : 0 ≤ (q : Int) / 10 := by omega
      have hdec := HD.out
      rw [decA_pos hq] at hdec
      have hmod : ((q % 10 : Nat) : Int) = (q : Int) % 10 := by omega
      have hdiv : ((q / 10 : Nat) : Int) = (q : Int) / 10 := by omega
      rw [hmod] at hdec
      have HDE := Lib.hid hdec
      have HDV := Lib.hid hdiv
      have hnb : [.int .u8 (48 + (q : Int) % 10)] ++ bys L = bys ((48 + (q : Int) % 10) :: L) := rfl
      have HNB := Lib.hid hnb
      clear hdec hmod hdiv hnb
      go_wp2_with (at_builtin; refine wpList_append_own_at _ rfl (.tmp 21) (.tmp 22) 29 rfl w.heap.size 5 i8 (.int .u8 0) 1 1 Tryd.underlying29 gi gz0 gz1 gz2 rfl (by decide) (Value.slice (some ⟨wr.heap.size, 0, none⟩) 1 1) 1 [.int .u8 (48 + (q : Int) % 10)] rfl (World.ownsRow_lit (base := w.heap.size) (e := 5) (size := 1) wr #[.int .u8 (48 + (q : Int) % 10)] 1 s1 (by unfold maxLen; omega) rfl) ⟨g, 0, none⟩ l c (bys L) rfl (by rw [bys_len, hl]; omega) (fun j u hj => (HO.out.alloc _).cells rfl j u hj) (by intro u hu; obtain ⟨z, _, rfl⟩ := List.mem_map.1 hu; rfl) (by unfold maxLen; omega) (by omega) (by simp; omega) ?_; intro v' wa hown' hga hdel hblk; clear hdel hblk)
      obtain ⟨g3, d3, hv, hg3, _⟩ := own_form hown' (by omega)
      subst hv
      have hal : Below wr.heap.size wr (wr.alloc (.cells #[.int .u8 (48 + (q : Int) % 10)] 5)) := (Below.refl _ _).alloc (Nat.le_refl _) _
      have hb3 : Below w.heap.size w wa := (HB.out.trans (hal.mono s1)).grown hga (by simp; omega) (fun j hj => by simp [Value.ownBlock] at hj; omega)
      rw [HNB.out] at hown'
      have HO3 := Lib.hid hown'
      have HB3 := Lib.hid hb3
      clear hown' hga hal hb3 HO HB
      go_wp2
      go_roundw
      case rel => exact ⟨q / 10, 1 + l, g3, d3, (48 + (q : Int) % 10) :: L, by rw [HDV.out], rfl, by rw [List.length_cons, hl]; omega, by omega, HDE, HO3, HB3⟩
      case measure => simp [intOf]; omega
    · have hq0 : q = 0 := by omega
      subst hq0
      have hdec := HD.out
      rw [decA_zero] at hdec
      subst hdec
      subst hl
      have hz0 : (((0 : Nat) : Int) != 0) = false := by simp
      have hne : ((L.length : Int) == 0) = false := by
        have : L.length ≠ 0 := fun e => hRl (List.eq_nil_of_length_eq_zero e)
        simp; omega
      have hcv := run_convert_bytes_arg (P := Tryd.prog) wr 29 5 Tryd.underlying29 Tryd.underlying5 g 0 L.length c L rfl (own_bys HO.out) 9 Tryd.underlying9
      rw [HSTR.out] at hcv
      clear HO
      go_wp2
      go_ret
      exact ⟨rfl, HB.out⟩
end Go.Proofs.YthdbaflihgkomaaDoor
