/- BlocksText (program and reference). -/
import Derived.Test.YthdbaflihgkomaaDoorJn
import Derived.Test.YthdbaflihgkomaaDoorVb
namespace Go.Proofs.YthdbaflihgkomaaDoor
open Go.RowKit Go.Shelf

def sepX : ByteArray := ⟨#[120]⟩
def sepB : ByteArray := ⟨#[32]⟩
def colB : ByteArray := ⟨#[58]⟩
def blkT (p : Int × Int) : ByteArray := dk p.1 ++ (sepX ++ dk p.2)
def bkL (roll : Int) (ps : List (Int × Int)) : List ByteArray := (dk roll ++ colB) :: ps.map blkT
/-- What both answer. -/
def bkT (ps : List (Int × Int)) (roll : Int) : ByteArray := if blocksB ps roll = true then jnT (bkL roll ps) sepB else ⟨#[]⟩
theorem blkT_size {p : Int × Int} (h1 : p.1 ≤ 100000) (h2 : p.2 ≤ 100000) : (blkT p).size ≤ 13 := by
  have a := dk_size h1
  have b := dk_size h2
  unfold blkT
  rw [ByteArray.size_append, ByteArray.size_append]
  have : sepX.size = 1 := rfl
  omega
theorem bkL_take {roll : Int} {ps : List (Int × Int)} {k : Nat} {p : Int × Int} (h : ps[k]? = some p) : bkL roll (ps.take (k + 1)) = bkL roll (ps.take k) ++ [blkT p] := by
  unfold bkL
  rw [List.take_add_one, h]
  simp
theorem bkL_snoc {roll : Int} {ps : List (Int × Int)} {k : Nat} {p : Int × Int} (h : ps[k]? = some p) : jnT (bkL roll (ps.take (k + 1))) sepB = jnT (bkL roll (ps.take k)) sepB ++ (((sepB ++ dk p.1) ++ sepX) ++ dk p.2) := by
  rw [bkL_take h, jnT_snoc _ _ _ (by simp [bkL])]
  simp only [blkT, bytes_assoc]
theorem bkL_size {roll : Int} {ps : List (Int × Int)} (h : BOk ps roll) (k : Nat) : (jnT (bkL roll (ps.take k)) sepB).size ≤ 140 := by
  have h1 := jnT_size (bkL roll (ps.take k)) sepB 13 (fun s hs => by
    unfold bkL at hs
    rcases List.mem_cons.1 hs with e | hm
    · subst e
      have := dk_size (z := roll) (by have := h.r1; omega)
      rw [ByteArray.size_append]
      have : colB.size = 1 := rfl
      omega
    · obtain ⟨p, hp, rfl⟩ := List.mem_map.1 hm
      obtain ⟨j, hj⟩ := List.getElem?_of_mem (List.mem_of_mem_take hp)
      have hb := h.blk j p hj
      have := h.r1
      exact blkT_size (by omega) (by omega))
  have h2 : (bkL roll (ps.take k)).length ≤ 10 := by
    unfold bkL
    have := h.len
    simp only [List.length_cons, List.length_map, List.length_take]
    omega
  have h3 : sepB.size = 1 := rfl
  rw [h3] at h1
  omega

set_option maxRecDepth 100000 in
set_option maxHeartbeats 4000000 in
theorem numbersText_any (g c : Nat) (a b : Int) (w : World) (hc1 : w.cell? ⟨g, 0, none⟩ = some (.int .i64 a)) (hc2 : w.cell? ⟨g, 1, none⟩ = some (.int .i64 b)) (a0 : 1 ≤ a) (a1 : a ≤ 100000) (b0 : 1 ≤ b) (b1 : b ≤ 100000) (B : Nat) (ht : PowT B w) (hB : B ≤ w.heap.size) :
    Calls Tryd.prog 31 #[.string ⟨#[120]⟩, .slice (some ⟨g, 0, none⟩) 2 c] w fun e w' => e = .returned (.string (blkT (a, b))) ∧ Below w.heap.size w w' := by
  obtain ⟨i0, hi, hz0, hz1, hz2⟩ := info_parts info_str
  have hgl := World.block_lt_of_cell? _ _ hc1
  have hC : ∀ k : Nat, k < 2 → w.cell? ⟨g, k, none⟩ = some (.int .i64 (if k = 0 then a else b)) := fun k hk => by
    by_cases h0 : k = 0
    · subst h0; exact hc1
    · obtain rfl : k = 1 := by omega
      exact hc2
  have hD : ∀ (k : Nat) (W : World), Below w.heap.size w W → Calls Tryd.prog 30 #[.int .i64 (if k = 0 then a else b)] W fun e w' => e = .returned (.string (dk (if k = 0 then a else b))) ∧ Below W.heap.size W w' := fun k W hW => by
    refine decI_any _ W ?_ ?_ B (ht.on (hW.mono hB))
    · split <;> omega
    · split <;> omega
  have hLS : ∀ k : Nat, txs ((List.range k).map fun j => dk (if j = 0 then a else b)) ++ [.string (dk (if k = 0 then a else b))] = txs ((List.range (k + 1)).map fun j => dk (if j = 0 then a else b)) := fun k => by
    rw [List.range_succ, List.map_append, txs_append]; rfl
  have hL2 : (List.range 2).map (fun j => dk (if j = 0 then a else b)) = [dk a, dk b] := rfl
  have ha : Below w.heap.size w (w.alloc (.cells #[] 9)) := (Below.refl _ _).alloc (Nat.le_refl _) _
  have HO := Lib.hid (show (w.alloc (.cells #[] 9)).ownsRow w.heap.size 9 1 (.slice (some ⟨w.heap.size, 0, none⟩) 0 0) 0 (txs ((List.range 0).map fun j => dk (if j = 0 then a else b))) from World.ownsRow_made w #[] 0 (Nat.le_refl _) (by unfold maxLen; omega) rfl)
  have hJ : ∀ (go co : Nat) (W : World), W.ownsRow w.heap.size 9 1 (.slice (some ⟨go, 0, none⟩) 2 co) 2 (txs ((List.range 2).map fun j => dk (if j = 0 then a else b))) → Calls Tryd.prog 32 #[.slice (some ⟨go, 0, none⟩) 2 co, .string ⟨#[120]⟩] W fun e w' => e = .returned (.string (blkT (a, b))) ∧ Below W.heap.size W w' := fun go co W h => by
    rw [hL2] at h
    have := joinS_any (some ⟨go, 0, none⟩) 2 co [dk a, dk b] sepX W (Rd.of_own h) (by omega) (by
      have h1 := blkT_size (p := (a, b)) a1 b1
      rw [jnT_two]
      exact Nat.le_trans h1 (by omega))
    rw [jnT_two] at this
    exact this
  have HB := Lib.hid ha
  have HC := Lib.hid hC
  have HD := Lib.hid hD
  have HLS := Lib.hid hLS
  have HJ := Lib.hid hJ
  clear hC hD hLS hL2 ha hJ hc1 hc2 ht a0 a1 b0 b1
  generalize hF : (fun j : Nat => dk (if j = 0 then a else b)) = F at *
  have HF : ∀ k : Nat, dk (if k = 0 then a else b) = F k := fun k => congrFun hF k
  have HFH := Lib.hid HF
  clear hF HF
  go_enter Tryd.func31, Tryd.ntmps31
  go_wp2
  go_loopw [5, 7, 11] (fun vo _ vi wr => ∃ (k go co : Nat), k ≤ 2 ∧ vi = .int .i64 k ∧ vo = .slice (some ⟨go, 0, none⟩) k co ∧ Hid (wr.ownsRow w.heap.size 9 1 (.slice (some ⟨go, 0, none⟩) k co) k (txs ((List.range k).map F))) ∧ Hid (Below w.heap.size w wr)) (fun _ _ vi _ => 2 - (intOf vi).toNat)
  case atStart => exact ⟨0, _, _, Nat.zero_le _, rfl, rfl, HO, HB⟩
  case round =>
    clear HO HB
    obtain ⟨k, go, co, hk, rfl, rfl, HO, HB⟩ := hrel
    have hcap2 := (Rd.of_own HO.out).cap
    have hmax2 := (Rd.of_own HO.out).max
    have hs := HB.out.size
    by_cases hlt : k < 2
    · have hcell := (HB.out.cell (p := ⟨g, k, none⟩) hgl).trans (HC.out k hlt)
      have hD := HD.out k wr HB.out
      have hls := HLS.out k
      rw [HFH.out k] at hD hls
      generalize (if k = 0 then a else b) = x at *
      have HD1 := Lib.hid hD
      have HLS1 := Lib.hid hls
      have hk2 : (k : Int) < 2 := by omega
      have hk0 : (0 : Int) ≤ (k : Int) := by omega
      clear hD hls
      go_wp2_with fail
      refine (HD1.out).mono ?_
      rintro e w1 ⟨rfl, hb1⟩
      have HO1 := Lib.hid (own_below HO.out hb1)
      have HB1 := Lib.hid (HB.out.trans (hb1.mono hs))
      have hs1 := HB1.out.size
      generalize F k = t at *
      clear hb1 HO HB hcell
      go_wp2_with (at_builtin; refine wpList_append_own_at _ rfl (.tmp 15) (.tmp 18) 54 rfl w.heap.size 9 i0 (.string ByteArray.empty) 1 16 Tryd.underlying54 hi hz0 hz1 hz2 rfl (by decide) (Value.slice (some ⟨go, 0, none⟩) k co) _ _ rfl (HO1.out.alloc _) ⟨_, 0, none⟩ 1 1 [.string t] rfl rfl (cell_one_new _ _ _) (by intro u hu; simp at hu; subst hu; rfl) (by unfold maxLen; omega) (by omega) (by simp; omega) ?_; intro v' wa hown' hga hdel hblk; clear hdel)
      have hal : Below w1.heap.size w1 (w1.alloc (.cells #[.string t] 9)) := (Below.refl _ _).alloc (Nat.le_refl _) _
      obtain ⟨g3, d3, hv, hg3, _⟩ := own_form hown' (by omega)
      have hgo := (own_block HO1.out go rfl)
      have b3 : Below w.heap.size w wa := (HB1.out.trans (hal.mono hs1)).grown hga (by simp; omega) (fun j hj => by simp [Value.ownBlock] at hj; omega)
      rw [HLS1.out] at hown'
      subst hv
      have HO4 := Lib.hid hown'
      have HB4 := Lib.hid b3
      clear hown' hga hal b3 hblk
      go_wp2
      go_roundw
      case rel => exact ⟨k + 1, g3, d3, by omega, by go_num, rfl, HO4, HB4⟩
      case measure => simp [intOf]; omega
    · obtain rfl : k = 2 := by omega
      have HJ1 := Lib.hid (HJ.out go co wr HO.out)
      go_wp2_with fail
      refine (HJ1.out).mono ?_
      rintro e w1 ⟨rfl, hb1⟩
      have HB1 := Lib.hid (HB.out.trans (hb1.mono hs))
      clear hb1
      go_wp2
      go_ret
      exact ⟨rfl, HB1.out⟩
end Go.Proofs.YthdbaflihgkomaaDoor
