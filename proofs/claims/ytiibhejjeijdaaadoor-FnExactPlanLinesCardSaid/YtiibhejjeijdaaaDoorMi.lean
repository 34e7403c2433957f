/- MirrorHide: program, reference, law. Printed by mkmi.py. -/
import Derived.Test.YtiibhejjeijdaaaDoorPo
import Derived.Sort.WalkB12
import Derived.Lib.SlicesMore
import Derived.Lib.OwnBridge
import Derived.Lib.SmallJoins
import Derived.Lib.ConvBytes
import Derived.Deep.LoopGhost
namespace Go.Proofs.YtiibhejjeijdaaaDoor
open Go.RowKit
open Go.Sort (Holds putRow holds_putRow putRow_self holds_ahead reverseLoop swp size_swp)

abbrev encU : Int → Value := fun x => Value.int .u8 x
/-- The bytes of a text as numbers. -/
def byI (s : ByteArray) : List Int := s.data.toList.map fun b => (b.toNat : Int)
theorem byI_len (s : ByteArray) : (byI s).length = s.size := by unfold byI; rw [List.length_map, Array.length_toList]; rfl
theorem byI_at {s : ByteArray} {j : Nat} (hj : j < s.size) : (byI s)[j]? = some ((s[j]'hj).toNat : Int) := by
  unfold byI
  rw [List.getElem?_map, Array.getElem?_toList, Array.getElem?_eq_getElem (by simpa using hj)]
  rfl
/-- A text from its last byte to its first. -/
def mirB (s : ByteArray) : ByteArray := strOfNums (byI s).reverse
theorem mirB_size (s : ByteArray) : (mirB s).size = s.size := by unfold mirB; rw [strOfNums_size, List.length_reverse, byI_len]
def mirL (rs : List ByteArray) : List ByteArray := rs.map mirB
theorem mirL_len (rs : List ByteArray) : (mirL rs).length = rs.length := by simp [mirL]
theorem take_snocT {α : Type} {xs : List α} {k : Nat} {x : α} (h : xs[k]? = some x) : xs.take (k + 1) = xs.take k ++ [x] := by
  rw [List.take_add_one, h]; rfl
theorem mirL_at {rs : List ByteArray} {k : Nat} {r : ByteArray} (h : rs[k]? = some r) : (mirL rs)[k]? = some (mirB r) := by simp [mirL, h]

theorem bytes_size (w : World) (e : TypeId) (s : ByteArray) : s.size ≤ (Lib.bytesCells w e s).size := by
  unfold Lib.bytesCells
  rw [Array.size_append, Array.size_map]
  show s.data.size ≤ _
  omega
theorem holds_bytes (w : World) (e : TypeId) (s : ByteArray) : Holds encU (Lib.bytesWorld w e s) w.heap.size 0 (byI s).toArray := fun j hj => by
  have hj' : j < s.size := by simpa [byI_len] using hj
  constructor
  · rw [Nat.zero_add, Lib.bytesWorld_cell w e s j hj']
    have h := byI_at hj'
    have hl : j < (byI s).length := by rw [byI_len]; exact hj'
    rw [List.getElem?_eq_getElem hl] at h
    injection h with h
    rw [getElem!_pos _ j hj, List.getElem_toArray, h]
    have hd : j < s.data.toList.length := by simpa using hj'
    rw [List.getD_eq_getElem?_getD, List.getElem?_eq_getElem hd]
    rfl
  · have := bytes_size w e s
    simp only [World.frozen?, Lib.bytesWorld_at_new]
    simp
    omega
theorem Holds.cellI {w : World} {g : Nat} {xs : List Int} (h : Holds encU w g 0 xs.toArray) : ∀ i, i < xs.length → w.cell? ⟨g, 0 + i, none⟩ = some (.int .u8 (xs.getD i 0)) := fun i hi => by
  have := (h i (by simpa using hi)).1
  rw [this, getElem!_pos _ i (by simpa using hi)]
  simp [List.getD, List.getElem?_eq_getElem hi]

set_option maxRecDepth 100000 in
set_option maxHeartbeats 2000000 in
/-- slices.Reverse over bytes: the row lies the other way round. -/
theorem revU_any (g off c : Nat) (d : Array Int) (w : World) (hH : Holds encU w g off d) (hsz : d.size ≤ 9223372036854775807) :
    Calls Tryd.prog 48 #[.slice (some ⟨g, off, none⟩) d.size c] w fun e w' => e = .returned (.tuple #[]) ∧ ∃ n, w' = putRow encU (Sort.ahead w n) g off d.reverse := by
  go_enter Tryd.func48, Tryd.ntmps48
  go_wp2
  go_loopg [2, 3] d.size (fun k s2 s3 wr => ∃ (i jn : Nat) (jz : Int) (dk : Array Int) (n : Nat), s2 = .int .i64 i ∧ s3 = .int .i64 jz ∧ ((i : Int) < jz → jz = jn ∧ jn < d.size) ∧ (¬ (i : Int) < jz → ¬ i < jn) ∧ jn - i ≤ k ∧
    dk.size = d.size ∧ wr = putRow encU (Sort.ahead w n) g off dk ∧ reverseLoop i jn dk = reverseLoop 0 (d.size - 1) d)
  case atStart => exact ⟨0, d.size - 1, (d.size : Int) - 1, d, 0, rfl, rfl, fun h => ⟨by omega, by omega⟩, fun h => by omega, by omega, rfl, (putRow_self encU w g off d hH).symm, rfl⟩
  case round =>
    obtain ⟨i, jn, jz, dk, n, rfl, rfl, h1, h2, hk, hds, hwr, heq⟩ := hrel
    by_cases hlt : (i : Int) < jz
    · obtain ⟨rfl, hjn⟩ := h1 hlt
      have hij : i < jn := by omega
      have hHk : Holds encU wr g off dk := by rw [hwr]; exact holds_putRow encU _ g off d dk (holds_ahead encU w n g off d hH) hds
      obtain ⟨ci, fi⟩ := hHk i (by omega)
      obtain ⟨cj, fj⟩ := hHk jn (by omega)
      have A : Aside (wr = putRow encU (Sort.ahead w n) g off dk) := hwr
      clear hwr hHk hH h1 h2
      go_wp2_with fail
      go_region
      go_wp2
      go_roundg (jn - 1 - (i + 1))
      case measure => omega
      case rel =>
        rw [reverseLoop, if_pos hij] at heq
        exact ⟨i + 1, jn - 1, (jn : Int) - 1, swp dk i jn, n + 1, by simp, rfl, fun h => ⟨by omega, by omega⟩, fun h => by omega, Nat.le_refl _, by rw [size_swp]; exact hds,
          swap_world encU (by omega) (by omega) A.out (by first | rfl | simp [encU, getElem!_pos, show jn < dk.size by omega]) (by first | rfl | simp [encU, getElem!_pos, show i < dk.size by omega]), heq⟩
    · have hnot := h2 hlt
      go_wp2
      go_end0
      refine ⟨rfl, n, ?_⟩
      rw [reverseLoop, if_neg hnot] at heq
      rw [← Lib.reverseLoop_reverse, ← heq]
theorem revStr_any (g c : Nat) (r : ByteArray) (W : World) (hH : Holds encU W g 0 (byI r).toArray) (hsz : r.size ≤ 9223372036854775807) :
    Calls Tryd.prog 48 #[.slice (some ⟨g, 0, none⟩) r.size c] W fun e w' => e = .returned (.tuple #[]) ∧ (∀ i, i < r.size → w'.cell? ⟨g, 0 + i, none⟩ = some (.int .u8 ((byI r).reverse.getD i 0))) ∧ (∀ B, B ≤ g → Below B W w') := by
  have hl : (byI r).toArray.size = r.size := by simp [byI_len]
  have h := revU_any g 0 c (byI r).toArray W hH (by omega)
  rw [hl] at h
  refine h.mono ?_
  rintro e w' ⟨rfl, n, rfl⟩
  refine ⟨rfl, fun i hi => ?_, fun B hB => Lib.below_putRow (Below.refl _ _) hB⟩
  have hh := holds_putRow encU _ g 0 (byI r).toArray (byI r).toArray.reverse (holds_ahead encU W n g 0 _ hH) (by simp)
  have e : (byI r).toArray.reverse = (byI r).reverse.toArray := by simp
  rw [e] at hh ⊢
  exact Holds.cellI hh i (by rw [List.length_reverse, byI_len]; exact hi)

def StrPost (w : World) (R : List ByteArray) (z : Int) (e : Ending) (w' : World) : Prop :=
  ∃ A n c, e = .returned (.tuple #[.slice A n c, .int .i64 z]) ∧ w'.ownsRow w.heap.size 9 1 (.slice A n c) n (txs R) ∧ Below w.heap.size w w'
theorem strPost_nil {w w' : World} {z : Int} (hb : Below w.heap.size w w') : StrPost w [] z (.returned (.tuple #[.slice none 0 0, .int .i64 z])) w' :=
  ⟨none, 0, 0, rfl, World.ownsRow_nil _ _ _ _, hb⟩
noncomputable def miZ (rs : List ByteArray) : List ByteArray × Int := if hidB rs = true then (mirL rs, 0) else ([], 1)
theorem miZ_len (rs : List ByteArray) : (miZ rs).1.length ≤ 1048576 ∧ ∀ s ∈ (miZ rs).1, s.size ≤ 1048576 := by
  unfold miZ
  split
  · rename_i hq
    have hg := (hidB_true hq).grid rfl
    refine ⟨by rw [mirL_len]; have := hg.bn; omega, fun s hs => ?_⟩
    obtain ⟨r, hr, rfl⟩ := List.mem_map.1 (show s ∈ rs.map mirB from hs)
    obtain ⟨k, hk⟩ := List.getElem?_of_mem hr
    have := hg.sz k r hk
    have := hg.bm
    rw [mirB_size]; omega
  · exact ⟨by simp, fun s hs => absurd hs (by simp)⟩

set_option maxRecDepth 100000 in
set_option maxHeartbeats 4000000 in
theorem implMirror_any (A : Option Addr) (n c : Nat) (rs : List ByteArray) (w : World) (h : Rd w 1 A n c (txs rs)) (hs : ∀ s ∈ rs, s.size ≤ 9223372036854775807) :
    Calls Tryd.prog 14 #[.slice A n c] w (StrPost w (miZ rs).1 (miZ rs).2) := by
  obtain ⟨i0, hi, hz0, hz1, hz2⟩ := info_parts info_str
  have hl := h.tlen
  have h1 := h.cap
  have h2 := h.max
  have hcall := implValidHide_any A n c rs w h hs
  unfold miZ
  cases hq : hidB rs with
  | false =>
    rw [if_neg (by simp)]
    rw [hq] at hcall
    have HC := Lib.hid hcall
    clear hcall h hs hl hq
    go_enter Tryd.func14, Tryd.ntmps14
    go_wp2_with fail
    refine (HC.out).mono ?_
    rintro e w1 ⟨rfl, hb1⟩
    have Hb1 := Lib.hid hb1
    clear hb1
    go_wp2
    go_ret2
    exact strPost_nil Hb1.out
  | true =>
    rw [if_pos rfl]
    rw [hq] at hcall
    have hg := (hidB_true hq).grid hl
    have hn6 := hg.bn
    have HC := Lib.hid hcall
    have HH := Lib.hid h
    have HL := Lib.hid hl
    have HS := Lib.hid hs
    have hml : (mirL rs).length = n := by rw [mirL_len, hl]
    have HML := Lib.hid hml
    clear hcall h hs hl hq hg hml
    go_enter Tryd.func14, Tryd.ntmps14
    go_wp2_with fail
    refine (HC.out).mono ?_
    rintro e w1 ⟨rfl, hb1⟩
    have hs1 := hb1.size
    have ha : Below w1.heap.size w1 (w1.alloc (.cells #[] 9)) := (Below.refl _ _).alloc (Nat.le_refl _) _
    have HO2 := Lib.hid (show (w1.alloc (.cells #[] 9)).ownsRow w.heap.size 9 1 (.slice (some ⟨w1.heap.size, 0, none⟩) 0 0) 0 (txs ((mirL rs).take 0)) from World.ownsRow_made w1 #[] 0 hs1 (by unfold maxLen; omega) rfl)
    have HB2 := Lib.hid (hb1.trans (ha.mono hs1))
    clear hb1 ha
    go_wp2
    go_loopw [4, 14] (fun vo vk wr => ∃ (k go co : Nat), k ≤ n ∧ vk = .int .i64 k ∧ vo = .slice (some ⟨go, 0, none⟩) k co ∧ Hid (wr.ownsRow w.heap.size 9 1 (.slice (some ⟨go, 0, none⟩) k co) k (txs ((mirL rs).take k))) ∧ Hid (Below w.heap.size w wr)) (fun _ vk _ => n - (intOf vk).toNat)
    case atStart => exact ⟨0, _, _, Nat.zero_le _, rfl, rfl, HO2, HB2⟩
    case round =>
      clear HO2 HB2
      obtain ⟨k, go, co, hk, rfl, rfl, HO, HB⟩ := hrel
      have hgb := (own_block HO.out go rfl)
      have hcap := (Rd.of_own HO.out).cap
      have hmax := (Rd.of_own HO.out).max
      have hs := HB.out.size
      by_cases hlt : k < n
      · have hk0 : (0 : Int) ≤ (k : Int) := by omega
        have hk1 : (k : Int) < (n : Int) := by omega
        obtain ⟨b, o, r, hA, hbl, hx, c0⟩ := (HH.out.below HB.out).txt hlt
        subst hA
        have hr := HS.out r (List.mem_of_getElem? hx)
        have hnx : txs ((mirL rs).take k) ++ [.string (mirB r)] = txs ((mirL rs).take (k + 1)) := by rw [take_snocT (mirL_at hx), txs_append]; rfl
        have HNX := Lib.hid hnx
        have hcv := Lib.run_convert_string_bytes (P := Tryd.prog) wr 9 29 5 r (u := .string) Tryd.underlying9 Tryd.underlying29 Tryd.underlying5
        have hbw := Joins.below_bytesWorld wr.heap.size wr 5 r (Nat.le_refl _)
        have hH := holds_bytes wr 5 r
        generalize Lib.bytesWorld wr 5 r = W1 at *
        generalize grownCap wr r.size 0 5 = c1 at *
        have HR := Lib.hid (revStr_any wr.heap.size c1 r W1 hH hr)
        have HBW := Lib.hid hbw
        clear hx hnx hH hbw
        go_wp2_with (go_at_call 48; refine (HR.out).mono ?_; rintro e w2 ⟨rfl, hc2, hb2⟩)
        have hcv2 := run_convert_bytes_arg (P := Tryd.prog) w2 29 5 Tryd.underlying29 Tryd.underlying5 wr.heap.size 0 r.size c1 (byI r).reverse (by rw [List.length_reverse, byI_len]) hc2 9 Tryd.underlying9
        have hm : mirB r = strOfNums (byI r).reverse := rfl
        rw [← hm] at hcv2
        have hbb := HBW.out.trans (hb2 _ (Nat.le_refl _))
        have hs2 := hbb.size
        have HO2 := Lib.hid (own_below HO.out hbb)
        have hbw2 := HB.out.trans (hbb.mono hs)
        have hgb2 := (own_block HO2.out go rfl)
        have HNX2 := HNX
        generalize mirB r = r2 at *
        clear hc2 hb2 hm HR HBW hbb hcv HNX2
        have HB3 := Lib.hid hbw2
        clear hbw2
        go_wp2_with fail
        simp only [hcv2, Result.andThen]
        go_wp2_with (at_builtin; refine wpList_append_own_at _ rfl (.tmp 22) (.tmp 25) 22 rfl w.heap.size 9 i0 (.string ByteArray.empty) 1 16 Tryd.underlying22 hi hz0 hz1 hz2 rfl (by decide) (Value.slice (some ⟨go, 0, none⟩) k co) _ _ rfl (HO2.out.alloc _) ⟨_, 0, none⟩ 1 1 [.string r2] rfl rfl (cell_one_new _ _ _) (by intro u hu; simp at hu; subst hu; rfl) (by unfold maxLen; omega) (by omega) (by simp; omega) ?_; intro v' wa hown' hga hdel hblk; clear hdel)
        have hal : Below w2.heap.size w2 (w2.alloc (.cells #[.string r2] 9)) := (Below.refl _ _).alloc (Nat.le_refl _) _
        obtain ⟨g3, d3, hv, hg3, _⟩ := own_form hown' (by omega)
        have b3 : Below w.heap.size w wa := (HB3.out.trans (hal.mono (by omega))).grown hga (by simp; omega) (fun j hj => by simp [Value.ownBlock] at hj; omega)
        rw [HNX.out] at hown'
        subst hv
        have HO4 := Lib.hid hown'
        have HB4 := Lib.hid b3
        clear hown' hga hal b3 hblk
        go_wp2
        go_roundw
        case rel => exact ⟨k + 1, g3, d3, by omega, by go_num, rfl, HO4, HB4⟩
        case measure => simp [intOf]; omega
      · have hkn : n = k := by omega
        subst hkn
        go_wp2
        go_ret2
        have e : (mirL rs).take n = mirL rs := List.take_of_length_le (by rw [HML.out]; exact Nat.le_refl _)
        have ho := HO.out
        rw [e] at ho
        exact ⟨_, _, _, rfl, ho, HB.out⟩

theorem info_u8 : (Tryd.prog.info? 5).map (fun i => (i.zero, i.size, i.bytes)) = some (some (.int .u8 0), 1, 1) := by kernel_rfl
/-- Numbers as bytes. -/
def bys (L : List Int) : List Value := L.map encU
theorem bys_snoc (L : List Int) (x : Int) : bys L ++ [.int .u8 x] = bys (L ++ [x]) := by simp [bys]
theorem byRev_at {r : ByteArray} {k : Nat} (hk : k < r.size) : (byI r).reverse[k]? = some ((r[r.size - 1 - k]'(by omega)).toNat : Int) := by
  rw [List.getElem?_reverse (by rw [byI_len]; exact hk), byI_len]
  exact byI_at (by omega)
theorem own_bys {w : World} {base : Nat} {e : TypeId} {g n c : Nat} {L : List Int} (h : w.ownsRow base e 1 (.slice (some ⟨g, 0, none⟩) n c) n (bys L)) : ∀ i, i < n → w.cell? ⟨g, 0 + i, none⟩ = some (.int .u8 (L.getD i 0)) := fun i hi => by
  have hl : L.length = n := by have := h.1; simpa [bys] using this
  rw [Nat.zero_add, h.cellAt i (by omega)]
  simp [bys, List.getD, show i < L.length by omega]

set_option maxRecDepth 100000 in
set_option maxHeartbeats 4000000 in
theorem specMirror_any (A : Option Addr) (n c : Nat) (rs : List ByteArray) (w : World) (h : Rd w 1 A n c (txs rs)) (hs : ∀ s ∈ rs, s.size ≤ 9223372036854775807) :
    Calls Tryd.prog 12 #[.slice A n c] w (StrPost w (miZ rs).1 (miZ rs).2) := by
  obtain ⟨i0, hi, hz0, hz1, hz2⟩ := info_parts info_str
  obtain ⟨i8, gi, gz0, gz1, gz2⟩ := info_parts info_u8
  have hl := h.tlen
  have h1 := h.cap
  have h2 := h.max
  have hcall := l10Ok_any A n c rs w h hs
  unfold miZ
  cases hq : hidB rs with
  | false =>
    rw [if_neg (by simp)]
    rw [hq] at hcall
    have HC := Lib.hid hcall
    clear hcall h hs hl hq
    go_enter Tryd.func12, Tryd.ntmps12
    go_wp2_with fail
    refine (HC.out).mono ?_
    rintro e w1 ⟨rfl, hb1⟩
    have Hb1 := Lib.hid hb1
    clear hb1
    go_wp2
    go_ret2
    exact strPost_nil Hb1.out
  | true =>
    rw [if_pos rfl]
    rw [hq] at hcall
    have hg := (hidB_true hq).grid hl
    have hn6 := hg.bn
    have hm6 := hg.bm
    have hrow := hg.sz
    have HR := Lib.hid hrow
    have HC := Lib.hid hcall
    have HH := Lib.hid h
    have HL := Lib.hid hl
    have HS := Lib.hid hs
    have hml : (mirL rs).length = n := by rw [mirL_len, hl]
    have HML := Lib.hid hml
    clear hcall h hs hl hq hg hml hrow
    go_enter Tryd.func12, Tryd.ntmps12
    go_wp2_with fail
    refine (HC.out).mono ?_
    rintro e w1 ⟨rfl, hb1⟩
    have hs1 := hb1.size
    have ha : Below w1.heap.size w1 (w1.alloc (.cells #[] 9)) := (Below.refl _ _).alloc (Nat.le_refl _) _
    have HO2 := Lib.hid (show (w1.alloc (.cells #[] 9)).ownsRow w.heap.size 9 1 (.slice (some ⟨w1.heap.size, 0, none⟩) 0 0) 0 (txs ((mirL rs).take 0)) from World.ownsRow_made w1 #[] 0 hs1 (by unfold maxLen; omega) rfl)
    have HB2 := Lib.hid (hb1.trans (ha.mono hs1))
    clear hb1 ha
    go_wp2
    go_loopw [4, 5] (fun vo vk wr => ∃ (k go co : Nat), k ≤ n ∧ vk = .int .i64 k ∧ vo = .slice (some ⟨go, 0, none⟩) k co ∧ Hid (wr.ownsRow w.heap.size 9 1 (.slice (some ⟨go, 0, none⟩) k co) k (txs ((mirL rs).take k))) ∧ Hid (Below w.heap.size w wr)) (fun _ vk _ => n - (intOf vk).toNat)
    case atStart => exact ⟨0, _, _, Nat.zero_le _, rfl, rfl, HO2, HB2⟩
    case round =>
      clear HO2 HB2
      obtain ⟨k, go, co, hk, rfl, rfl, HO, HB⟩ := hrel
      obtain ⟨w3, rfl⟩ : ∃ w', w' = wr := ⟨_, rfl⟩
      have hgb := (own_block HO.out go rfl)
      have hcap := (Rd.of_own HO.out).cap
      have hmax := (Rd.of_own HO.out).max
      have hs := HB.out.size
      by_cases hlt : k < n
      · have hk0 : (0 : Int) ≤ (k : Int) := by omega
        have hk1 : (k : Int) < (n : Int) := by omega
        obtain ⟨b, o, r, hA, hbl, hx, c0⟩ := (HH.out.below HB.out).txt hlt
        subst hA
        have hr := HS.out r (List.mem_of_getElem? hx)
        have hnx : txs ((mirL rs).take k) ++ [.string (mirB r)] = txs ((mirL rs).take (k + 1)) := by rw [take_snocT (mirL_at hx), txs_append]; rfl
        have HNX := Lib.hid hnx
        have ha : Below w3.heap.size w3 (w3.alloc (.cells #[] 5)) := (Below.refl _ _).alloc (Nat.le_refl _) _
        have HO2 := Lib.hid (show (w3.alloc (.cells #[] 5)).ownsRow w3.heap.size 5 1 (.slice (some ⟨w3.heap.size, 0, none⟩) 0 0) 0 (bys ((byI r).reverse.take 0)) from World.ownsRow_made w3 #[] 0 (Nat.le_refl _) (by unfold maxLen; omega) rfl)
        have c1 := cell_belT c0 ha
        have HB2 := Lib.hid ha
        have HX := Lib.hid hx
        clear hnx ha hx
        go_wp2_with fail
        go_loopw [6, 7] (fun vl vx wz => ∃ (j gl cl : Nat), j ≤ r.size ∧ vl = .slice (some ⟨gl, 0, none⟩) j cl ∧ vx = .int .i64 ((r.size : Int) - 1 - j) ∧ Hid (wz.ownsRow w3.heap.size 5 1 (.slice (some ⟨gl, 0, none⟩) j cl) j (bys ((byI r).reverse.take j))) ∧ Hid (Below w3.heap.size w3 wz)) (fun _ vx _ => (intOf vx + 1).toNat)
        case atStart => exact ⟨0, _, _, Nat.zero_le _, rfl, by go_num, HO2, HB2⟩
        case round =>
          clear HO2 HB2 c1
          obtain ⟨j, gl, cl, hj, rfl, rfl, HOL, HBL⟩ := hrel
          have hgl := (own_block HOL.out gl rfl)
          have hcl := (Rd.of_own HOL.out).cap
          have hml := (Rd.of_own HOL.out).max
          have hsl := HBL.out.size
          have hr6 : r.size ≤ 6 := by have := HR.out k r HX.out; omega
          have d0 := cell_belT c0 HBL.out
          by_cases hjl : j < r.size
          · have hx0 : (0 : Int) ≤ (r.size : Int) - 1 - j := by omega
            have hx1 : (r.size : Int) - 1 - j < (r.size : Int) := by omega
            have hxn : ((r.size : Int) - 1 - j).toNat = r.size - 1 - j := by omega
            have hq : (bys ((byI r).reverse.take j)) ++ [.int .u8 ((r[r.size - 1 - j]'(by omega)).toNat : Int)] = bys ((byI r).reverse.take (j + 1)) := by rw [bys_snoc, take_snocT (byRev_at hjl)]
            have HQ := Lib.hid hq
            clear hq
            go_wp2_with (at_builtin; refine wpList_append_own_at _ rfl (.tmp 29) (.tmp 36) 29 rfl w3.heap.size 5 i8 (.int .u8 0) 1 1 Tryd.underlying29 gi gz0 gz1 gz2 rfl (by decide) (Value.slice (some ⟨gl, 0, none⟩) j cl) _ _ rfl (HOL.out.alloc _) ⟨_, 0, none⟩ 1 1 [.int .u8 ((r[r.size - 1 - j]'(by omega)).toNat : Int)] rfl rfl (cell_one_new _ _ _) (by intro u hu; simp at hu; subst hu; rfl) (by unfold maxLen; omega) (by omega) (by simp; omega) ?_; intro v' wa hown' hga hdel hblk; clear hdel)
            have hal : Below wr.heap.size wr (wr.alloc (.cells #[.int .u8 ((r[r.size - 1 - j]'(by omega)).toNat : Int)] 5)) := (Below.refl _ _).alloc (Nat.le_refl _) _
            obtain ⟨g3, d3, hv, hg3, _⟩ := own_form hown' (by omega)
            have b3 : Below w3.heap.size w3 wa := (HBL.out.trans (hal.mono (by omega))).grown hga (by simp; omega) (fun j hj => by simp [Value.ownBlock] at hj; omega)
            rw [HQ.out] at hown'
            subst hv
            have HO4 := Lib.hid hown'
            have HB4 := Lib.hid b3
            clear hown' hga hal b3 hblk
            go_wp2
            go_roundw
            case rel => exact ⟨j + 1, g3, d3, by omega, rfl, by go_num, HO4, HB4⟩
            case measure => simp [intOf]; omega
          · have hjr : j = r.size := by omega
            subst hjr
            have e : (byI r).reverse.take r.size = (byI r).reverse := List.take_of_length_le (by rw [List.length_reverse, byI_len]; exact Nat.le_refl _)
            have ho := HOL.out
            rw [e] at ho
            have hcv2 := run_convert_bytes_arg (P := Tryd.prog) wr 29 5 Tryd.underlying29 Tryd.underlying5 gl 0 r.size cl (byI r).reverse (by rw [List.length_reverse, byI_len]) (own_bys ho) 9 Tryd.underlying9
            have hm : mirB r = strOfNums (byI r).reverse := rfl
            rw [← hm] at hcv2
            have HO2 := Lib.hid (own_below HO.out HBL.out)
            have HB3 := Lib.hid (HB.out.trans (HBL.out.mono hs))
            have hgb2 := (own_block HO2.out go rfl)
            generalize mirB r = r2 at *
            clear hm ho e HOL
            go_wp2_with (at_builtin; refine wpList_append_own_at _ rfl (.tmp 38) (.tmp 41) 22 rfl w.heap.size 9 i0 (.string ByteArray.empty) 1 16 Tryd.underlying22 hi hz0 hz1 hz2 rfl (by decide) (Value.slice (some ⟨go, 0, none⟩) k co) _ _ rfl (HO2.out.alloc _) ⟨_, 0, none⟩ 1 1 [.string r2] rfl rfl (cell_one_new _ _ _) (by intro u hu; simp at hu; subst hu; rfl) (by unfold maxLen; omega) (by omega) (by simp; omega) ?_; intro v' wa hown' hga hdel hblk; clear hdel)
            have hal : Below wr.heap.size wr (wr.alloc (.cells #[.string r2] 9)) := (Below.refl _ _).alloc (Nat.le_refl _) _
            obtain ⟨g3, d3, hv, hg3, _⟩ := own_form hown' (by omega)
            have b3 : Below w.heap.size w wa := (HB3.out.trans (hal.mono (by omega))).grown hga (by simp; omega) (fun j hj => by simp [Value.ownBlock] at hj; omega)
            rw [HNX.out] at hown'
            subst hv
            have HO4 := Lib.hid hown'
            have HB4 := Lib.hid b3
            clear hown' hga hal b3 hblk
            go_wp2
            go_roundw
            case rel => exact ⟨k + 1, g3, d3, by omega, by go_num, rfl, HO4, HB4⟩
            case measure => simp [intOf]; omega
      · have hkn : n = k := by omega
        subst hkn
        go_wp2
        go_ret2
        have e : (mirL rs).take n = mirL rs := List.take_of_length_le (by rw [HML.out]; exact Nat.le_refl _)
        have ho := HO.out
        rw [e] at ho
        exact ⟨_, _, _, rfl, ho, HB.out⟩

set_option maxRecDepth 100000 in
set_option maxHeartbeats 8000000 in
theorem law_MirrorHide (A : Option Addr) (n c : Nat) (rs : List ByteArray) (w : World) (hA : Rd w 1 A n c (txs rs)) (hsA : ∀ s ∈ rs, s.size ≤ 9223372036854775807) :
    Calls Tryd.prog 3 #[.slice A n c] w fun e w' => e = .returned (.bool true) ∧ Below w.heap.size w w' := by
  have eA1 := hA.cap
  have eA2 := hA.max
  have lA := hA.tlen
  have hsp := fun A n c W h => specMirror_any A n c rs W h hsA
  have him := fun A n c W h => implMirror_any A n c rs W h hsA
  have hlen := miZ_len rs
  generalize (miZ rs).1 = R at *
  generalize (miZ rs).2 = z at *
  have HA := Lib.hid hA
  have HSA := Lib.hid hsA
  have HSP := Lib.hid hsp
  have HIM := Lib.hid him
  clear hA hsA hsp him lA
  have b0 : Below w.heap.size w w := Below.refl _ _
  have s0 := b0.size
  obtain ⟨w0, hw0⟩ : ∃ w0, w0 = w := ⟨_, rfl⟩
  go_enter Tryd.func3, Tryd.ntmps3
  go_wp2_with fail
  refine (szStringS_any A n c rs _ _ HA.out HSA.out (by omega) (by omega)).mono ?_
  rintro e wz ⟨⟨q0, rfl, hq0⟩, rfl⟩
  rcases hq0 with rfl | ⟨hq00, hq01, hnA, hszA⟩
  · go_wp2
    go_ret
    exact ⟨rfl, Below.refl _ _⟩
  have hqn0 : ¬ q0 < 0 := by omega
  have HWA := Lib.hid hszA
  clear hszA
  go_wp2_with fail
  refine (toStringS_any A n c rs _ (HA.out.below b0) (by omega)).mono ?_
  rintro e w1 ⟨gt0, rfl, ho, hb1⟩
  have b1 : Below w.heap.size w w1 := b0.trans (hb1.mono b0.size)
  have s1 := hb1.size
  have Ot01 := Lib.hid (OwnIn.new ho)
  clear hb1 ho
  go_wp2_with fail
  refine (HSP.out _ _ _ _ Ot01.out.rd).mono ?_
  rintro e w2 ⟨Aw, nw, cw, rfl, ho, hb2⟩
  have b2 : Below w.heap.size w w2 := b1.trans (hb2.mono b1.size)
  have s2 := hb2.size
  have Ot02 := Lib.hid (Ot01.out.below hb2)
  have Ow2 := Lib.hid (OwnIn.new ho)
  clear hb2 Ot01 ho
  go_wp2_with fail
  refine (toStringS_any A n c rs _ (HA.out.below b2) (by omega)).mono ?_
  rintro e w3 ⟨gx0, rfl, ho, hb3⟩
  have b3 : Below w.heap.size w w3 := b2.trans (hb3.mono b2.size)
  have s3 := hb3.size
  have Ot03 := Lib.hid (Ot02.out.below hb3)
  have Ow3 := Lib.hid (Ow2.out.below hb3)
  have Ox03 := Lib.hid (OwnIn.new ho)
  clear hb3 Ot02 Ow2 ho
  go_wp2_with fail
  refine (HIM.out _ _ _ _ Ox03.out.rd).mono ?_
  rintro e w4 ⟨Ag, ng, cg, rfl, ho, hb4⟩
  have b4 : Below w.heap.size w w4 := b3.trans (hb4.mono b3.size)
  have s4 := hb4.size
  have Ot04 := Lib.hid (Ot03.out.below hb4)
  have Ow4 := Lib.hid (Ow3.out.below hb4)
  have Ox04 := Lib.hid (Ox03.out.below hb4)
  have Og4 := Lib.hid (OwnIn.new ho)
  clear hb4 Ot03 Ow3 Ox03 ho
  have lg := Og4.out.tlen
  go_wp2_with fail
  refine (eqStringS_any _ _ _ _ _ _ R _ Og4.out.rd Ow4.out.rd).mono ?_
  rintro e w5 ⟨rfl, hb5⟩
  have b5 : Below w.heap.size w w5 := b4.trans (hb5.mono b4.size)
  have s5 := hb5.size
  have Ot05 := Lib.hid (Ot04.out.below hb5)
  have Ow5 := Lib.hid (Ow4.out.below hb5)
  have Ox05 := Lib.hid (Ox04.out.below hb5)
  have Og5 := Lib.hid (Og4.out.below hb5)
  clear hb5 Ot04 Ow4 Ox04 Og4
  go_wp2_with fail
  refine (toStringS_any A n c rs _ (HA.out.below b5) (by omega)).mono ?_
  rintro e w6 ⟨gy0, rfl, ho, hb6⟩
  have b6 : Below w.heap.size w w6 := b5.trans (hb6.mono b5.size)
  have s6 := hb6.size
  have Ot06 := Lib.hid (Ot05.out.below hb6)
  have Ow6 := Lib.hid (Ow5.out.below hb6)
  have Ox06 := Lib.hid (Ox05.out.below hb6)
  have Og6 := Lib.hid (Og5.out.below hb6)
  have Oy06 := Lib.hid (OwnIn.new ho)
  clear hb6 Ot05 Ow5 Ox05 Og5 ho
  go_wp2_with fail
  refine (eqStringS_any _ _ _ _ _ _ rs _ Ox06.out.rd Oy06.out.rd).mono ?_
  rintro e w7 ⟨rfl, hb7⟩
  have b7 : Below w.heap.size w w7 := b6.trans (hb7.mono b6.size)
  have s7 := hb7.size
  have Ot07 := Lib.hid (Ot06.out.below hb7)
  have Ow7 := Lib.hid (Ow6.out.below hb7)
  have Ox07 := Lib.hid (Ox06.out.below hb7)
  have Og7 := Lib.hid (Og6.out.below hb7)
  have Oy07 := Lib.hid (Oy06.out.below hb7)
  clear hb7 Ot06 Ow6 Ox06 Og6 Oy06
  go_wp2_with fail
  refine (markStringS_any _ _ _ _ rs 1 _ Ox07.out.own (by omega) (by omega)).mono ?_
  rintro e w8 ⟨rfl, ho, hg⟩
  have b8 : Below w.heap.size w w8 := Ox07.out.base b7 hg (by omega) (Nat.le_refl _)
  have s8 := hg.size
  have Ot08 := Lib.hid (Ot07.out.other Ox07.out hg (by omega))
  have Ow8 := Lib.hid (Ow7.out.other Ox07.out hg (by omega))
  have Ox08 := Lib.hid (Ox07.out.self ho hg)
  have Og8 := Lib.hid (Og7.out.other Ox07.out hg (by omega))
  have Oy08 := Lib.hid (Oy07.out.other Ox07.out hg (by omega))
  clear ho hg Ot07 Ow7 Ox07 Og7 Oy07
  go_wp2_with fail
  refine (eqStringS_any _ _ _ _ _ _ R _ Og8.out.rd Ow8.out.rd).mono ?_
  rintro e w9 ⟨rfl, hb9⟩
  have b9 : Below w.heap.size w w9 := b8.trans (hb9.mono b8.size)
  have s9 := hb9.size
  have Ot09 := Lib.hid (Ot08.out.below hb9)
  have Ow9 := Lib.hid (Ow8.out.below hb9)
  have Ox09 := Lib.hid (Ox08.out.below hb9)
  have Og9 := Lib.hid (Og8.out.below hb9)
  have Oy09 := Lib.hid (Oy08.out.below hb9)
  clear hb9 Ot08 Ow8 Ox08 Og8 Oy08
  go_wp2_with fail
  refine (markStringS_any _ _ _ _ R 1 _ Og9.out.own (by omega) (by omega)).mono ?_
  rintro e w10 ⟨rfl, ho, hg⟩
  have b10 : Below w.heap.size w w10 := Og9.out.base b9 hg (by omega) (Nat.le_refl _)
  have s10 := hg.size
  have Ot010 := Lib.hid (Ot09.out.other Og9.out hg (by omega))
  have Ow10 := Lib.hid (Ow9.out.other Og9.out hg (by omega))
  have Ox010 := Lib.hid (Ox09.out.other Og9.out hg (by omega))
  have Og10 := Lib.hid (Og9.out.self ho hg)
  have Oy010 := Lib.hid (Oy09.out.other Og9.out hg (by omega))
  clear ho hg Ot09 Ow9 Ox09 Og9 Oy09
  go_wp2_with fail
  refine (heldStringS_any _ _ _ 1 _ Og10.out.rd (by omega) (by omega)).mono ?_
  rintro e w11 ⟨rfl, hb11⟩
  have b11 : Below w.heap.size w w11 := b10.trans (hb11.mono b10.size)
  have s11 := hb11.size
  have Ot011 := Lib.hid (Ot010.out.below hb11)
  have Ow11 := Lib.hid (Ow10.out.below hb11)
  have Ox011 := Lib.hid (Ox010.out.below hb11)
  have Og11 := Lib.hid (Og10.out.below hb11)
  have Oy011 := Lib.hid (Oy010.out.below hb11)
  clear hb11 Ot010 Ow10 Ox010 Og10 Oy010
  go_wp2_with fail
  refine (toStringS_any A n c rs _ (HA.out.below b11) (by omega)).mono ?_
  rintro e w12 ⟨gz0, rfl, ho, hb12⟩
  have b12 : Below w.heap.size w w12 := b11.trans (hb12.mono b11.size)
  have s12 := hb12.size
  have Ot012 := Lib.hid (Ot011.out.below hb12)
  have Ow12 := Lib.hid (Ow11.out.below hb12)
  have Ox012 := Lib.hid (Ox011.out.below hb12)
  have Og12 := Lib.hid (Og11.out.below hb12)
  have Oy012 := Lib.hid (Oy011.out.below hb12)
  have Oz012 := Lib.hid (OwnIn.new ho)
  clear hb12 Ot011 Ow11 Ox011 Og11 Oy011 ho
  go_wp2_with fail
  refine (HIM.out _ _ _ _ Oz012.out.rd).mono ?_
  rintro e w13 ⟨Ah, nh, ch, rfl, ho, hb13⟩
  have b13 : Below w.heap.size w w13 := b12.trans (hb13.mono b12.size)
  have s13 := hb13.size
  have Ot013 := Lib.hid (Ot012.out.below hb13)
  have Ow13 := Lib.hid (Ow12.out.below hb13)
  have Ox013 := Lib.hid (Ox012.out.below hb13)
  have Og13 := Lib.hid (Og12.out.below hb13)
  have Oy013 := Lib.hid (Oy012.out.below hb13)
  have Oz013 := Lib.hid (Oz012.out.below hb13)
  have Oh13 := Lib.hid (OwnIn.new ho)
  clear hb13 Ot012 Ow12 Ox012 Og12 Oy012 Oz012 ho
  go_wp2_with fail
  refine (eqStringS_any _ _ _ _ _ _ R _ Oh13.out.rd Ow13.out.rd).mono ?_
  rintro e w14 ⟨rfl, hb14⟩
  have b14 : Below w.heap.size w w14 := b13.trans (hb14.mono b13.size)
  have s14 := hb14.size
  have Ot014 := Lib.hid (Ot013.out.below hb14)
  have Ow14 := Lib.hid (Ow13.out.below hb14)
  have Ox014 := Lib.hid (Ox013.out.below hb14)
  have Og14 := Lib.hid (Og13.out.below hb14)
  have Oy014 := Lib.hid (Oy013.out.below hb14)
  have Oz014 := Lib.hid (Oz013.out.below hb14)
  have Oh14 := Lib.hid (Oh13.out.below hb14)
  clear hb14 Ot013 Ow13 Ox013 Og13 Oy013 Oz013 Oh13
  go_wp2_with fail
  refine (heldStringS_any _ _ _ 1 _ Og14.out.rd (by omega) (by omega)).mono ?_
  rintro e w15 ⟨rfl, hb15⟩
  have b15 : Below w.heap.size w w15 := b14.trans (hb15.mono b14.size)
  have s15 := hb15.size
  have Ot015 := Lib.hid (Ot014.out.below hb15)
  have Ow15 := Lib.hid (Ow14.out.below hb15)
  have Ox015 := Lib.hid (Ox014.out.below hb15)
  have Og15 := Lib.hid (Og14.out.below hb15)
  have Oy015 := Lib.hid (Oy014.out.below hb15)
  have Oz015 := Lib.hid (Oz014.out.below hb15)
  have Oh15 := Lib.hid (Oh14.out.below hb15)
  clear hb15 Ot014 Ow14 Ox014 Og14 Oy014 Oz014 Oh14
  go_wp2_with fail
  go_ret
  exact ⟨rfl, b15⟩

end Go.Proofs.YtiibhejjeijdaaaDoor
