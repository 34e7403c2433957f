/- The first order: orderOfOps, OrderOfOps (program, reference), the law. Printed by mkog.py. -/
import Derived.Test.YtgghjieeckkpbaaDoorCan
import Derived.Test.YtgghjieeckkpbaaDoorCr
namespace Go.Proofs.YtgghjieeckkpbaaDoor
open Go.RowKit

def lenV : Value → Nat
  | .slice _ n _ => n
  | _ => 0
theorem ordG_put {bfs : List (List Int)} {n r : Nat} {o : List Int} {d : List Bool} {k : Nat} (h : ordG bfs n r = (o, d)) (hn : nextK bfs n d = some k) : ordG bfs n (r + 1) = (o ++ [(k : Int)], d.set k true) := by
  show (match nextK bfs n (ordG bfs n r).2 with
    | some k => ((ordG bfs n r).1 ++ [(k : Int)], (ordG bfs n r).2.set k true)
    | none => ordG bfs n r) = _
  rw [h]
  simp only
  rw [hn]
/-- The search for the next one. -/
def canF (bfs : List (List Int)) (d : List Bool) (k : Nat) : Option Nat := if canB bfs d k = true then some k else none
theorem next_hit {bfs : List (List Int)} {n k : Nat} {d : List Bool} (h : scanF (canF bfs d) k = none) (hc : canB bfs d k = true) (hk : k < n) : nextK bfs n d = some k := by
  unfold nextK
  exact scanF_hit (g := canF bfs d) h (by unfold canF; rw [if_pos hc]) hk
theorem next_on {bfs : List (List Int)} {k : Nat} {d : List Bool} (h : scanF (canF bfs d) k = none) (hc : canB bfs d k = false) : scanF (canF bfs d) (k + 1) = none := by
  rw [scanF_next h]
  unfold canF
  rw [if_neg (by rw [hc]; simp)]
/-- How the order stands behind r steps. -/
structure OgI (ops : List OpV) (n r : Nat) (o : List Int) (d : List Bool) : Prop where
  eq : ordG (bfsO ops) n r = (o, d)
  ol : o.length = r
  dl : d.length = n
  ne : r < n → scanF (canF (bfsO ops) d) n ≠ none
theorem ogI {ops : List OpV} {n r : Nat} (hok : OOk ops) (hl : ops.length = n) (hc : ∀ j, ¬ Rch (Eb (bfsO ops)) j j) (hr : r ≤ n) : OgI ops n r (ordG (bfsO ops) n r).1 (ordG (bfsO ops) n r).2 := by
  have hbf := bfs_ok hok hl
  obtain ⟨h1, h2⟩ := ordG_ok hbf.hb hbf.hl hc r hr
  exact ⟨rfl, h1.ol, h1.dl, h2⟩
theorem OgI.put {ops : List OpV} {n r : Nat} {o : List Int} {d : List Bool} {k : Nat} (h : OgI ops n r o d) (hok : OOk ops) (hl : ops.length = n) (hc : ∀ j, ¬ Rch (Eb (bfsO ops)) j j) (hr : r < n) (hs : scanF (canF (bfsO ops) d) k = none) (hq : canB (bfsO ops) d k = true) (hk : k < n) : OgI ops n (r + 1) (o ++ [(k : Int)]) (d.set k true) := by
  have e := ordG_put h.eq (next_hit hs hq hk)
  have := ogI hok hl hc (show r + 1 ≤ n by omega)
  rw [e] at this
  exact this
/-- The first order. -/
def ordL (ops : List OpV) : List Int := (ordG (bfsO ops) ops.length ops.length).1
def OgPost (n : Nat) (o : List Int) (w : World) (e : Ending) (w' : World) : Prop := ∃ g c, e = .returned (.slice (some ⟨g, 0, none⟩) n c) ∧ w'.ownsRow w.heap.size 2 1 (.slice (some ⟨g, 0, none⟩) n c) n (ints o) ∧ Below w.heap.size w w'

set_option maxRecDepth 100000 in
set_option maxHeartbeats 1000000 in
theorem orderOfOps_any (A : Option Addr) (n c : Nat) (ops : List OpV) (w : World) (h : RdO w A n c ops) (hok : OOk ops) (hc : ∀ j, ¬ Rch (Eb (bfsO ops)) j j) :
    Calls Tryd.prog 42 #[.slice A n c] w (OgPost n (ordL ops) w) := by
  obtain ⟨i0, hi, hz0, hz1, hz2⟩ := info_parts info_i64r
  have hl := h.len
  have h1 := h.cap
  have h2 := h.max
  have hbf := bfs_ok hok hl
  have hn14 := hbf.hn
  have hfin : ∀ (o : List Int) (d : List Bool), OgI ops n n o d → ordL ops = o := fun o d h => by unfold ordL; rw [hl, h.eq]
  have ho0 : (w.alloc (.cells #[] 2)).ownsRow w.heap.size 2 1 (.slice (some ⟨w.heap.size, 0, none⟩) 0 0) 0 (ints []) := World.ownsRow_made w #[] 0 (Nat.le_refl _) (by unfold maxLen; omega) rfl
  have hb0 : Below w.heap.size w (w.alloc (.cells #[] 2)) := (Below.refl _ _).alloc (Nat.le_refl _) _
  have hI0 := ogI hok hl hc (Nat.zero_le n)
  have HI0 : Hid (OgI ops n 0 [] (List.replicate n false)) := Lib.hid hI0
  have H := Lib.hid h
  have HK := Lib.hid hok
  have HC := Lib.hid hc
  have HL := Lib.hid hl
  have HF := Lib.hid hfin
  have HO0 := Lib.hid ho0
  have HB0 := Lib.hid hb0
  generalize ordL ops = R at *
  clear h hok hc hl hbf hfin ho0 hb0 hI0
  go_enter Tryd.func42, Tryd.ntmps42
  go_wp2
  go_loopw [3, 4] (fun vo vd wr => ∃ (r go co x : Nat) (o : List Int) (d : List Bool), r ≤ n ∧ vo = .slice (some ⟨go, 0, none⟩) r co ∧ vd = .int .i64 x ∧ Hid (OgI ops n r o d) ∧ Hid (SetD n d x) ∧ wr.ownsRow w.heap.size 2 1 (.slice (some ⟨go, 0, none⟩) r co) r (ints o) ∧ Below w.heap.size w wr) (fun vo _ _ => n - lenV vo)
  case atStart => exact ⟨0, _, _, 0, [], _, Nat.zero_le _, rfl, rfl, HI0, Lib.hid (SetD.zero hn14), HO0.out, HB0.out⟩
  case round =>
    obtain ⟨r, go, co, x, o, d, hr, rfl, rfl, HI, HD, hown, hb⟩ := hrel
    have HO := Lib.hid hown
    have HB := Lib.hid hb
    have hco := (Rd.of_own hown).cap
    have hcm := (Rd.of_own hown).max
    clear hown hb
    by_cases hlt : r < n
    · have hr0 : (r : Int) < (n : Int) := by omega
      go_wp2
      go_loopw [3, 4, 14] (fun vo vd vk wr => ∃ k : Nat, k ≤ n ∧ vo = .slice (some ⟨go, 0, none⟩) r co ∧ vd = .int .i64 x ∧ vk = .int .i64 k ∧ Hid (scanF (canF (bfsO ops) d) k = none) ∧ wr.ownsRow w.heap.size 2 1 (.slice (some ⟨go, 0, none⟩) r co) r (ints o) ∧ Below w.heap.size w wr) (fun _ _ vk _ => n - (intOf vk).toNat)
      case atStart => exact ⟨0, Nat.zero_le _, rfl, rfl, rfl, (show Hid _ from rfl), HO.out, HB.out⟩
      case round =>
        clear HO HB
        obtain ⟨k, hk, rfl, rfl, rfl, HS, hown, hb⟩ := hrel
        have Hb := Lib.hid hb
        have HO := Lib.hid hown
        by_cases hlk : k < n
        · have hk0 : (0 : Int) ≤ (k : Int) := by omega
          have hk1 : (k : Int) < (n : Int) := by omega
          have hk64 : (k : Int) ≤ 64 := by omega
          have hcan := canBeDone_any A n c ops k x d wr (H.out.below hb) HK.out hlk HD.out
          have hon := next_on HS.out
          have hput := fun h => HI.out.put HK.out HL.out HC.out hlt HS.out h hlk
          have HV := Lib.hid (orPow x k HD.out.lt (by omega))
          have hwr := wrapP k (by omega)
          have hdp := HD.out.put hlk
          generalize canB (bfsO ops) d k = q at *
          have HCN := Lib.hid hcan
          have HON := Lib.hid hon
          have HPT := Lib.hid hput
          have HDP := Lib.hid hdp
          clear hcan hon hput hdp hown hb
          cases q with
          | false =>
            go_wp2_with fail
            refine (HCN.out).mono ?_
            rintro e w3 ⟨rfl, hb3⟩
            have HO3 := Lib.hid (own_below HO.out hb3)
            have Hb3 := Lib.hid (Hb.out.trans (hb3.mono Hb.out.size))
            clear hb3
            go_wp2
            go_roundw
            case rel => exact ⟨k + 1, by omega, rfl, rfl, by go_num, Lib.hid (HON.out (by trivial)), HO3.out, Hb3.out⟩
            case measure => simp [intOf]; omega
          | true =>
            go_wp2_with fail
            refine (HCN.out).mono ?_
            rintro e w3 ⟨rfl, hb3⟩
            have HO3 := Lib.hid (own_below HO.out hb3)
            have Hb3 := Lib.hid (Hb.out.trans (hb3.mono Hb.out.size))
            have hs3 := Hb3.out.size
            have hgo3 := (own_block HO3.out go rfl)
            clear hb3
            go_wp2_with (at_builtin; refine wpList_append_own _ rfl (.tmp 21) (.tmp 23) 32 rfl w.heap.size 2 i0 (.int .i64 0) 1 8 Tryd.underlying32 hi hz0 hz1 hz2 rfl (by decide) (Value.slice (some ⟨go, 0, none⟩) r co) _ _ rfl (HO3.out.alloc _) ⟨_, 0, none⟩ 1 1 [.int .i64 k] rfl rfl (cell_one_new _ _ _) (by intro u hu; simp at hu; subst hu; rfl) (by unfold maxLen; omega) (by omega) (by simp; omega) ?_; intro v' wa hown' hga hdel; clear hdel)
            have hal : Below w3.heap.size w3 (w3.alloc (.cells #[.int .i64 k] 2)) := (Below.refl _ _).alloc (Nat.le_refl _) _
            obtain ⟨g3, d3, hv, hg3, _⟩ := own_form hown' (by omega)
            have b3 : Below w.heap.size w wa := (Hb3.out.trans (hal.mono hs3)).grown hga (by simp; omega) (fun j hj => by simp [Value.ownBlock] at hj; omega)
            rw [ints_snoc] at hown'
            subst hv
            have HO4 := Lib.hid hown'
            have HB4 := Lib.hid b3
            have HI4 := Lib.hid (HPT.out (by trivial))
            clear hown' hga hal b3
            go_wp2
            go_roundw
            case rel => exact ⟨r + 1, g3, d3, x ||| 2 ^ k, _, _, by omega, rfl, by rw [HV.out], HI4, HDP, HO4.out, HB4.out⟩
            case measure => simp [lenV]; omega
        · have hkn : k = n := by omega
          exact absurd (by rw [← hkn]; exact HS.out) (HI.out.ne hlt)
    · have hrn : n = r := by omega
      subst hrn
      have hR := HF.out o d HI.out
      subst hR
      go_wp2
      go_ret
      exact ⟨_, _, rfl, HO.out, HB.out⟩

noncomputable def ogZ (ops : List OpV) : List Int × Int := if codeO ops = 0 then (ordL ops, 0) else ([], codeO ops)
theorem ogZ_ok {ops : List OpV} (h : codeO ops = 0) : ogZ ops = (ordL ops, 0) := by unfold ogZ; rw [if_pos h]
theorem ogZ_no {ops : List OpV} (h : codeO ops ≠ 0) : ogZ ops = ([], codeO ops) := by unfold ogZ; rw [if_neg h]
theorem ordL_len {ops : List OpV} (hok : OOk ops) (hc : ∀ j, ¬ Rch (Eb (bfsO ops)) j j) : (ordL ops).length = ops.length := (ogI hok rfl hc (Nat.le_refl _)).ol
theorem ogZ_len (ops : List OpV) : (ogZ ops).1.length ≤ 1048576 := by
  by_cases h : codeO ops = 0
  · obtain ⟨h1, h2⟩ := codeO_ok h
    rw [ogZ_ok h]
    have := ordL_len h1 h2
    have := h1.len
    show (ordL ops).length ≤ _
    omega
  · rw [ogZ_no h]; simp

set_option maxHeartbeats 1000000 in
theorem implOrderOfOps_any (A : Option Addr) (n c : Nat) (ops : List OpV) (w : World) (h : RdO w A n c ops) :
    Calls Tryd.prog 12 #[.slice A n c] w (IntPost w (ogZ ops).1 (ogZ ops).2) := by
  have hcall := opsCode_any A n c ops w h
  have H := Lib.hid h
  by_cases hz : codeO ops = 0
  · obtain ⟨hok, hcc⟩ := codeO_ok hz
    rw [ogZ_ok hz]
    rw [hz] at hcall
    have hord := fun W h => orderOfOps_any A n c ops W h hok hcc
    generalize ordL ops = R at *
    have HC := Lib.hid hcall
    have HO := Lib.hid hord
    clear hcall hord h hok hcc hz
    go_enter Tryd.func12, Tryd.ntmps12
    go_wp2_with fail
    refine (HC.out).mono ?_
    rintro e w1 ⟨rfl, hb1⟩
    have H1 := Lib.hid (H.out.below hb1)
    have Hb1 := Lib.hid hb1
    clear hb1
    go_wp2_with fail
    refine (HO.out _ H1.out).mono ?_
    rintro e w2 ⟨g, cg, rfl, ho, hb2⟩
    have HO2 := Lib.hid (own_base ho Hb1.out.size)
    have Hb2 := Lib.hid (Hb1.out.trans (hb2.mono Hb1.out.size))
    clear ho hb2
    go_wp2
    go_ret2
    exact ⟨_, _, _, rfl, HO2.out, Hb2.out⟩
  · rw [ogZ_no hz]
    generalize codeO ops = z at *
    have hne : (z != 0) = true := by simpa using hz
    have HC := Lib.hid hcall
    clear hcall h
    go_enter Tryd.func12, Tryd.ntmps12
    go_wp2_with fail
    refine (HC.out).mono ?_
    rintro e w1 ⟨rfl, hb1⟩
    go_wp2
    go_ret2
    exact intPost_nil hb1

set_option maxRecDepth 100000 in
set_option maxHeartbeats 1000000 in
theorem specOrderOfOps_any (A : Option Addr) (n c : Nat) (ops : List OpV) (w : World) (h : RdO w A n c ops) :
    Calls Tryd.prog 13 #[.slice A n c] w (IntPost w (ogZ ops).1 (ogZ ops).2) := by
  obtain ⟨i0, hi, hz0, hz1, hz2⟩ := info_parts info_i64r
  have hcall := l13Code_any A n c ops w h
  have hl := h.len
  have h1 := h.cap
  have h2 := h.max
  have H := Lib.hid h
  by_cases hz : codeO ops = 0
  · obtain ⟨hok, hc⟩ := codeO_ok hz
    rw [ogZ_ok hz]
    rw [hz] at hcall
    have hbf := bfs_ok hok hl
    have hn14 := hbf.hn
    have hfin : ∀ (o : List Int) (d : List Bool), OgI ops n n o d → ordL ops = o := fun o d h => by unfold ordL; rw [hl, h.eq]
    have hI0 := ogI hok hl hc (Nat.zero_le n)
    have HI0 : Hid (OgI ops n 0 [] (List.replicate n false)) := Lib.hid hI0
    have HK := Lib.hid hok
    have HC := Lib.hid hc
    have HL := Lib.hid hl
    have HF := Lib.hid hfin
    have HCA := Lib.hid hcall
    generalize ordL ops = R at *
    clear h hok hc hl hbf hfin hI0 hcall hz
    go_enter Tryd.func13, Tryd.ntmps13
    go_wp2_with fail
    refine (HCA.out).mono ?_
    rintro e w1 ⟨rfl, hb1⟩
    have hs1 := hb1.size
    have ho0 : (w1.alloc (.cells #[] 2)).ownsRow w.heap.size 2 1 (.slice (some ⟨w1.heap.size, 0, none⟩) 0 0) 0 (ints []) := World.ownsRow_made w1 #[] 0 hs1 (by unfold maxLen; omega) rfl
    have hsz : (w1.alloc (.cells #[] 2)).heap.size = w1.heap.size + 1 := by simp
    have hmk := mkb n (by omega) (w1.alloc (.cells #[] 2))
    have hm0 := ownb n (by omega) (w1.alloc (.cells #[] 2)) w.heap.size (by omega)
    rw [hsz] at hmk hm0
    have ha0 : Below (w1.alloc (.cells #[] 2)).heap.size (w1.alloc (.cells #[] 2)) ((w1.alloc (.cells #[] 2)).alloc (.cells (bn n) 4)) := (Below.refl _ _).alloc (Nat.le_refl _) _
    have hb2 : Below w.heap.size w (w1.alloc (.cells #[] 2)) := hb1.alloc hs1 _
    have HO0 := Lib.hid (own_below ho0 ha0)
    have HM0 := Lib.hid hm0
    have HB0 := Lib.hid (hb2.trans (ha0.mono hb2.size))
    clear ho0 hm0 ha0 hb1 hb2 hsz
    go_wp2
    go_loopw [5] (fun vo wr => ∃ (r go co : Nat) (o : List Int) (d : List Bool), r ≤ n ∧ vo = .slice (some ⟨go, 0, none⟩) r co ∧ go ≠ w1.heap.size + 1 ∧ Hid (OgI ops n r o d) ∧ wr.ownsRow w.heap.size 2 1 (.slice (some ⟨go, 0, none⟩) r co) r (ints o) ∧ wr.ownsRow w.heap.size 4 1 (.slice (some ⟨w1.heap.size + 1, 0, none⟩) n n) n (bs d) ∧ Below w.heap.size w wr) (fun vo _ => n - lenV vo)
    case atStart => exact ⟨0, _, _, [], _, Nat.zero_le _, rfl, by omega, HI0, HO0.out, HM0.out, HB0.out⟩
    case round =>
      obtain ⟨r, go, co, o, d, hr, rfl, hgm, HI, hown, hmar, hb⟩ := hrel
      have HO := Lib.hid hown
      have HM := Lib.hid hmar
      have HB := Lib.hid hb
      have hco := (Rd.of_own hown).cap
      have hcm := (Rd.of_own hown).max
      have hgl := (own_block hown go rfl)
      have hml := (own_block hmar _ rfl)
      clear hown hmar hb
      by_cases hlt : r < n
      · have hr0 : (r : Int) < (n : Int) := by omega
        go_wp2
        go_loopw [5, 7] (fun vo vk wz => ∃ k : Nat, k ≤ n ∧ vo = .slice (some ⟨go, 0, none⟩) r co ∧ vk = .int .i64 k ∧ Hid (scanF (canF (bfsO ops) d) k = none) ∧ wr = wz) (fun _ vk _ => n - (intOf vk).toNat)
        case atStart => exact ⟨0, Nat.zero_le _, rfl, rfl, (show Hid _ from rfl), rfl⟩
        case round =>
          obtain ⟨k, hk, rfl, rfl, HS, hrel⟩ := hrel
          subst hrel
          by_cases hlk : k < n
          · have hk0 : (0 : Int) ≤ (k : Int) := by omega
            have hk1 : (k : Int) < (n : Int) := by omega
            have hcan := l13Can_any A n c ops w.heap.size (w1.heap.size + 1) n k d _ (H.out.below HB.out) HK.out hlk HI.out.dl HM.out
            have hon := next_on HS.out
            have hput := fun h => HI.out.put HK.out HL.out HC.out hlt HS.out h hlk
            have hck := own_bool HM.out hlk HI.out.dl
            have hf := HM.out.frozenAt
            generalize canB (bfsO ops) d k = q at *
            have HCN := Lib.hid hcan
            have HON := Lib.hid hon
            have HPT := Lib.hid hput
            clear hcan hon hput
            cases q with
            | false =>
              go_wp2_with fail
              refine (HCN.out).mono ?_
              rintro e wz ⟨rfl, rfl⟩
              go_wp2
              go_roundw
              case rel => exact ⟨k + 1, by omega, rfl, by go_num, Lib.hid (HON.out (by trivial)), by trivial⟩
              case measure => simp [intOf]; omega
            | true =>
              have S := own_bset HM.out k true
              have ho2 := own_other (g' := w1.heap.size + 1) HO.out S.2 hgm
              have hb2 := HB.out.setCell (p := ⟨w1.heap.size + 1, k, none⟩) (show w.heap.size ≤ w1.heap.size + 1 by omega) (.bool true)
              have hvs : (wr.setCell ⟨w1.heap.size + 1, k, none⟩ (.bool true)).heap.size = wr.heap.size := by simp
              have HS2 := Lib.hid S.1
              have HO2 := Lib.hid ho2
              have HB2 := Lib.hid hb2
              have HVS := Lib.hid hvs
              clear S ho2 hb2 hvs
              go_wp2_with fail
              refine (HCN.out).mono ?_
              rintro e wz ⟨rfl, rfl⟩
              go_wp2_with (at_builtin; refine wpList_append_own_at _ rfl (.tmp 35) (.tmp 37) 32 rfl w.heap.size 2 i0 (.int .i64 0) 1 8 Tryd.underlying32 hi hz0 hz1 hz2 rfl (by decide) (Value.slice (some ⟨go, 0, none⟩) r co) _ _ rfl (HO2.out.alloc _) ⟨_, 0, none⟩ 1 1 [.int .i64 k] rfl rfl (by have := cell_one_new (wr.setCell ⟨w1.heap.size + 1, k, none⟩ (.bool true)) (.int .i64 k) 2; rw [HVS.out] at this; exact this) (by intro u hu; simp at hu; subst hu; rfl) (by unfold maxLen; omega) (by omega) (by simp; omega) ?_; intro v' wa hown' hga hdel hblk; clear hdel)
              have hal : Below (wr.setCell ⟨w1.heap.size + 1, k, none⟩ (.bool true)).heap.size (wr.setCell ⟨w1.heap.size + 1, k, none⟩ (.bool true)) ((wr.setCell ⟨w1.heap.size + 1, k, none⟩ (.bool true)).alloc (.cells #[.int .i64 k] 2)) := (Below.refl _ _).alloc (Nat.le_refl _) _
              obtain ⟨g3, d3, hv, hg3, _⟩ := own_form hown' (by omega)
              have hgm3 : g3 ≠ w1.heap.size + 1 := by
                rw [hv] at hblk
                rcases hblk with e | e
                · simp [Value.ownBlock] at e; omega
                · simp [Value.ownBlock] at e; omega
              have b3 : Below w.heap.size w wa := (HB2.out.trans (hal.mono HB2.out.size)).grown hga (by simp; omega) (fun j hj => by simp [Value.ownBlock] at hj; omega)
              have hm3 := own_other (g' := go) (own_below HS2.out hal) hga (by omega)
              rw [ints_snoc] at hown'
              subst hv
              have HO4 := Lib.hid hown'
              have HM4 := Lib.hid hm3
              have HB4 := Lib.hid b3
              have HI4 := Lib.hid (HPT.out (by trivial))
              clear hown' hga hal b3 hm3 hblk
              go_wp2
              go_roundw
              case rel => exact ⟨r + 1, g3, d3, _, _, by omega, rfl, hgm3, HI4, HO4.out, HM4.out, HB4.out⟩
              case measure => simp [lenV]; omega
          · have hkn : k = n := by omega
            exact absurd (by rw [← hkn]; exact HS.out) (HI.out.ne hlt)
      · have hrn : n = r := by omega
        subst hrn
        have hR := HF.out o d HI.out
        subst hR
        go_wp2
        go_ret2
        exact ⟨_, _, _, rfl, HO.out, HB.out⟩
  · rw [ogZ_no hz]
    generalize codeO ops = z at *
    have hne : (z != 0) = true := by simpa using hz
    have HC := Lib.hid hcall
    clear hcall h hl
    go_enter Tryd.func13, Tryd.ntmps13
    go_wp2_with fail
    refine (HC.out).mono ?_
    rintro e w1 ⟨rfl, hb1⟩
    go_wp2
    go_ret2
    exact intPost_nil hb1

end Go.Proofs.YtgghjieeckkpbaaDoor
