/- What UsedShare sums up (pure): the fields that the pieces take, the good fields of the hide; strings.Count of one byte. -/
import Derived.Test.YtiibhejjeijdaaaDoorPh
import Derived.Test.YtiibhejjeijdaaaDoorFrac
import Derived.Test.YtiibhejjeijdaaaDoorShC
namespace Go.Proofs.YtiibhejjeijdaaaDoor
open Go.RowKit

/-- The fields that the first k pieces of a plan take. -/
def usedN (cs : List CutV) (pl : List Int) : Nat → Nat
  | 0 => 0
  | k + 1 => usedN cs pl k + if onK pl k = true then wdK cs k * htK cs k else 0
theorem used_on {cs : List CutV} {pl : List Int} {k : Nat} (h : onK pl k = true) : usedN cs pl (k + 1) = usedN cs pl k + wdK cs k * htK cs k := by
  show usedN cs pl k + (if onK pl k = true then wdK cs k * htK cs k else 0) = _
  rw [if_pos h]
theorem used_off {cs : List CutV} {pl : List Int} {k : Nat} (h : onK pl k = false) : usedN cs pl (k + 1) = usedN cs pl k := by
  show usedN cs pl k + (if onK pl k = true then wdK cs k * htK cs k else 0) = _
  rw [if_neg (by rw [h]; simp), Nat.add_zero]
theorem used_bd {rs : List ByteArray} {cs : List CutV} {pl : List Int} (h : PlanOk rs cs pl) : ∀ k, k ≤ pl.length → usedN cs pl k ≤ 36 * k
  | 0, _ => Nat.zero_le _
  | k + 1, hk => by
    have hi := used_bd h k (by omega)
    have hd := h.dim (j := k) (by omega)
    have hm : wdK cs k * htK cs k ≤ 36 := Nat.mul_le_mul hd.1.2 hd.2.2
    cases ho : onK pl k with
    | true => rw [used_on ho]; omega
    | false => rw [used_off ho]; omega
structure UsAt (cs : List CutV) (pl : List Int) (k S : Nat) (x : CutV) (y : Int) : Prop where
  bs : S ≤ 10000
  wd : x.wd = (wdK cs k : Int)
  ht : x.ht = (htK cs k : Int)
  pr : (wdK cs k : Int) * (htK cs k : Int) = ((wdK cs k * htK cs k : Nat) : Int)
  p36 : wdK cs k * htK cs k ≤ 36
  on : 0 ≤ y → usedN cs pl (k + 1) = S + wdK cs k * htK cs k
  off : ¬ 0 ≤ y → usedN cs pl (k + 1) = S
theorem us_at {rs : List ByteArray} {cs : List CutV} {pl : List Int} (h : PlanOk rs cs pl) {k S : Nat} {x : CutV} {y : Int} (hS : usedN cs pl k = S) (hx : cs[k]? = some x) (hy : pl[k]? = some y) : UsAt cs pl k S x y := by
  have hlt := (List.getElem?_eq_some_iff.mp hy).1
  have hb := used_bd h k (by omega)
  have h4 := h.cuts.len
  have hl := h.len
  have ha := h.at rfl rfl hx hy
  have ho : onK pl k = decide (0 ≤ y) := by unfold onK; rw [show pl.getD k 0 = y by simp [List.getD, hy]]
  refine ⟨by rw [← hS]; omega, ha.wd, ha.ht, by rw [Int.natCast_mul], Nat.mul_le_mul ha.bw.2 ha.bh.2, fun h0 => ?_, fun h0 => ?_⟩
  · rw [used_on (by rw [ho]; exact decide_eq_true h0), hS]
  · rw [used_off (by rw [ho]; exact decide_eq_false h0), hS]

/-- A good field. -/
def gB (c : UInt8) : Bool := decide (0 < qS (c.toNat : Int))
/-- The good fields among the first k of a row. -/
def goodN (r : ByteArray) (k : Nat) : Nat := (r.data.toList.take k).countP gB
theorem good_step {r : ByteArray} {k : Nat} (hk : k < r.size) : goodN r (k + 1) = goodN r k + (if 0 < qS (chr r k) then 1 else 0) := by
  have hl : k < r.data.toList.length := by simpa using hk
  have hc : qS (chr r k) = qS (((r.data.toList[k]'hl).toNat : Nat) : Int) := by
    rw [← chr_at hk]
    simp [ByteArray.getElem_eq_getElem_data]
  unfold goodN
  rw [List.take_succ_eq_append_getElem hl, List.countP_append, List.countP_singleton, hc]
  unfold gB
  simp
theorem good_le (r : ByteArray) (k : Nat) : goodN r k ≤ k := by
  unfold goodN
  have h1 := List.countP_le_length (p := gB) (l := r.data.toList.take k)
  have h2 := List.length_take_le k r.data.toList
  omega
theorem count_good : ∀ l : List UInt8, (∀ c ∈ l, 0 ≤ qS (c.toNat : Int)) → l.countP gB + l.count 120 = l.length
  | [], _ => rfl
  | c :: l, h => by
    have hi := count_good l (fun d hd => h d (List.mem_cons_of_mem _ hd))
    have hc := h c (List.mem_cons_self ..)
    rw [List.countP_cons, List.count_cons, List.length_cons]
    by_cases h0 : c = 120
    · subst h0
      have : gB 120 = false := by decide
      rw [this]
      simp
      omega
    · have hn : c.toNat ≠ 120 := fun e => h0 (UInt8.toNat_inj.mp (by rw [e]; rfl))
      have hg : gB c = true := by
        unfold gB
        rw [decide_eq_true_eq]
        unfold qS at hc ⊢
        repeat' split at hc
        all_goals (try split)
        all_goals omega
      rw [hg]
      simp [h0]
      omega
theorem row_good {m : Nat} {r : ByteArray} (h : RowOk m r) : goodN r r.size + Go.Lib.countByte r.data.toList 120 = r.size := by
  unfold goodN Go.Lib.countByte
  have hl : r.data.toList.length = r.size := by simp
  rw [show r.data.toList.take r.size = r.data.toList by rw [← hl, List.take_length], ← hl]
  refine count_good _ fun c hc => ?_
  obtain ⟨j, hj, e⟩ := List.getElem_of_mem hc
  have hj' : j < r.size := by rw [← hl]; exact hj
  have := h.fld j hj'
  rw [← chr_at hj'] at this
  rw [← e]
  simpa [ByteArray.getElem_eq_getElem_data] using this
/-- The good fields of the first y rows. -/
def sumG (rs : List ByteArray) : Nat → Nat
  | 0 => 0
  | y + 1 => sumG rs y + goodN (rs.getD y ByteArray.empty) (rs.getD y ByteArray.empty).size
theorem sumG_step {rs : List ByteArray} {y : Nat} {r : ByteArray} (h : rs[y]? = some r) : sumG rs (y + 1) = sumG rs y + goodN r r.size := by
  have e : rs.getD y ByteArray.empty = r := by simp [List.getD, h]
  show sumG rs y + goodN (rs.getD y ByteArray.empty) (rs.getD y ByteArray.empty).size = _
  rw [e]

theorem count_any (r : ByteArray) (w : World) :
    Calls Tryd.prog 74 #[.string r, .string ⟨#[120]⟩] w fun e w' => e = .returned (.int .i64 (Go.Lib.countByte r.data.toList 120)) ∧ Below w.heap.size w w' :=
  (Any.strings_Count_one Tryd.lays138 r 120 w).mono fun e w' h => ⟨h.1, by rw [h.2]; exact Below.refl _ _⟩
end Go.Proofs.YtiibhejjeijdaaaDoor
