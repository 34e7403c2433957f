/- Decimals: the program's Decimal (strconv.FormatInt at base 10), where the library's table of powers is in place. -/
import Derived.Test.YthdbaflihgkomaaDoorDw
import Derived.Test.YthdbaflihgkomaaDoorShD
import Derived.Lib.AppendIntMem
import Derived.Lib.LaidTab
import Derived.Stop.LaidErr
import Derived.WalkSmall
namespace Go.Proofs.YthdbaflihgkomaaDoor
open Go.RowKit Go.Shelf

/-- The library's table of the powers of ten is in place, and stays so whatever is written from block B on. -/
def PowT (B : Nat) (w : World) : Prop := Go.Lib.TabBelow Tryd.prog B w "internal/strconv.uint64pow10" .u64 Go.Lib.pow10Tab
theorem PowT.on {B : Nat} {w w' : World} (h : PowT B w) (hb : Below B w w') : PowT B w' := Go.Lib.TabBelow.on h hb
set_option maxRecDepth 100000 in
set_option maxHeartbeats 1000000 in
theorem decimal_any (k : Nat) (w : World) (h1 : k ≤ 100000) (B : Nat) (ht : PowT B w) :
    Calls Tryd.prog 30 #[.int .i64 k] w fun e w' => e = .returned (.string ⟨(Go.Lib.decDigits k).toArray⟩) ∧ Below w.heap.size w w' := by
  have hf := Any.strconv_FormatInt_10 Tryd.lays173 (k : Int) (by omega) (by omega) w ht.here
  rw [Go.Lib.itoa_nonneg] at hf
  have HF := Lib.hid hf
  clear hf ht
  go_enter Tryd.func30, Tryd.ntmps30
  go_wp2_with fail
  refine (HF.out).mono ?_
  rintro e w1 ⟨rfl, q, os, rfl⟩
  go_wp2_with fail
  go_ret
  exact ⟨rfl, Go.Lib.below_grow _ _ (Nat.le_refl _) _ _⟩
end Go.Proofs.YthdbaflihgkomaaDoor
