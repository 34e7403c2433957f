/- ValidOps: the law's walk. Printed by mkvo.py. -/
import Derived.Test.YtgghjieeckkpbaaDoorOk
import Derived.Test.YtgghjieeckkpbaaDoorOwn
namespace Go.Proofs.YtgghjieeckkpbaaDoor
open Go.RowKit

set_option maxHeartbeats 1000000 in
theorem specValidOps_any (A : Option Addr) (n c : Nat) (ops : List OpV) (w : World) (h : RdO w A n c ops) :
    Calls Tryd.prog 28 #[.slice A n c] w fun e w' => e = .returned (.bool (okO ops)) ∧ Below w.heap.size w w' := by
  have hcall := l13Ok_any A n c ops w h
  generalize okO ops = r at *
  have HC := Lib.hid hcall
  clear hcall h
  go_enter Tryd.func28, Tryd.ntmps28
  go_wp2_with fail
  refine (HC.out).mono ?_
  rintro e w' ⟨rfl, hb⟩
  go_wp2
  go_ret
  exact ⟨rfl, hb⟩

end Go.Proofs.YtgghjieeckkpbaaDoor
