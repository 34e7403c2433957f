/- slices.stableCmpFunc and slices.SortStableFunc over []int, at most nine elements, any comparison. -/
import Derived.Test.YthdbaflihgkomaaTl3
namespace Go.Proofs.Ythdbaflihgkomaa
open Go.RowKit Go.Shelf

set_option maxRecDepth 100000 in
set_option maxHeartbeats 4000000 in
theorem stable_any (g' : Nat) (lb : Array Value) (eg : ∀ args w, (callFunc g' args).run Try.prog w = .ok (.enter g' args) w) (cf : Int → Int → Int) (hcf : ∀ i j, -1 ≤ cf i j ∧ cf i j ≤ 1) (os : List Int) (K : World → Prop) (base g m d : Nat) (w : World) (hm : m ≤ 9)
    (h : w.ownsRow base 3 1 (.slice (some ⟨g, 0, none⟩) m d) m (ints os)) (hK : K w) (hKs : ∀ W i u, K W → K (W.setCell ⟨g, i, none⟩ u)) (hKd : ∀ W q, K W → K (W.drewN q)) (hc : CmpB Try.prog g' lb cf os K) :
    Calls Try.prog 81 #[.slice (some ⟨g, 0, none⟩) m d, .int .i64 m, .func (.func g') #[] lb] w fun e w' => e = .returned (.tuple #[]) ∧
      w'.ownsRow base 3 1 (.slice (some ⟨g, 0, none⟩) m d) m (ints (sortK (ltC cf) os m)) ∧ K w' ∧ w.grownBy w' (some g) := by
  have hcall := insSort_any g' lb eg cf hcf os K base g m d w hm h hK hKs hKd hc
  generalize sortK (ltC cf) os m = R at *
  have HC := Lib.hid hcall
  clear hcall h hK hKs hKd hc eg hcf
  have hmi : (m : Int) ≤ 9 := by omega
  go_enter Try.func81, Try.ntmps81
  go_wp2
  go_loop [7, 8] (fun a b => a = .int .i64 0 ∧ b = .int .i64 20) (fun _ _ => 0)
  case atStart => exact ⟨rfl, rfl⟩
  case round =>
    obtain ⟨rfl, rfl⟩ := hrel
    go_wp2_with fail
    refine (HC.out).mono ?_
    rintro e w1 ⟨rfl, ho, hk, hg⟩
    have HR := Lib.hid (And.intro ho (And.intro hk hg))
    clear ho hk hg HC
    go_wp2
    go_loop [6] (fun a => a = .int .i64 20) (fun _ => 0)
    case atStart => rfl
    case round =>
      subst hrel
      go_wp2
      go_end0
      exact ⟨rfl, HR.out.1, HR.out.2.1, HR.out.2.2⟩

set_option maxHeartbeats 2000000 in
theorem sortStable_any (g' : Nat) (lb : Array Value) (eg : ∀ args w, (callFunc g' args).run Try.prog w = .ok (.enter g' args) w) (cf : Int → Int → Int) (hcf : ∀ i j, -1 ≤ cf i j ∧ cf i j ≤ 1) (os : List Int) (K : World → Prop) (base g m d : Nat) (w : World) (hm : m ≤ 9)
    (h : w.ownsRow base 3 1 (.slice (some ⟨g, 0, none⟩) m d) m (ints os)) (hK : K w) (hKs : ∀ W i u, K W → K (W.setCell ⟨g, i, none⟩ u)) (hKd : ∀ W q, K W → K (W.drewN q)) (hc : CmpB Try.prog g' lb cf os K) :
    Calls Try.prog 71 #[.slice (some ⟨g, 0, none⟩) m d, .func (.func g') #[] lb] w fun e w' => e = .returned (.tuple #[]) ∧
      w'.ownsRow base 3 1 (.slice (some ⟨g, 0, none⟩) m d) m (ints (sortK (ltC cf) os m)) ∧ K w' ∧ w.grownBy w' (some g) := by
  have hcall := stable_any g' lb eg cf hcf os K base g m d w hm h hK hKs hKd hc
  generalize sortK (ltC cf) os m = R at *
  have HC := Lib.hid hcall
  clear hcall h hK hKs hKd hc eg hcf
  go_enter Try.func71, Try.ntmps71
  go_wp2_with fail
  refine (HC.out).mono ?_
  rintro e w1 ⟨rfl, ho, hk, hg⟩
  have HR := Lib.hid (And.intro ho (And.intro hk hg))
  clear ho hk hg HC
  go_wp2
  go_end0
  exact ⟨rfl, HR.out.1, HR.out.2.1, HR.out.2.2⟩
end Go.Proofs.Ythdbaflihgkomaa
