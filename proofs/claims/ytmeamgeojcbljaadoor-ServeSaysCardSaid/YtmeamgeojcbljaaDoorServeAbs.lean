/- The walk of larderwickref1.Abs (as in ServeLaw). -/
import Derived.Test.YtmeamgeojcbljaaDoorServePlain
import Derived.Test.YtmeamgeojcbljaaDoorWords
import Derived.IntWalk
import Derived.Test.YtmeamgeojcbljaaDoorRows
namespace Go.Proofs.YtmeamgeojcbljaaDoor
open Go.ChangeShapes Go.WideShapes Go.ChangeAt Go.RowKit

theorem rabs_ok (a b : Int) (w : World) (ha : 0 ≤ a ∧ a ≤ 12) (hb : 0 ≤ b ∧ b ≤ 12) :
    Calls Tryd.prog 85 #[.int .i64 a, .int .i64 b] w fun e w' => e = .returned (.int .i64 (absI a b)) ∧ w' = w := by
  have e1 : wrap64 (a - b) = a - b := IntWalk.wrap64_in _ (by omega)
  have e2 : wrap64 (b - a) = b - a := IntWalk.wrap64_in _ (by omega)
  obtain ⟨v, hv⟩ : ∃ v, absI a b = v := ⟨_, rfl⟩
  have hm : max (a - b) (b - a) = v := hv
  rw [hv]
  clear hv
  by_cases hab : b < a
  · obtain rfl : v = a - b := by omega
    clear hm
    go_enter Tryd.func85, Tryd.ntmps85
    go_wp2
    go_ret
    exact ⟨rfl, rfl⟩
  · obtain rfl : v = b - a := by omega
    clear hm
    go_enter Tryd.func85, Tryd.ntmps85
    go_wp2
    go_ret
    exact ⟨rfl, rfl⟩
end Go.Proofs.YtmeamgeojcbljaaDoor
