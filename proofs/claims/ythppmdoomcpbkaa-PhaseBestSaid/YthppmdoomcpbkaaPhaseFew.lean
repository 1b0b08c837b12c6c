/- The walk of the law PhaseFew: it returns true, for every input. -/
import Derived.Test.YthppmdoomcpbkaaParts
import Derived.Test.YthppmdoomcpbkaaFaults
namespace Go.Proofs.Ythppmdoomcpbkaa
open Go.ChangeShapes Go.WideShapes Go.ChangeAt Go.RowKit

theorem in1_no (n lo hi : Int) (w : World) (h : n < lo ∨ hi < n) :
    Calls Try.prog 19 #[.int .i64 n, .int .i64 lo, .int .i64 hi] w fun e w' => e = .returned (.bool false) ∧ w = w' := by
  by_cases h1 : lo ≤ n
  · have h2 : ¬ n ≤ hi := by omega
    clear h
    go_enter Try.func19, Try.ntmps19
    go_wp2
    go_ret
    exact ⟨rfl, rfl⟩
  · clear h
    go_enter Try.func19, Try.ntmps19
    go_wp2
    go_ret
    exact ⟨rfl, rfl⟩

theorem good_take {l : List Int} {s : Int} (h : GoodReqs l s) (t : Nat) : GoodReqs (l.take t) s :=
  ⟨by rw [List.length_take]; have := h.1; omega, fun x hx => h.2.1 x (List.mem_of_mem_take hx), h.2.2⟩

end Go.Proofs.Ythppmdoomcpbkaa
