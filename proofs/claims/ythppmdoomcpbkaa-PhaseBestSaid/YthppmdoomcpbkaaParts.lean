/- The walk of the law PhaseParts: it returns true, for every input. -/
import Derived.Test.YthppmdoomcpbkaaPhase
import Derived.Test.YthppmdoomcpbkaaPartsPlain
import Derived.Test.YthppmdoomcpbkaaSame
namespace Go.Proofs.Ythppmdoomcpbkaa
open Go.ChangeShapes Go.WideShapes Go.ChangeAt Go.RowKit

theorem in1_ok (n lo hi : Int) (w : World) (h1 : lo ≤ n) (h2 : n ≤ hi) :
    Calls Try.prog 19 #[.int .i64 n, .int .i64 lo, .int .i64 hi] w fun e w' => e = .returned (.bool true) ∧ w = w' := by
  go_enter Try.func19, Try.ntmps19
  go_wp2
  go_ret
  exact ⟨rfl, rfl⟩

set_option maxHeartbeats 400000 in
theorem phaseFact_ok (w : World) : Calls Try.prog 18 #[] w fun e w' => e = .returned (.bool true) ∧ Below w.heap.size w w' := by
  go_enter Try.func18, Try.ntmps18
  go_wp2_with fail
  have h0 := RI.lit w #[.int .i64 1, .int .i64 2, .int .i64 1, .int .i64 3, .int .i64 3, .int .i64 1, .int .i64 2] 3 [1, 2, 1, 3, 3, 1, 2] 7 rfl rfl
  have hB0 := (Below.refl w.heap.size w).alloc (Nat.le_refl _) (.cells #[.int .i64 1, .int .i64 2, .int .i64 1, .int .i64 3, .int .i64 3, .int .i64 1, .int .i64 2] 3)
  refine (starts_ok _ _ _ _ _ _ h0 (by simp [GoodReqs, AllIn])).mono ?_; rintro e w1 ⟨A2, n2, c2, rfl, R2, hn2, hB1⟩
  have hB01 := hB0.trans (hB1.mono hB0.size)
  have e2 : startsL (Int.toNat 2) [1, 2, 1, 3, 3, 1, 2] (List.length [(1 : Int), 2, 1, 3, 3, 1, 2]) = [0, 3, 6] := by decide
  rw [e2] at R2
  clear e2
  have hw1 := hB01.size
  have M2 : Hid (eqI [0, 3, 6] [0, 3, 6] = true) := by simp [Hid, eqI]
  go_wp2_with fail
  have h2 := RI.lit w1 #[.int .i64 0, .int .i64 3, .int .i64 6] 3 [0, 3, 6] 3 rfl rfl
  refine (ints_any _ _ _ _ _ _ _ _ _ ((Row.reads R2).below ((Below.refl w1.heap.size w1).alloc (Nat.le_refl _) _)) h2 (by omega) (by omega)).mono ?_; rintro e w' ⟨rfl, d, rfl⟩
  rw [M2.out]
  go_wp2
  go_ret
  exact ⟨rfl, belowN (hB01.alloc hw1 _) _⟩

end Go.Proofs.Ythppmdoomcpbkaa
