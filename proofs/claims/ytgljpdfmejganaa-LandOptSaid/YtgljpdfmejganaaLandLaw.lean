/- The walks of the laws on landlords: they return true, for every input. -/
import Derived.Test.YtgljpdfmejganaaLand
import Derived.Test.YtgljpdfmejganaaLandLst
import Derived.Test.YtgljpdfmejganaaLandFacts
import Derived.Test.YtgljpdfmejganaaSame
import Derived.IntWalk
namespace Go.Proofs.Ytgljpdfmejganaa
open Go.ChangeShapes Go.WideShapes Go.ChangeAt Go.RowKit

theorem linL_ok (n lo hi : Int) (w : World) (h1 : lo ≤ n) (h2 : n ≤ hi) :
    Calls Try.prog 11 #[.int .i64 n, .int .i64 lo, .int .i64 hi] w fun e w' => e = .returned (.bool true) ∧ w = w' := by
  go_enter Try.func11, Try.ntmps11
  go_wp2
  go_ret
  exact ⟨rfl, rfl⟩
theorem linL_no (n lo hi : Int) (w : World) (h : n < lo ∨ hi < n) :
    Calls Try.prog 11 #[.int .i64 n, .int .i64 lo, .int .i64 hi] w fun e w' => e = .returned (.bool false) ∧ w = w' := by
  by_cases h1 : lo ≤ n
  · have h2 : ¬ n ≤ hi := by omega
    clear h
    go_enter Try.func11, Try.ntmps11
    go_wp2
    go_ret
    exact ⟨rfl, rfl⟩
  · clear h
    go_enter Try.func11, Try.ntmps11
    go_wp2
    go_ret
    exact ⟨rfl, rfl⟩

set_option maxHeartbeats 1000000 in
theorem landFact_ok (w : World) : Calls Try.prog 10 #[] w fun e w' => e = .returned (.bool true) ∧ Below w.heap.size w w' := by
  have hgood : GoodL [0, 1, 2, 0] [5, 1, 1] 2 := by simp [GoodL, AllIn]
  have E2 := Lib.hid (show landRun [5, 1, 1] 2 [0, 1, 2, 0] = (7, [(0, 5), (2, 1)]) by decide)
  have hl : ∀ w : World, RI ((w.alloc (.cells #[.int .i64 0, .int .i64 1, .int .i64 2, .int .i64 0] 3)).alloc (.cells #[.int .i64 5, .int .i64 1, .int .i64 1] 3)) (some ⟨w.heap.size, 0, none⟩) 4 [0, 1, 2, 0] := fun w =>
    (RI.lit w #[.int .i64 0, .int .i64 1, .int .i64 2, .int .i64 0] 3 [0, 1, 2, 0] 4 rfl rfl).below ((Below.refl _ _).alloc (Nat.le_refl _) _)
  have hl2 : ∀ w : World, RI ((w.alloc (.cells #[.int .i64 0, .int .i64 1, .int .i64 2, .int .i64 0] 3)).alloc (.cells #[.int .i64 5, .int .i64 1, .int .i64 1] 3)) (some ⟨w.heap.size + 1, 0, none⟩) 3 [5, 1, 1] := fun w => by
    have := RI.lit (w.alloc (.cells #[.int .i64 0, .int .i64 1, .int .i64 2, .int .i64 0] 3)) #[.int .i64 5, .int .i64 1, .int .i64 1] 3 [5, 1, 1] 3 rfl rfl
    rwa [World.size_alloc] at this
  have hb : ∀ w : World, Below w.heap.size w ((w.alloc (.cells #[.int .i64 0, .int .i64 1, .int .i64 2, .int .i64 0] 3)).alloc (.cells #[.int .i64 5, .int .i64 1, .int .i64 1] 3)) := fun w =>
    ((Below.refl _ w).alloc (Nat.le_refl _) _).alloc (by simp) _
  go_enter Try.func10, Try.ntmps10
  go_wp2_with fail
  refine (ldrun_ok _ _ _ _ _ _ _ _ _ _ (hl w) (hl2 w) hgood).mono ?_; rintro e w1 ⟨A1, n1, c1, A2, c2, rfl, R1, _, _, hB1⟩
  rw [show (2 : Int).toNat = 2 from rfl, E2.out] at R1 ⊢
  have hn1 : n1 = 2 := by have := R1.len; simpa using this.symm
  subst hn1
  have hB01 := (hb w).trans (hB1.mono (by simp; omega))
  have R1' := R1.below ((hb w1).mono (Nat.le_refl _))
  go_wp2_with fail
  refine (ldleast_ok _ _ _ _ _ _ _ _ _ _ (hl w1) (hl2 w1) hgood).mono ?_; rintro e w2 ⟨v, rfl, hv, hB2⟩
  obtain rfl := leastC_fact hv
  have hw1 : w.heap.size ≤ w1.heap.size := hB01.size
  have hB02 := (hB01.trans ((hb w1).mono hw1)).trans (hB2.mono (by simp; omega))
  have R2 := R1'.below hB2
  have hw2 := hB02.size
  have M2 : Hid (eqI [0, 2] [0, 2] = true) := by simp [Hid, eqI]
  clear hv
  go_wp2_with fail
  have h2 := RI.lit w2 #[.int .i64 0, .int .i64 2] 3 [0, 2] 2 rfl rfl
  refine (ints_any _ _ _ _ _ _ _ _ _ ((Row.reads R2).below ((Below.refl w2.heap.size w2).alloc (Nat.le_refl _) _)) h2 (by omega) (by omega)).mono ?_; rintro e w' ⟨rfl, d, rfl⟩
  rw [show eqI (List.map Prod.fst (7, [((0 : Int), (5 : Int)), (2, 1)]).snd) [0, 2] = true from M2.out]
  go_wp2
  go_ret
  exact ⟨rfl, belowN (hB02.alloc hw2 _) _⟩

end Go.Proofs.Ytgljpdfmejganaa
