/- The walk of the law SkiSays: it returns true, for every input. -/
import Derived.Test.YtjflmcglnofooaaDoorDoor
import Derived.Test.YtjflmcglnofooaaDoorSkiWalks
namespace Go.Proofs.YtjflmcglnofooaaDoor
open Go.ChangeShapes Go.WideShapes Go.ChangeAt Go.RowKit

theorem lin_ok (n lo hi : Int) (w : World) (h1 : lo ≤ n) (h2 : n ≤ hi) :
    Calls Tryd.prog 4 #[.int .i64 n, .int .i64 lo, .int .i64 hi] w fun e w' => e = .returned (.bool true) ∧ w = w' := by
  go_enter Tryd.func4, Tryd.ntmps4
  go_wp2
  go_ret
  exact ⟨rfl, rfl⟩
theorem lin_no (n lo hi : Int) (w : World) (h : n < lo ∨ hi < n) :
    Calls Tryd.prog 4 #[.int .i64 n, .int .i64 lo, .int .i64 hi] w fun e w' => e = .returned (.bool false) ∧ w = w' := by
  by_cases h1 : lo ≤ n
  · have h2 : ¬ n ≤ hi := by omega
    clear h
    go_enter Tryd.func4, Tryd.ntmps4
    go_wp2
    go_ret
    exact ⟨rfl, rfl⟩
  · clear h
    go_enter Tryd.func4, Tryd.ntmps4
    go_wp2
    go_ret
    exact ⟨rfl, rfl⟩


set_option maxHeartbeats 1000000 in
theorem says_p (p d b : Int) (w : World) (hg0 : HErr w) (hp : p < 1 ∨ 20 < p) :
    Calls Tryd.prog 3 #[.int .i64 p, .int .i64 d, .int .i64 b] w fun e w' => e = .returned (.bool true) ∧ Below w.heap.size w w' := by
  have hB0 := Below.refl w.heap.size w
  have hn : ¬ (1 ≤ p ∧ p ≤ 20 ∧ 0 ≤ d ∧ d ≤ 1000) := by omega
  have HN := Lib.hid hn
  have HNB : Hid (¬ (1 ≤ p ∧ p ≤ 20 ∧ 0 ≤ d ∧ d ≤ 1000 ∧ 1 ≤ b ∧ b ≤ 1000)) := Lib.hid (by omega)
  clear hn
  have HP := Lib.hid hp
  clear hp
  go_enter Tryd.func3, Tryd.ntmps3
  go_wp2_with fail
  refine (lin_no _ _ _ _ HP.out).mono ?_; rintro e w' ⟨rfl, rfl⟩
  go_wp2_with fail
  refine (skiCheck_no _ _ _ HN.out).mono ?_; rintro e w' ⟨rfl, rfl⟩
  go_wp2_with fail
  refine (err_errno 1 _ hg0).mono ?_; rintro e w1 ⟨rfl, hC1⟩
  have hB1 := hB0.trans (hC1.mono hB0.size)
  have hg1 := hg0.below hC1
  go_wp2_with fail
  refine (even_no _ _ _ HN.out).mono ?_; rintro e w' ⟨rfl, rfl⟩
  go_wp2_with fail
  refine (err_errno 1 _ hg1).mono ?_; rintro e w2 ⟨rfl, hC2⟩
  have hB2 := hB1.trans (hC2.mono hB1.size)
  have hg2 := hg1.below hC2
  go_wp2_with fail
  refine (skiLeast_no _ _ _ HN.out).mono ?_; rintro e w' ⟨rfl, rfl⟩
  go_wp2_with fail
  refine (err_errno 1 _ hg2).mono ?_; rintro e w3 ⟨rfl, hC3⟩
  have hB3 := hB2.trans (hC3.mono hB2.size)
  have hg3 := hg2.below hC3
  go_wp2_with fail
  refine (cost_no _ _ _ _ HNB.out).mono ?_; rintro e w' ⟨rfl, rfl⟩
  go_wp2_with fail
  refine (err_errno 1 _ hg3).mono ?_; rintro e w4 ⟨rfl, hC4⟩
  have hB4 := hB3.trans (hC4.mono hB3.size)
  have hg4 := hg3.below hC4
  go_wp2
  go_ret
  exact ⟨rfl, hB4⟩

set_option maxHeartbeats 1000000 in
theorem says_d (p d b : Int) (w : World) (hg0 : HErr w) (h1 : 1 ≤ p) (h2 : p ≤ 20) (hd : d < 0 ∨ 1000 < d) :
    Calls Tryd.prog 3 #[.int .i64 p, .int .i64 d, .int .i64 b] w fun e w' => e = .returned (.bool true) ∧ Below w.heap.size w w' := by
  have hB0 := Below.refl w.heap.size w
  have hn : ¬ (1 ≤ p ∧ p ≤ 20 ∧ 0 ≤ d ∧ d ≤ 1000) := by omega
  have HN := Lib.hid hn
  have HNB : Hid (¬ (1 ≤ p ∧ p ≤ 20 ∧ 0 ≤ d ∧ d ≤ 1000 ∧ 1 ≤ b ∧ b ≤ 1000)) := Lib.hid (by omega)
  clear hn
  have HD := Lib.hid hd
  clear hd
  go_enter Tryd.func3, Tryd.ntmps3
  go_wp2_with fail
  refine (lin_ok _ _ _ _ h1 h2).mono ?_; rintro e w' ⟨rfl, rfl⟩
  go_wp2_with fail
  refine (lin_no _ _ _ _ HD.out).mono ?_; rintro e w' ⟨rfl, rfl⟩
  go_wp2_with fail
  refine (skiCheck_no _ _ _ HN.out).mono ?_; rintro e w' ⟨rfl, rfl⟩
  go_wp2_with fail
  refine (err_errno 1 _ hg0).mono ?_; rintro e w1 ⟨rfl, hC1⟩
  have hB1 := hB0.trans (hC1.mono hB0.size)
  have hg1 := hg0.below hC1
  go_wp2_with fail
  refine (even_no _ _ _ HN.out).mono ?_; rintro e w' ⟨rfl, rfl⟩
  go_wp2_with fail
  refine (err_errno 1 _ hg1).mono ?_; rintro e w2 ⟨rfl, hC2⟩
  have hB2 := hB1.trans (hC2.mono hB1.size)
  have hg2 := hg1.below hC2
  go_wp2_with fail
  refine (skiLeast_no _ _ _ HN.out).mono ?_; rintro e w' ⟨rfl, rfl⟩
  go_wp2_with fail
  refine (err_errno 1 _ hg2).mono ?_; rintro e w3 ⟨rfl, hC3⟩
  have hB3 := hB2.trans (hC3.mono hB2.size)
  have hg3 := hg2.below hC3
  go_wp2_with fail
  refine (cost_no _ _ _ _ HNB.out).mono ?_; rintro e w' ⟨rfl, rfl⟩
  go_wp2_with fail
  refine (err_errno 1 _ hg3).mono ?_; rintro e w4 ⟨rfl, hC4⟩
  have hB4 := hB3.trans (hC4.mono hB3.size)
  have hg4 := hg3.below hC4
  go_wp2
  go_ret
  exact ⟨rfl, hB4⟩

set_option maxHeartbeats 1000000 in
theorem says_lt_no (p d b : Int) (w : World) (hg0 : HErr w) (h1 : 1 ≤ p) (h2 : p ≤ 20) (h3 : 0 ≤ d) (h4 : d ≤ 1000) (hpd : p < d) (hb : b < 1 ∨ 1000 < b) :
    Calls Tryd.prog 3 #[.int .i64 p, .int .i64 d, .int .i64 b] w fun e w' => e = .returned (.bool true) ∧ Below w.heap.size w w' := by
  have hB0 := Below.refl w.heap.size w
  have HE : Hid (costF p d p = 2 * p - 1) := Lib.hid (by unfold costF; split <;> omega)
  have HL : Hid (leastF p d = p) := Lib.hid (by unfold leastF; split <;> omega)
  have h8 : p ≤ d := by omega
  have h9 : ¬ d < p := by omega
  have gx : ∀ x : Int, ((x : Int) == x) = true := by simp
  have HB := Lib.hid hb
  clear hb
  go_enter Tryd.func3, Tryd.ntmps3
  go_wp2_with fail
  refine (lin_ok _ _ _ _ h1 h2).mono ?_; rintro e w' ⟨rfl, rfl⟩
  go_wp2_with fail
  refine (lin_ok _ _ _ _ h3 h4).mono ?_; rintro e w' ⟨rfl, rfl⟩
  go_wp2_with fail
  refine (skiCheck_ok _ _ _ h1 h2 h3 h4).mono ?_; rintro e w' ⟨rfl, rfl⟩
  go_wp2_with fail
  refine (err_nil _).mono ?_; rintro e w' ⟨rfl, rfl⟩
  go_wp2_with fail
  refine (even_ok _ _ _ h1 h2 h3 h4).mono ?_; rintro e w' ⟨rfl, rfl⟩
  rw [HE.out]
  go_wp2_with fail
  refine (err_nil _).mono ?_; rintro e w' ⟨rfl, rfl⟩
  go_wp2_with fail
  refine (skiLeast_ok _ _ _ h1 h2 h3 h4).mono ?_; rintro e w' ⟨rfl, rfl⟩
  rw [HL.out]
  go_wp2_with fail
  refine (err_nil _).mono ?_; rintro e w' ⟨rfl, rfl⟩
  go_wp2_with fail
  refine (lin_no _ _ _ _ HB.out).mono ?_; rintro e w' ⟨rfl, rfl⟩
  go_wp2_with fail
  refine (cost_no _ _ _ _ (by have := HB.out; omega)).mono ?_; rintro e w' ⟨rfl, rfl⟩
  go_wp2_with fail
  refine (err_errno 1 _ hg0).mono ?_; rintro e w1 ⟨rfl, hC1⟩
  have hB1 := hB0.trans (hC1.mono hB0.size)
  have hg1 := hg0.below hC1
  go_wp2
  go_ret
  exact ⟨rfl, hB1⟩

set_option maxHeartbeats 1000000 in
theorem says_lt_le (p d b : Int) (w : World) (hg0 : HErr w) (h1 : 1 ≤ p) (h2 : p ≤ 20) (h3 : 0 ≤ d) (h4 : d ≤ 1000) (hpd : p < d) (h5 : 1 ≤ b) (h6 : b ≤ 1000) (hbd : b ≤ d) :
    Calls Tryd.prog 3 #[.int .i64 p, .int .i64 d, .int .i64 b] w fun e w' => e = .returned (.bool true) ∧ Below w.heap.size w w' := by
  have hB0 := Below.refl w.heap.size w
  have HE : Hid (costF p d p = 2 * p - 1) := Lib.hid (by unfold costF; split <;> omega)
  have HL : Hid (leastF p d = p) := Lib.hid (by unfold leastF; split <;> omega)
  have h8 : p ≤ d := by omega
  have h9 : ¬ d < p := by omega
  have gx : ∀ x : Int, ((x : Int) == x) = true := by simp
  have HC : Hid (costF p d b = b - 1 + p) := Lib.hid (by unfold costF; split <;> omega)
  have h10 : ¬ d < b := by omega
  go_enter Tryd.func3, Tryd.ntmps3
  go_wp2_with fail
  refine (lin_ok _ _ _ _ h1 h2).mono ?_; rintro e w' ⟨rfl, rfl⟩
  go_wp2_with fail
  refine (lin_ok _ _ _ _ h3 h4).mono ?_; rintro e w' ⟨rfl, rfl⟩
  go_wp2_with fail
  refine (skiCheck_ok _ _ _ h1 h2 h3 h4).mono ?_; rintro e w' ⟨rfl, rfl⟩
  go_wp2_with fail
  refine (err_nil _).mono ?_; rintro e w' ⟨rfl, rfl⟩
  go_wp2_with fail
  refine (even_ok _ _ _ h1 h2 h3 h4).mono ?_; rintro e w' ⟨rfl, rfl⟩
  rw [HE.out]
  go_wp2_with fail
  refine (err_nil _).mono ?_; rintro e w' ⟨rfl, rfl⟩
  go_wp2_with fail
  refine (skiLeast_ok _ _ _ h1 h2 h3 h4).mono ?_; rintro e w' ⟨rfl, rfl⟩
  rw [HL.out]
  go_wp2_with fail
  refine (err_nil _).mono ?_; rintro e w' ⟨rfl, rfl⟩
  go_wp2_with fail
  refine (lin_ok _ _ _ _ h5 h6).mono ?_; rintro e w' ⟨rfl, rfl⟩
  go_wp2_with fail
  refine (cost_ok _ _ _ _ h1 h2 h3 h4 h5 h6).mono ?_; rintro e w' ⟨rfl, rfl⟩
  rw [HC.out]
  go_wp2_with fail
  refine (err_nil _).mono ?_; rintro e w' ⟨rfl, rfl⟩
  go_wp2
  go_ret
  exact ⟨by simp, hB0⟩

set_option maxHeartbeats 1000000 in
theorem says_lt_gt (p d b : Int) (w : World) (hg0 : HErr w) (h1 : 1 ≤ p) (h2 : p ≤ 20) (h3 : 0 ≤ d) (h4 : d ≤ 1000) (hpd : p < d) (h5 : 1 ≤ b) (h6 : b ≤ 1000) (hbd : d < b) :
    Calls Tryd.prog 3 #[.int .i64 p, .int .i64 d, .int .i64 b] w fun e w' => e = .returned (.bool true) ∧ Below w.heap.size w w' := by
  have hB0 := Below.refl w.heap.size w
  have HE : Hid (costF p d p = 2 * p - 1) := Lib.hid (by unfold costF; split <;> omega)
  have HL : Hid (leastF p d = p) := Lib.hid (by unfold leastF; split <;> omega)
  have h8 : p ≤ d := by omega
  have h9 : ¬ d < p := by omega
  have gx : ∀ x : Int, ((x : Int) == x) = true := by simp
  have HC : Hid (costF p d b = d) := Lib.hid (by unfold costF; split <;> omega)
  go_enter Tryd.func3, Tryd.ntmps3
  go_wp2_with fail
  refine (lin_ok _ _ _ _ h1 h2).mono ?_; rintro e w' ⟨rfl, rfl⟩
  go_wp2_with fail
  refine (lin_ok _ _ _ _ h3 h4).mono ?_; rintro e w' ⟨rfl, rfl⟩
  go_wp2_with fail
  refine (skiCheck_ok _ _ _ h1 h2 h3 h4).mono ?_; rintro e w' ⟨rfl, rfl⟩
  go_wp2_with fail
  refine (err_nil _).mono ?_; rintro e w' ⟨rfl, rfl⟩
  go_wp2_with fail
  refine (even_ok _ _ _ h1 h2 h3 h4).mono ?_; rintro e w' ⟨rfl, rfl⟩
  rw [HE.out]
  go_wp2_with fail
  refine (err_nil _).mono ?_; rintro e w' ⟨rfl, rfl⟩
  go_wp2_with fail
  refine (skiLeast_ok _ _ _ h1 h2 h3 h4).mono ?_; rintro e w' ⟨rfl, rfl⟩
  rw [HL.out]
  go_wp2_with fail
  refine (err_nil _).mono ?_; rintro e w' ⟨rfl, rfl⟩
  go_wp2_with fail
  refine (lin_ok _ _ _ _ h5 h6).mono ?_; rintro e w' ⟨rfl, rfl⟩
  go_wp2_with fail
  refine (cost_ok _ _ _ _ h1 h2 h3 h4 h5 h6).mono ?_; rintro e w' ⟨rfl, rfl⟩
  rw [HC.out]
  go_wp2_with fail
  refine (err_nil _).mono ?_; rintro e w' ⟨rfl, rfl⟩
  go_wp2
  go_ret
  exact ⟨by simp, hB0⟩

set_option maxHeartbeats 1000000 in
theorem says_eq_no (p d b : Int) (w : World) (hg0 : HErr w) (h1 : 1 ≤ p) (h2 : p ≤ 20) (h3 : 0 ≤ d) (h4 : d ≤ 1000) (hpd : p = d) (hb : b < 1 ∨ 1000 < b) :
    Calls Tryd.prog 3 #[.int .i64 p, .int .i64 d, .int .i64 b] w fun e w' => e = .returned (.bool true) ∧ Below w.heap.size w w' := by
  have hB0 := Below.refl w.heap.size w
  subst hpd
  have HE : Hid (costF p p p = 2 * p - 1) := Lib.hid (by unfold costF; split <;> omega)
  have HL : Hid (leastF p p = p) := Lib.hid (by unfold leastF; split <;> omega)
  have h7 : ¬ p < p := by omega
  have h8 : p ≤ p := by omega
  have gx : ∀ x : Int, ((x : Int) == x) = true := by simp
  have HB := Lib.hid hb
  clear hb
  go_enter Tryd.func3, Tryd.ntmps3
  go_wp2_with fail
  refine (lin_ok _ _ _ _ h1 h2).mono ?_; rintro e w' ⟨rfl, rfl⟩
  go_wp2_with fail
  refine (lin_ok _ _ _ _ h3 h4).mono ?_; rintro e w' ⟨rfl, rfl⟩
  go_wp2_with fail
  refine (skiCheck_ok _ _ _ h1 h2 h3 h4).mono ?_; rintro e w' ⟨rfl, rfl⟩
  go_wp2_with fail
  refine (err_nil _).mono ?_; rintro e w' ⟨rfl, rfl⟩
  go_wp2_with fail
  refine (even_ok _ _ _ h1 h2 h3 h4).mono ?_; rintro e w' ⟨rfl, rfl⟩
  rw [HE.out]
  go_wp2_with fail
  refine (err_nil _).mono ?_; rintro e w' ⟨rfl, rfl⟩
  go_wp2_with fail
  refine (skiLeast_ok _ _ _ h1 h2 h3 h4).mono ?_; rintro e w' ⟨rfl, rfl⟩
  rw [HL.out]
  go_wp2_with fail
  refine (err_nil _).mono ?_; rintro e w' ⟨rfl, rfl⟩
  go_wp2_with fail
  refine (lin_no _ _ _ _ HB.out).mono ?_; rintro e w' ⟨rfl, rfl⟩
  go_wp2_with fail
  refine (cost_no _ _ _ _ (by have := HB.out; omega)).mono ?_; rintro e w' ⟨rfl, rfl⟩
  go_wp2_with fail
  refine (err_errno 1 _ hg0).mono ?_; rintro e w1 ⟨rfl, hC1⟩
  have hB1 := hB0.trans (hC1.mono hB0.size)
  have hg1 := hg0.below hC1
  go_wp2
  go_ret
  exact ⟨rfl, hB1⟩

set_option maxHeartbeats 1000000 in
theorem says_eq_le (p d b : Int) (w : World) (hg0 : HErr w) (h1 : 1 ≤ p) (h2 : p ≤ 20) (h3 : 0 ≤ d) (h4 : d ≤ 1000) (hpd : p = d) (h5 : 1 ≤ b) (h6 : b ≤ 1000) (hbd : b ≤ d) :
    Calls Tryd.prog 3 #[.int .i64 p, .int .i64 d, .int .i64 b] w fun e w' => e = .returned (.bool true) ∧ Below w.heap.size w w' := by
  have hB0 := Below.refl w.heap.size w
  subst hpd
  have HE : Hid (costF p p p = 2 * p - 1) := Lib.hid (by unfold costF; split <;> omega)
  have HL : Hid (leastF p p = p) := Lib.hid (by unfold leastF; split <;> omega)
  have h7 : ¬ p < p := by omega
  have h8 : p ≤ p := by omega
  have gx : ∀ x : Int, ((x : Int) == x) = true := by simp
  have HC : Hid (costF p p b = b - 1 + p) := Lib.hid (by unfold costF; split <;> omega)
  have h10 : ¬ p < b := by omega
  go_enter Tryd.func3, Tryd.ntmps3
  go_wp2_with fail
  refine (lin_ok _ _ _ _ h1 h2).mono ?_; rintro e w' ⟨rfl, rfl⟩
  go_wp2_with fail
  refine (lin_ok _ _ _ _ h3 h4).mono ?_; rintro e w' ⟨rfl, rfl⟩
  go_wp2_with fail
  refine (skiCheck_ok _ _ _ h1 h2 h3 h4).mono ?_; rintro e w' ⟨rfl, rfl⟩
  go_wp2_with fail
  refine (err_nil _).mono ?_; rintro e w' ⟨rfl, rfl⟩
  go_wp2_with fail
  refine (even_ok _ _ _ h1 h2 h3 h4).mono ?_; rintro e w' ⟨rfl, rfl⟩
  rw [HE.out]
  go_wp2_with fail
  refine (err_nil _).mono ?_; rintro e w' ⟨rfl, rfl⟩
  go_wp2_with fail
  refine (skiLeast_ok _ _ _ h1 h2 h3 h4).mono ?_; rintro e w' ⟨rfl, rfl⟩
  rw [HL.out]
  go_wp2_with fail
  refine (err_nil _).mono ?_; rintro e w' ⟨rfl, rfl⟩
  go_wp2_with fail
  refine (lin_ok _ _ _ _ h5 h6).mono ?_; rintro e w' ⟨rfl, rfl⟩
  go_wp2_with fail
  refine (cost_ok _ _ _ _ h1 h2 h3 h4 h5 h6).mono ?_; rintro e w' ⟨rfl, rfl⟩
  rw [HC.out]
  go_wp2_with fail
  refine (err_nil _).mono ?_; rintro e w' ⟨rfl, rfl⟩
  go_wp2
  go_ret
  exact ⟨by simp, hB0⟩

set_option maxHeartbeats 1000000 in
theorem says_eq_gt (p d b : Int) (w : World) (hg0 : HErr w) (h1 : 1 ≤ p) (h2 : p ≤ 20) (h3 : 0 ≤ d) (h4 : d ≤ 1000) (hpd : p = d) (h5 : 1 ≤ b) (h6 : b ≤ 1000) (hbd : d < b) :
    Calls Tryd.prog 3 #[.int .i64 p, .int .i64 d, .int .i64 b] w fun e w' => e = .returned (.bool true) ∧ Below w.heap.size w w' := by
  have hB0 := Below.refl w.heap.size w
  subst hpd
  have HE : Hid (costF p p p = 2 * p - 1) := Lib.hid (by unfold costF; split <;> omega)
  have HL : Hid (leastF p p = p) := Lib.hid (by unfold leastF; split <;> omega)
  have h7 : ¬ p < p := by omega
  have h8 : p ≤ p := by omega
  have gx : ∀ x : Int, ((x : Int) == x) = true := by simp
  have HC : Hid (costF p p b = p) := Lib.hid (by unfold costF; split <;> omega)
  go_enter Tryd.func3, Tryd.ntmps3
  go_wp2_with fail
  refine (lin_ok _ _ _ _ h1 h2).mono ?_; rintro e w' ⟨rfl, rfl⟩
  go_wp2_with fail
  refine (lin_ok _ _ _ _ h3 h4).mono ?_; rintro e w' ⟨rfl, rfl⟩
  go_wp2_with fail
  refine (skiCheck_ok _ _ _ h1 h2 h3 h4).mono ?_; rintro e w' ⟨rfl, rfl⟩
  go_wp2_with fail
  refine (err_nil _).mono ?_; rintro e w' ⟨rfl, rfl⟩
  go_wp2_with fail
  refine (even_ok _ _ _ h1 h2 h3 h4).mono ?_; rintro e w' ⟨rfl, rfl⟩
  rw [HE.out]
  go_wp2_with fail
  refine (err_nil _).mono ?_; rintro e w' ⟨rfl, rfl⟩
  go_wp2_with fail
  refine (skiLeast_ok _ _ _ h1 h2 h3 h4).mono ?_; rintro e w' ⟨rfl, rfl⟩
  rw [HL.out]
  go_wp2_with fail
  refine (err_nil _).mono ?_; rintro e w' ⟨rfl, rfl⟩
  go_wp2_with fail
  refine (lin_ok _ _ _ _ h5 h6).mono ?_; rintro e w' ⟨rfl, rfl⟩
  go_wp2_with fail
  refine (cost_ok _ _ _ _ h1 h2 h3 h4 h5 h6).mono ?_; rintro e w' ⟨rfl, rfl⟩
  rw [HC.out]
  go_wp2_with fail
  refine (err_nil _).mono ?_; rintro e w' ⟨rfl, rfl⟩
  go_wp2
  go_ret
  exact ⟨by simp, hB0⟩

set_option maxHeartbeats 1000000 in
theorem says_gt_no (p d b : Int) (w : World) (hg0 : HErr w) (h1 : 1 ≤ p) (h2 : p ≤ 20) (h3 : 0 ≤ d) (h4 : d ≤ 1000) (hpd : d < p) (hb : b < 1 ∨ 1000 < b) :
    Calls Tryd.prog 3 #[.int .i64 p, .int .i64 d, .int .i64 b] w fun e w' => e = .returned (.bool true) ∧ Below w.heap.size w w' := by
  have hB0 := Below.refl w.heap.size w
  have HE : Hid (costF p d p = d) := Lib.hid (by unfold costF; split <;> omega)
  have HL : Hid (leastF p d = d) := Lib.hid (by unfold leastF; split <;> omega)
  have h7 : ¬ p < d := by omega
  have h8 : ¬ p ≤ d := by omega
  have gx : ∀ x : Int, ((x : Int) == x) = true := by simp
  have HB := Lib.hid hb
  clear hb
  go_enter Tryd.func3, Tryd.ntmps3
  go_wp2_with fail
  refine (lin_ok _ _ _ _ h1 h2).mono ?_; rintro e w' ⟨rfl, rfl⟩
  go_wp2_with fail
  refine (lin_ok _ _ _ _ h3 h4).mono ?_; rintro e w' ⟨rfl, rfl⟩
  go_wp2_with fail
  refine (skiCheck_ok _ _ _ h1 h2 h3 h4).mono ?_; rintro e w' ⟨rfl, rfl⟩
  go_wp2_with fail
  refine (err_nil _).mono ?_; rintro e w' ⟨rfl, rfl⟩
  go_wp2_with fail
  refine (even_ok _ _ _ h1 h2 h3 h4).mono ?_; rintro e w' ⟨rfl, rfl⟩
  rw [HE.out]
  go_wp2_with fail
  refine (err_nil _).mono ?_; rintro e w' ⟨rfl, rfl⟩
  go_wp2_with fail
  refine (skiLeast_ok _ _ _ h1 h2 h3 h4).mono ?_; rintro e w' ⟨rfl, rfl⟩
  rw [HL.out]
  go_wp2_with fail
  refine (err_nil _).mono ?_; rintro e w' ⟨rfl, rfl⟩
  go_wp2_with fail
  refine (lin_no _ _ _ _ HB.out).mono ?_; rintro e w' ⟨rfl, rfl⟩
  go_wp2_with fail
  refine (cost_no _ _ _ _ (by have := HB.out; omega)).mono ?_; rintro e w' ⟨rfl, rfl⟩
  go_wp2_with fail
  refine (err_errno 1 _ hg0).mono ?_; rintro e w1 ⟨rfl, hC1⟩
  have hB1 := hB0.trans (hC1.mono hB0.size)
  have hg1 := hg0.below hC1
  go_wp2
  go_ret
  exact ⟨rfl, hB1⟩

set_option maxHeartbeats 1000000 in
theorem says_gt_le (p d b : Int) (w : World) (hg0 : HErr w) (h1 : 1 ≤ p) (h2 : p ≤ 20) (h3 : 0 ≤ d) (h4 : d ≤ 1000) (hpd : d < p) (h5 : 1 ≤ b) (h6 : b ≤ 1000) (hbd : b ≤ d) :
    Calls Tryd.prog 3 #[.int .i64 p, .int .i64 d, .int .i64 b] w fun e w' => e = .returned (.bool true) ∧ Below w.heap.size w w' := by
  have hB0 := Below.refl w.heap.size w
  have HE : Hid (costF p d p = d) := Lib.hid (by unfold costF; split <;> omega)
  have HL : Hid (leastF p d = d) := Lib.hid (by unfold leastF; split <;> omega)
  have h7 : ¬ p < d := by omega
  have h8 : ¬ p ≤ d := by omega
  have gx : ∀ x : Int, ((x : Int) == x) = true := by simp
  have HC : Hid (costF p d b = b - 1 + p) := Lib.hid (by unfold costF; split <;> omega)
  have h10 : ¬ d < b := by omega
  go_enter Tryd.func3, Tryd.ntmps3
  go_wp2_with fail
  refine (lin_ok _ _ _ _ h1 h2).mono ?_; rintro e w' ⟨rfl, rfl⟩
  go_wp2_with fail
  refine (lin_ok _ _ _ _ h3 h4).mono ?_; rintro e w' ⟨rfl, rfl⟩
  go_wp2_with fail
  refine (skiCheck_ok _ _ _ h1 h2 h3 h4).mono ?_; rintro e w' ⟨rfl, rfl⟩
  go_wp2_with fail
  refine (err_nil _).mono ?_; rintro e w' ⟨rfl, rfl⟩
  go_wp2_with fail
  refine (even_ok _ _ _ h1 h2 h3 h4).mono ?_; rintro e w' ⟨rfl, rfl⟩
  rw [HE.out]
  go_wp2_with fail
  refine (err_nil _).mono ?_; rintro e w' ⟨rfl, rfl⟩
  go_wp2_with fail
  refine (skiLeast_ok _ _ _ h1 h2 h3 h4).mono ?_; rintro e w' ⟨rfl, rfl⟩
  rw [HL.out]
  go_wp2_with fail
  refine (err_nil _).mono ?_; rintro e w' ⟨rfl, rfl⟩
  go_wp2_with fail
  refine (lin_ok _ _ _ _ h5 h6).mono ?_; rintro e w' ⟨rfl, rfl⟩
  go_wp2_with fail
  refine (cost_ok _ _ _ _ h1 h2 h3 h4 h5 h6).mono ?_; rintro e w' ⟨rfl, rfl⟩
  rw [HC.out]
  go_wp2_with fail
  refine (err_nil _).mono ?_; rintro e w' ⟨rfl, rfl⟩
  go_wp2
  go_ret
  exact ⟨by simp, hB0⟩

set_option maxHeartbeats 1000000 in
theorem says_gt_gt (p d b : Int) (w : World) (hg0 : HErr w) (h1 : 1 ≤ p) (h2 : p ≤ 20) (h3 : 0 ≤ d) (h4 : d ≤ 1000) (hpd : d < p) (h5 : 1 ≤ b) (h6 : b ≤ 1000) (hbd : d < b) :
    Calls Tryd.prog 3 #[.int .i64 p, .int .i64 d, .int .i64 b] w fun e w' => e = .returned (.bool true) ∧ Below w.heap.size w w' := by
  have hB0 := Below.refl w.heap.size w
  have HE : Hid (costF p d p = d) := Lib.hid (by unfold costF; split <;> omega)
  have HL : Hid (leastF p d = d) := Lib.hid (by unfold leastF; split <;> omega)
  have h7 : ¬ p < d := by omega
  have h8 : ¬ p ≤ d := by omega
  have gx : ∀ x : Int, ((x : Int) == x) = true := by simp
  have HC : Hid (costF p d b = d) := Lib.hid (by unfold costF; split <;> omega)
  go_enter Tryd.func3, Tryd.ntmps3
  go_wp2_with fail
  refine (lin_ok _ _ _ _ h1 h2).mono ?_; rintro e w' ⟨rfl, rfl⟩
  go_wp2_with fail
  refine (lin_ok _ _ _ _ h3 h4).mono ?_; rintro e w' ⟨rfl, rfl⟩
  go_wp2_with fail
  refine (skiCheck_ok _ _ _ h1 h2 h3 h4).mono ?_; rintro e w' ⟨rfl, rfl⟩
  go_wp2_with fail
  refine (err_nil _).mono ?_; rintro e w' ⟨rfl, rfl⟩
  go_wp2_with fail
  refine (even_ok _ _ _ h1 h2 h3 h4).mono ?_; rintro e w' ⟨rfl, rfl⟩
  rw [HE.out]
  go_wp2_with fail
  refine (err_nil _).mono ?_; rintro e w' ⟨rfl, rfl⟩
  go_wp2_with fail
  refine (skiLeast_ok _ _ _ h1 h2 h3 h4).mono ?_; rintro e w' ⟨rfl, rfl⟩
  rw [HL.out]
  go_wp2_with fail
  refine (err_nil _).mono ?_; rintro e w' ⟨rfl, rfl⟩
  go_wp2_with fail
  refine (lin_ok _ _ _ _ h5 h6).mono ?_; rintro e w' ⟨rfl, rfl⟩
  go_wp2_with fail
  refine (cost_ok _ _ _ _ h1 h2 h3 h4 h5 h6).mono ?_; rintro e w' ⟨rfl, rfl⟩
  rw [HC.out]
  go_wp2_with fail
  refine (err_nil _).mono ?_; rintro e w' ⟨rfl, rfl⟩
  go_wp2
  go_ret
  exact ⟨by simp, hB0⟩

theorem law_SkiSays (p d b : Int) (w : World) (hg : HErr w) :
    Calls Tryd.prog 3 #[.int .i64 p, .int .i64 d, .int .i64 b] w fun e w' => e = .returned (.bool true) ∧ Below w.heap.size w w' := by
  by_cases hp : 1 ≤ p ∧ p ≤ 20
  · obtain ⟨h1, h2⟩ := hp
    by_cases hd : 0 ≤ d ∧ d ≤ 1000
    · obtain ⟨h3, h4⟩ := hd
      by_cases hb : 1 ≤ b ∧ b ≤ 1000
      · obtain ⟨h5, h6⟩ := hb
        by_cases hbd : b ≤ d
        · by_cases a : p < d
          · exact says_lt_le p d b w hg h1 h2 h3 h4 a h5 h6 hbd
          · by_cases c : p = d
            · exact says_eq_le p d b w hg h1 h2 h3 h4 c h5 h6 hbd
            · exact says_gt_le p d b w hg h1 h2 h3 h4 (by omega) h5 h6 hbd
        · by_cases a : p < d
          · exact says_lt_gt p d b w hg h1 h2 h3 h4 a h5 h6 (by omega)
          · by_cases c : p = d
            · exact says_eq_gt p d b w hg h1 h2 h3 h4 c h5 h6 (by omega)
            · exact says_gt_gt p d b w hg h1 h2 h3 h4 (by omega) h5 h6 (by omega)
      · by_cases a : p < d
        · exact says_lt_no p d b w hg h1 h2 h3 h4 a (by omega)
        · by_cases c : p = d
          · exact says_eq_no p d b w hg h1 h2 h3 h4 c (by omega)
          · exact says_gt_no p d b w hg h1 h2 h3 h4 (by omega) (by omega)
    · exact says_d p d b w hg h1 h2 (by omega)
  · exact says_p p d b w hg (by omega)
end Go.Proofs.YtjflmcglnofooaaDoor

