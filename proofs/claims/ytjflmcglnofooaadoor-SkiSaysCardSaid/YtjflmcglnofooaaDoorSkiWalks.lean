/- The walks of core.Within and of package ski: what each call returns, for every input. -/
import Derived.Test.YtjflmcglnofooaaDoorRows
import Derived.WalkKit
import Derived.ProofKit
import Derived.Outline
import Derived.Lib.Hide
namespace Go.Proofs.YtjflmcglnofooaaDoor
open Go.ChangeShapes Go.WideShapes Go.ChangeAt Go.RowKit

theorem within_ok (n lo hi : Int) (w : World) (h1 : lo ≤ n) (h2 : n ≤ hi) :
    Calls Tryd.prog 11 #[.int .i64 n, .int .i64 lo, .int .i64 hi] w fun e w' => e = .returned (.bool true) ∧ w = w' := by
  go_enter Tryd.func11, Tryd.ntmps11
  go_wp2
  go_ret
  exact ⟨rfl, rfl⟩

theorem within_no (n lo hi : Int) (w : World) (h : n < lo ∨ hi < n) :
    Calls Tryd.prog 11 #[.int .i64 n, .int .i64 lo, .int .i64 hi] w fun e w' => e = .returned (.bool false) ∧ w = w' := by
  by_cases h1 : lo ≤ n
  · have h2 : ¬ n ≤ hi := by omega
    clear h
    go_enter Tryd.func11, Tryd.ntmps11
    go_wp2
    go_ret
    exact ⟨rfl, rfl⟩
  · clear h
    go_enter Tryd.func11, Tryd.ntmps11
    go_wp2
    go_ret
    exact ⟨rfl, rfl⟩

theorem skiCheck_ok (p d : Int) (w : World) (h1 : 1 ≤ p) (h2 : p ≤ 20) (h3 : 0 ≤ d) (h4 : d ≤ 1000) :
    Calls Tryd.prog 6 #[.int .i64 p, .int .i64 d] w fun e w' => e = .returned .nilIface ∧ w = w' := by
  go_enter Tryd.func6, Tryd.ntmps6
  go_wp2_with (go_at_call 11; refine (within_ok _ _ _ _ (by omega) (by omega)).mono ?_; rintro e w' ⟨rfl, rfl⟩)
  go_ret
  exact ⟨rfl, rfl⟩

theorem skiCheck_no (p d : Int) (w : World) (h : ¬ (1 ≤ p ∧ p ≤ 20 ∧ 0 ≤ d ∧ d ≤ 1000)) :
    Calls Tryd.prog 6 #[.int .i64 p, .int .i64 d] w fun e w' => e = .returned (.iface 30 (.int .i64 1)) ∧ w = w' := by
  by_cases h1 : 1 ≤ p ∧ p ≤ 20
  · obtain ⟨h1, h2⟩ := h1
    have h3 : d < 0 ∨ 1000 < d := by omega
    clear h
    go_enter Tryd.func6, Tryd.ntmps6
    go_wp2_with fail
    refine (within_ok _ _ _ _ (by omega) (by omega)).mono ?_; rintro e w' ⟨rfl, rfl⟩
    go_wp2_with fail
    refine (within_no _ _ _ _ (by omega)).mono ?_; rintro e w' ⟨rfl, rfl⟩
    go_wp2
    go_ret
    exact ⟨rfl, rfl⟩
  · have h3 : p < 1 ∨ 20 < p := by omega
    clear h
    go_enter Tryd.func6, Tryd.ntmps6
    go_wp2_with fail
    refine (within_no _ _ _ _ (by omega)).mono ?_; rintro e w' ⟨rfl, rfl⟩
    go_wp2
    go_ret
    exact ⟨rfl, rfl⟩

def costF (p d b : Int) : Int := if d < b then d else b - 1 + p
theorem costF_lt (p d b : Int) (h : d < b) : costF p d b = d := if_pos h
theorem costF_ge (p d b : Int) (h : ¬ d < b) : costF p d b = b - 1 + p := if_neg h

theorem cost_ok (p d b : Int) (w : World) (h1 : 1 ≤ p) (h2 : p ≤ 20) (h3 : 0 ≤ d) (h4 : d ≤ 1000) (h5 : 1 ≤ b) (h6 : b ≤ 1000) :
    Calls Tryd.prog 9 #[.int .i64 p, .int .i64 d, .int .i64 b] w fun e w' => e = .returned (.tuple #[.int .i64 (costF p d b), .nilIface]) ∧ w = w' := by
  by_cases hd : d < b
  · have H := Lib.hid (costF_lt p d b hd)
    go_enter Tryd.func9, Tryd.ntmps9
    go_wp2_with fail
    refine (skiCheck_ok _ _ _ h1 h2 h3 h4).mono ?_; rintro e w' ⟨rfl, rfl⟩
    go_wp2_with fail
    refine (within_ok _ _ _ _ h5 h6).mono ?_; rintro e w' ⟨rfl, rfl⟩
    go_wp2
    go_ret2
    rw [H.out]
    exact ⟨rfl, rfl⟩
  · have H := Lib.hid (costF_ge p d b hd)
    go_enter Tryd.func9, Tryd.ntmps9
    go_wp2_with fail
    refine (skiCheck_ok _ _ _ h1 h2 h3 h4).mono ?_; rintro e w' ⟨rfl, rfl⟩
    go_wp2_with fail
    refine (within_ok _ _ _ _ h5 h6).mono ?_; rintro e w' ⟨rfl, rfl⟩
    go_wp2
    go_ret2
    rw [H.out]
    exact ⟨rfl, rfl⟩

def Err1 (T : TypeId) (e : Ending) : Prop := e = .returned (.tuple #[.int .i64 0, .iface T (.int .i64 1)])

theorem cost_no (p d b : Int) (w : World) (h : ¬ (1 ≤ p ∧ p ≤ 20 ∧ 0 ≤ d ∧ d ≤ 1000 ∧ 1 ≤ b ∧ b ≤ 1000)) :
    Calls Tryd.prog 9 #[.int .i64 p, .int .i64 d, .int .i64 b] w fun e w' => e = .returned (.tuple #[.int .i64 0, .iface 30 (.int .i64 1)]) ∧ w = w' := by
  by_cases hp : 1 ≤ p ∧ p ≤ 20 ∧ 0 ≤ d ∧ d ≤ 1000
  · obtain ⟨h1, h2, h3, h4⟩ := hp
    have hb : b < 1 ∨ 1000 < b := by omega
    clear h
    go_enter Tryd.func9, Tryd.ntmps9
    go_wp2_with fail
    refine (skiCheck_ok _ _ _ h1 h2 h3 h4).mono ?_; rintro e w' ⟨rfl, rfl⟩
    go_wp2_with fail
    refine (within_no _ _ _ _ hb).mono ?_; rintro e w' ⟨rfl, rfl⟩
    go_wp2
    go_ret2
    exact ⟨rfl, rfl⟩
  · have H := Lib.hid hp
    clear h hp
    go_enter Tryd.func9, Tryd.ntmps9
    go_wp2_with fail
    refine (skiCheck_no _ _ _ H.out).mono ?_; rintro e w' ⟨rfl, rfl⟩
    go_wp2
    go_ret2
    exact ⟨rfl, rfl⟩

theorem even_ok (p d : Int) (w : World) (h1 : 1 ≤ p) (h2 : p ≤ 20) (h3 : 0 ≤ d) (h4 : d ≤ 1000) :
    Calls Tryd.prog 7 #[.int .i64 p, .int .i64 d] w fun e w' => e = .returned (.tuple #[.int .i64 (costF p d p), .nilIface]) ∧ w = w' := by
  go_enter Tryd.func7, Tryd.ntmps7
  go_wp2_with fail
  refine (cost_ok p d p _ h1 h2 h3 h4 h1 (by omega)).mono ?_; rintro e w' ⟨rfl, rfl⟩
  go_wp2
  go_ret2
  exact ⟨rfl, rfl⟩

theorem even_no (p d : Int) (w : World) (h : ¬ (1 ≤ p ∧ p ≤ 20 ∧ 0 ≤ d ∧ d ≤ 1000)) :
    Calls Tryd.prog 7 #[.int .i64 p, .int .i64 d] w fun e w' => e = .returned (.tuple #[.int .i64 0, .iface 30 (.int .i64 1)]) ∧ w = w' := by
  have H := Lib.hid h
  clear h
  go_enter Tryd.func7, Tryd.ntmps7
  go_wp2_with fail
  refine (cost_no p d p _ (by have := H.out; omega)).mono ?_; rintro e w' ⟨rfl, rfl⟩
  go_wp2
  go_ret2
  exact ⟨rfl, rfl⟩

def leastF (p d : Int) : Int := if p ≤ d then p else d
theorem leastF_le (p d : Int) (h : p ≤ d) : leastF p d = p := if_pos h
theorem leastF_gt (p d : Int) (h : ¬ p ≤ d) : leastF p d = d := if_neg h

theorem skiLeast_ok (p d : Int) (w : World) (h1 : 1 ≤ p) (h2 : p ≤ 20) (h3 : 0 ≤ d) (h4 : d ≤ 1000) :
    Calls Tryd.prog 8 #[.int .i64 p, .int .i64 d] w fun e w' => e = .returned (.tuple #[.int .i64 (leastF p d), .nilIface]) ∧ w = w' := by
  by_cases hd : p ≤ d
  · have H := Lib.hid (leastF_le p d hd)
    go_enter Tryd.func8, Tryd.ntmps8
    go_wp2_with fail
    refine (skiCheck_ok _ _ _ h1 h2 h3 h4).mono ?_; rintro e w' ⟨rfl, rfl⟩
    go_wp2
    go_ret2
    rw [H.out]
    exact ⟨rfl, rfl⟩
  · have H := Lib.hid (leastF_gt p d hd)
    go_enter Tryd.func8, Tryd.ntmps8
    go_wp2_with fail
    refine (skiCheck_ok _ _ _ h1 h2 h3 h4).mono ?_; rintro e w' ⟨rfl, rfl⟩
    go_wp2
    go_ret2
    rw [H.out]
    exact ⟨rfl, rfl⟩

theorem skiLeast_no (p d : Int) (w : World) (h : ¬ (1 ≤ p ∧ p ≤ 20 ∧ 0 ≤ d ∧ d ≤ 1000)) :
    Calls Tryd.prog 8 #[.int .i64 p, .int .i64 d] w fun e w' => e = .returned (.tuple #[.int .i64 0, .iface 30 (.int .i64 1)]) ∧ w = w' := by
  have H := Lib.hid h
  clear h
  go_enter Tryd.func8, Tryd.ntmps8
  go_wp2_with fail
  refine (skiCheck_no _ _ _ H.out).mono ?_; rintro e w' ⟨rfl, rfl⟩
  go_wp2
  go_ret2
  exact ⟨rfl, rfl⟩

end Go.Proofs.YtjflmcglnofooaaDoor
