/- The walks of ski.Even and ski.Least (from SkiWalks), beside the other layers. -/
import Derived.Test.YtgljpdfmejganaaInts
import Derived.Outline
namespace Go.Proofs.Ytgljpdfmejganaa
open Go.ChangeShapes Go.WideShapes Go.ChangeAt Go.RowKit

theorem skiCheck_ok (p d : Int) (w : World) (h1 : 1 ≤ p) (h2 : p ≤ 20) (h3 : 0 ≤ d) (h4 : d ≤ 1000) :
    Calls Try.prog 51 #[.int .i64 p, .int .i64 d] w fun e w' => e = .returned .nilIface ∧ w = w' := by
  go_enter Try.func51, Try.ntmps51
  go_wp2_with (go_at_call 64; refine (within_ok _ _ _ _ (by omega) (by omega)).mono ?_; rintro e w' ⟨rfl, rfl⟩)
  go_ret
  exact ⟨rfl, rfl⟩

theorem skiCheck_no (p d : Int) (w : World) (h : ¬ (1 ≤ p ∧ p ≤ 20 ∧ 0 ≤ d ∧ d ≤ 1000)) :
    Calls Try.prog 51 #[.int .i64 p, .int .i64 d] w fun e w' => e = .returned (.iface 108 (.int .i64 1)) ∧ w = w' := by
  by_cases h1 : 1 ≤ p ∧ p ≤ 20
  · obtain ⟨h1, h2⟩ := h1
    have h3 : d < 0 ∨ 1000 < d := by omega
    clear h
    go_enter Try.func51, Try.ntmps51
    go_wp2_with fail
    refine (within_ok _ _ _ _ (by omega) (by omega)).mono ?_; rintro e w' ⟨rfl, rfl⟩
    go_wp2_with fail
    refine (within_no _ _ _ _ (by omega)).mono ?_; rintro e w' ⟨rfl, rfl⟩
    go_wp2
    go_ret
    exact ⟨rfl, rfl⟩
  · have h3 : p < 1 ∨ 20 < p := by omega
    clear h
    go_enter Try.func51, Try.ntmps51
    go_wp2_with fail
    refine (within_no _ _ _ _ (by omega)).mono ?_; rintro e w' ⟨rfl, rfl⟩
    go_wp2
    go_ret
    exact ⟨rfl, rfl⟩

def costF (p d b : Int) : Int := if d < b then d else b - 1 + p
theorem costF_lt (p d b : Int) (h : d < b) : costF p d b = d := if_pos h
theorem costF_ge (p d b : Int) (h : ¬ d < b) : costF p d b = b - 1 + p := if_neg h

theorem cost_ok (p d b : Int) (w : World) (h1 : 1 ≤ p) (h2 : p ≤ 20) (h3 : 0 ≤ d) (h4 : d ≤ 1000) (h5 : 1 ≤ b) (h6 : b ≤ 1000) :
    Calls Try.prog 39 #[.int .i64 p, .int .i64 d, .int .i64 b] w fun e w' => e = .returned (.tuple #[.int .i64 (costF p d b), .nilIface]) ∧ w = w' := by
  by_cases hd : d < b
  · have H := Lib.hid (costF_lt p d b hd)
    go_enter Try.func39, Try.ntmps39
    go_wp2_with fail
    refine (skiCheck_ok _ _ _ h1 h2 h3 h4).mono ?_; rintro e w' ⟨rfl, rfl⟩
    go_wp2_with fail
    refine (within_ok _ _ _ _ h5 h6).mono ?_; rintro e w' ⟨rfl, rfl⟩
    go_wp2
    go_ret2
    rw [H.out]
    exact ⟨rfl, rfl⟩
  · have H := Lib.hid (costF_ge p d b hd)
    go_enter Try.func39, Try.ntmps39
    go_wp2_with fail
    refine (skiCheck_ok _ _ _ h1 h2 h3 h4).mono ?_; rintro e w' ⟨rfl, rfl⟩
    go_wp2_with fail
    refine (within_ok _ _ _ _ h5 h6).mono ?_; rintro e w' ⟨rfl, rfl⟩
    go_wp2
    go_ret2
    rw [H.out]
    exact ⟨rfl, rfl⟩

def Err1 (T : TypeId) (e : Ending) : Prop := e = .returned (.tuple #[.int .i64 0, .iface T (.int .i64 1)])

theorem cost_no (p d b : Int) (w : World) (h : ¬ (1 ≤ p ∧ p ≤ 20 ∧ 0 ≤ d ∧ d ≤ 1000 ∧ 1 ≤ b ∧ b ≤ 1000)) :
    Calls Try.prog 39 #[.int .i64 p, .int .i64 d, .int .i64 b] w fun e w' => e = .returned (.tuple #[.int .i64 0, .iface 108 (.int .i64 1)]) ∧ w = w' := by
  by_cases hp : 1 ≤ p ∧ p ≤ 20 ∧ 0 ≤ d ∧ d ≤ 1000
  · obtain ⟨h1, h2, h3, h4⟩ := hp
    have hb : b < 1 ∨ 1000 < b := by omega
    clear h
    go_enter Try.func39, Try.ntmps39
    go_wp2_with fail
    refine (skiCheck_ok _ _ _ h1 h2 h3 h4).mono ?_; rintro e w' ⟨rfl, rfl⟩
    go_wp2_with fail
    refine (within_no _ _ _ _ hb).mono ?_; rintro e w' ⟨rfl, rfl⟩
    go_wp2
    go_ret2
    exact ⟨rfl, rfl⟩
  · have H := Lib.hid hp
    clear h hp
    go_enter Try.func39, Try.ntmps39
    go_wp2_with fail
    refine (skiCheck_no _ _ _ H.out).mono ?_; rintro e w' ⟨rfl, rfl⟩
    go_wp2
    go_ret2
    exact ⟨rfl, rfl⟩

theorem even_ok (p d : Int) (w : World) (h1 : 1 ≤ p) (h2 : p ≤ 20) (h3 : 0 ≤ d) (h4 : d ≤ 1000) :
    Calls Try.prog 13 #[.int .i64 p, .int .i64 d] w fun e w' => e = .returned (.tuple #[.int .i64 (costF p d p), .nilIface]) ∧ w = w' := by
  go_enter Try.func13, Try.ntmps13
  go_wp2_with fail
  refine (cost_ok p d p _ h1 h2 h3 h4 h1 (by omega)).mono ?_; rintro e w' ⟨rfl, rfl⟩
  go_wp2
  go_ret2
  exact ⟨rfl, rfl⟩

theorem even_no (p d : Int) (w : World) (h : ¬ (1 ≤ p ∧ p ≤ 20 ∧ 0 ≤ d ∧ d ≤ 1000)) :
    Calls Try.prog 13 #[.int .i64 p, .int .i64 d] w fun e w' => e = .returned (.tuple #[.int .i64 0, .iface 108 (.int .i64 1)]) ∧ w = w' := by
  have H := Lib.hid h
  clear h
  go_enter Try.func13, Try.ntmps13
  go_wp2_with fail
  refine (cost_no p d p _ (by have := H.out; omega)).mono ?_; rintro e w' ⟨rfl, rfl⟩
  go_wp2
  go_ret2
  exact ⟨rfl, rfl⟩

def leastF (p d : Int) : Int := if p ≤ d then p else d
theorem leastF_le (p d : Int) (h : p ≤ d) : leastF p d = p := if_pos h
theorem leastF_gt (p d : Int) (h : ¬ p ≤ d) : leastF p d = d := if_neg h

theorem skiLeast_ok (p d : Int) (w : World) (h1 : 1 ≤ p) (h2 : p ≤ 20) (h3 : 0 ≤ d) (h4 : d ≤ 1000) :
    Calls Try.prog 16 #[.int .i64 p, .int .i64 d] w fun e w' => e = .returned (.tuple #[.int .i64 (leastF p d), .nilIface]) ∧ w = w' := by
  by_cases hd : p ≤ d
  · have H := Lib.hid (leastF_le p d hd)
    go_enter Try.func16, Try.ntmps16
    go_wp2_with fail
    refine (skiCheck_ok _ _ _ h1 h2 h3 h4).mono ?_; rintro e w' ⟨rfl, rfl⟩
    go_wp2
    go_ret2
    rw [H.out]
    exact ⟨rfl, rfl⟩
  · have H := Lib.hid (leastF_gt p d hd)
    go_enter Try.func16, Try.ntmps16
    go_wp2_with fail
    refine (skiCheck_ok _ _ _ h1 h2 h3 h4).mono ?_; rintro e w' ⟨rfl, rfl⟩
    go_wp2
    go_ret2
    rw [H.out]
    exact ⟨rfl, rfl⟩

theorem skiLeast_no (p d : Int) (w : World) (h : ¬ (1 ≤ p ∧ p ≤ 20 ∧ 0 ≤ d ∧ d ≤ 1000)) :
    Calls Try.prog 16 #[.int .i64 p, .int .i64 d] w fun e w' => e = .returned (.tuple #[.int .i64 0, .iface 108 (.int .i64 1)]) ∧ w = w' := by
  have H := Lib.hid h
  clear h
  go_enter Try.func16, Try.ntmps16
  go_wp2_with fail
  refine (skiCheck_no _ _ _ H.out).mono ?_; rintro e w' ⟨rfl, rfl⟩
  go_wp2
  go_ret2
  exact ⟨rfl, rfl⟩
end Go.Proofs.Ytgljpdfmejganaa
