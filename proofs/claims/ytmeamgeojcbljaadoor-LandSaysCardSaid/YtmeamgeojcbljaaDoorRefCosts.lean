/- The walk of larderwickref1.Costs: what is wrong with requests, costs, slots. -/
import Derived.Test.YtmeamgeojcbljaaDoorRefPages
import Derived.Test.YtmeamgeojcbljaaDoorLandCheck
namespace Go.Proofs.YtmeamgeojcbljaaDoor
open Go.ChangeShapes Go.WideShapes Go.ChangeAt Go.RowKit

theorem rcosts_ok (A Ac : Option Addr) (n c m cc : Nat) (l cost : List Int) (slots : Int) (w : World) (h : RI w A n l) (hc : RI w Ac m cost) (hg : GoodL l cost slots) :
    Calls Tryd.prog 24 #[.slice A n c, .slice Ac m cc, .int .i64 slots] w fun e w' => e = .returned (.int .i64 0) ∧ w = w' := by
  obtain ⟨g1, g2, g3, g4, g5, g6⟩ := hg
  have hn : n ≤ 40 := by have := h.len; omega
  have hm : m ≤ 6 := by have := hc.len; omega
  have H2 := Lib.hid g3
  have H3 := Lib.hid (show AllIn l 0 ((m : Int) - 1) by rw [← hc.len]; exact g4)
  clear g1 g2 g3 g4
  go_enter Tryd.func24, Tryd.ntmps24
  go_wp2_with fail
  refine (rall_ok _ _ _ _ _ _ _ hc (by omega) H2.out).mono ?_; rintro e w' ⟨rfl, rfl⟩
  go_wp2_with fail
  refine (rall_ok _ _ _ _ _ _ _ h (by omega) H3.out).mono ?_; rintro e w' ⟨rfl, rfl⟩
  go_wp2_with fail
  refine (rin_ok _ _ _ _ g5 g6).mono ?_; rintro e w' ⟨rfl, rfl⟩
  go_wp2
  go_ret
  exact ⟨rfl, rfl⟩
theorem rcosts_no (A Ac : Option Addr) (n c m cc : Nat) (l cost : List Int) (slots : Int) (w : World) (h : RI w A n l) (hc : RI w Ac m cost) (hn : n ≤ 9223372036854775807) (hm : m ≤ 9223372036854775807) (hg : ¬ GoodL l cost slots) :
    Calls Tryd.prog 24 #[.slice A n c, .slice Ac m cc, .int .i64 slots] w fun e w' => e = .returned (.int .i64 (landE l cost slots)) ∧ w = w' := by
  by_cases h4 : 40 < l.length ∨ 6 < cost.length
  · rw [show landE l cost slots = 4 by unfold landE; rw [if_pos h4]]
    by_cases h5 : 40 < l.length
    · have hn2 : 40 < n := by have := h.len; omega
      clear hg h4 h5
      go_enter Tryd.func24, Tryd.ntmps24
      go_wp2
      go_ret
      exact ⟨rfl, rfl⟩
    · have hn2 : ¬ 40 < n := by have := h.len; omega
      have hm2 : 6 < m := by have := hc.len; omega
      clear hg h4 h5
      go_enter Tryd.func24, Tryd.ntmps24
      go_wp2
      go_ret
      exact ⟨rfl, rfl⟩
  · have h1 : ¬ (AllIn cost 0 20 ∧ AllIn l 0 ((cost.length : Int) - 1) ∧ 1 ≤ slots ∧ slots ≤ 8) := fun hh => hg ⟨by omega, by omega, hh⟩
    rw [show landE l cost slots = 1 by unfold landE; rw [if_neg h4, if_neg h1]]
    have hn : n ≤ 40 := by have := h.len; omega
    have hm : m ≤ 6 := by have := hc.len; omega
    by_cases g2 : AllIn cost 0 20
    · have H2 := Lib.hid g2
      by_cases g3 : AllIn l 0 ((cost.length : Int) - 1)
      · have H3 := Lib.hid (show AllIn l 0 ((m : Int) - 1) by rw [← hc.len]; exact g3)
        have h4 : ¬ (1 ≤ slots ∧ slots ≤ 8) := fun hh => h1 ⟨g2, g3, hh⟩
        have H4 := Lib.hid (show slots < 1 ∨ 8 < slots by omega)
        clear h1 g2 g3 h4 hg
        go_enter Tryd.func24, Tryd.ntmps24
        go_wp2_with fail
        refine (rall_ok _ _ _ _ _ _ _ hc (by omega) H2.out).mono ?_; rintro e w' ⟨rfl, rfl⟩
        go_wp2_with fail
        refine (rall_ok _ _ _ _ _ _ _ h (by omega) H3.out).mono ?_; rintro e w' ⟨rfl, rfl⟩
        go_wp2_with fail
        refine (rin_no _ _ _ _ H4.out).mono ?_; rintro e w' ⟨rfl, rfl⟩
        go_wp2
        go_ret
        exact ⟨rfl, rfl⟩
      · have H3 := Lib.hid (show ¬ AllIn l 0 ((m : Int) - 1) by rw [← hc.len]; exact g3)
        clear h1 g2 g3 h4 hg
        go_enter Tryd.func24, Tryd.ntmps24
        go_wp2_with fail
        refine (rall_ok _ _ _ _ _ _ _ hc (by omega) H2.out).mono ?_; rintro e w' ⟨rfl, rfl⟩
        go_wp2_with fail
        refine (rall_no _ _ _ _ _ _ _ h (by omega) H3.out).mono ?_; rintro e w' ⟨rfl, rfl⟩
        go_wp2
        go_ret
        exact ⟨rfl, rfl⟩
    · have H2 := Lib.hid g2
      clear h1 g2 h4 hg
      go_enter Tryd.func24, Tryd.ntmps24
      go_wp2_with fail
      refine (rall_no _ _ _ _ _ _ _ hc (by omega) H2.out).mono ?_; rintro e w' ⟨rfl, rfl⟩
      go_wp2
      go_ret
      exact ⟨rfl, rfl⟩
end Go.Proofs.YtmeamgeojcbljaaDoor
