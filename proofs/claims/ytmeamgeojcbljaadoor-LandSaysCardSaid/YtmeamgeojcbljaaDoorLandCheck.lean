/- The walk of landlord.Check. -/
import Derived.Test.YtmeamgeojcbljaaDoorInts
import Derived.Test.YtmeamgeojcbljaaDoorLandPlain
import Derived.Outline
namespace Go.Proofs.YtmeamgeojcbljaaDoor
open Go.ChangeShapes Go.WideShapes Go.ChangeAt Go.RowKit

theorem ldcheck_ok (A Ac : Option Addr) (n c m cc : Nat) (l cost : List Int) (slots : Int) (w : World) (h : RI w A n l) (hc : RI w Ac m cost) (hg : GoodL l cost slots) :
    Calls Tryd.prog 25 #[.slice A n c, .slice Ac m cc, .int .i64 slots] w fun e w' => e = .returned .nilIface ∧ w = w' := by
  obtain ⟨g1, g2, g3, g4, g5, g6⟩ := hg
  have hn : n ≤ 40 := by have := h.len; omega
  have hm : m ≤ 6 := by have := hc.len; omega
  rw [hc.len] at g4
  have H3 := Lib.hid g3
  have H4 := Lib.hid g4
  clear g1 g2 g3 g4
  go_enter Tryd.func25, Tryd.ntmps25
  go_wp2_with fail
  refine (all_ok _ _ _ _ _ _ _ hc (by omega) H3.out).mono ?_; rintro e w' ⟨rfl, rfl⟩
  go_wp2_with fail
  refine (all_ok _ _ _ _ _ _ _ h (by omega) H4.out).mono ?_; rintro e w' ⟨rfl, rfl⟩
  go_wp2_with fail
  refine (within_ok _ _ _ _ g5 g6).mono ?_; rintro e w' ⟨rfl, rfl⟩
  go_wp2
  go_ret
  exact ⟨rfl, rfl⟩
theorem ldcheck_no (A Ac : Option Addr) (n c m cc : Nat) (l cost : List Int) (slots : Int) (w : World) (h : RI w A n l) (hc : RI w Ac m cost) (hn : n ≤ 9223372036854775807) (hm : m ≤ 9223372036854775807) (hg : ¬ GoodL l cost slots) :
    Calls Tryd.prog 25 #[.slice A n c, .slice Ac m cc, .int .i64 slots] w fun e w' => e = .returned (.iface 65 (.int .i64 (landE l cost slots))) ∧ w = w' := by
  by_cases h4 : 40 < l.length
  · rw [show landE l cost slots = 4 by unfold landE; rw [if_pos (.inl h4)]]
    have hn2 : 40 < n := by have := h.len; omega
    clear hg h4
    go_enter Tryd.func25, Tryd.ntmps25
    go_wp2
    go_ret
    exact ⟨rfl, rfl⟩
  · by_cases h5 : 6 < cost.length
    · rw [show landE l cost slots = 4 by unfold landE; rw [if_pos (.inr h5)]]
      have hn2 : ¬ 40 < n := by have := h.len; omega
      have hm2 : 6 < m := by have := hc.len; omega
      clear hg h4 h5
      go_enter Tryd.func25, Tryd.ntmps25
      go_wp2
      go_ret
      exact ⟨rfl, rfl⟩
    · have hn2 : n ≤ 40 := by have := h.len; omega
      have hm2 : m ≤ 6 := by have := hc.len; omega
      have h6 : ¬ (AllIn cost 0 20 ∧ AllIn l 0 ((cost.length : Int) - 1) ∧ 1 ≤ slots ∧ slots ≤ 8) := fun hh => hg ⟨by omega, by omega, hh⟩
      rw [show landE l cost slots = 1 by unfold landE; rw [if_neg (by omega), if_neg h6]]
      rw [hc.len] at h6
      by_cases hx : AllIn cost 0 20
      · by_cases hy : AllIn l 0 ((m : Int) - 1)
        · have hs : slots < 1 ∨ 8 < slots := by
            by_cases a : 1 ≤ slots
            · by_cases b : slots ≤ 8
              · exact absurd ⟨hx, hy, a, b⟩ h6
              · omega
            · omega
          have H3 := Lib.hid hx
          have H4 := Lib.hid hy
          have H5 := Lib.hid hs
          clear hx hy hs h6 hg h4 h5
          go_enter Tryd.func25, Tryd.ntmps25
          go_wp2_with fail
          refine (all_ok _ _ _ _ _ _ _ hc (by omega) H3.out).mono ?_; rintro e w' ⟨rfl, rfl⟩
          go_wp2_with fail
          refine (all_ok _ _ _ _ _ _ _ h (by omega) H4.out).mono ?_; rintro e w' ⟨rfl, rfl⟩
          go_wp2_with fail
          refine (within_no _ _ _ _ H5.out).mono ?_; rintro e w' ⟨rfl, rfl⟩
          go_wp2
          go_ret
          exact ⟨rfl, rfl⟩
        · have H3 := Lib.hid hx
          have H4 := Lib.hid hy
          clear hx hy h6 hg h4 h5
          go_enter Tryd.func25, Tryd.ntmps25
          go_wp2_with fail
          refine (all_ok _ _ _ _ _ _ _ hc (by omega) H3.out).mono ?_; rintro e w' ⟨rfl, rfl⟩
          go_wp2_with fail
          refine (all_no _ _ _ _ _ _ _ h (by omega) H4.out).mono ?_; rintro e w' ⟨rfl, rfl⟩
          go_wp2
          go_ret
          exact ⟨rfl, rfl⟩
      · have H3 := Lib.hid hx
        clear hx h6 hg h4 h5
        go_enter Tryd.func25, Tryd.ntmps25
        go_wp2_with fail
        refine (all_no _ _ _ _ _ _ _ hc (by omega) H3.out).mono ?_; rintro e w' ⟨rfl, rfl⟩
        go_wp2
        go_ret
        exact ⟨rfl, rfl⟩
end Go.Proofs.YtmeamgeojcbljaaDoor
