/- The walk of larderwickref1.Servers: what is wrong with some, and what is asked. -/
import Derived.Test.YtmeamgeojcbljaaDoorRefPages
import Derived.Test.YtmeamgeojcbljaaDoorServePlain
namespace Go.Proofs.YtmeamgeojcbljaaDoor
open Go.ChangeShapes Go.WideShapes Go.ChangeAt Go.RowKit

theorem serveE_ne (s a : List Int) (h : ¬ GoodS s a) : serveE s a ≠ 0 := by
  unfold serveE
  split
  · decide
  · split
    · decide
    · rename_i h0 h1
      rw [if_neg (fun hh => h ⟨h0, by omega, by omega, hh⟩)]; decide
theorem rservers_ok (A Ac : Option Addr) (n c m cc : Nat) (s a : List Int) (w : World) (h : RI w A n s) (hc : RI w Ac m a) (hg : GoodS s a) :
    Calls Tryd.prog 37 #[.slice A n c, .slice Ac m cc] w fun e w' => e = .returned (.int .i64 0) ∧ w = w' := by
  obtain ⟨g1, g2, g3, g4, g5⟩ := hg
  have hn : n ≤ 3 := by have := h.len; omega
  have hn0 : ¬ (n : Int) = 0 := fun e => g1 (List.eq_nil_of_length_eq_zero (by have := h.len; omega))
  have hm : m ≤ 20 := by have := hc.len; omega
  have H4 := Lib.hid g4
  have H5 := Lib.hid g5
  clear g1 g2 g3 g4 g5
  go_enter Tryd.func37, Tryd.ntmps37
  go_wp2_with fail
  refine (rall_ok _ _ _ _ _ _ _ h (by omega) H4.out).mono ?_; rintro e w' ⟨rfl, rfl⟩
  go_wp2_with fail
  refine (rall_ok _ _ _ _ _ _ _ hc (by omega) H5.out).mono ?_; rintro e w' ⟨rfl, rfl⟩
  go_wp2
  go_ret
  exact ⟨rfl, rfl⟩
theorem rservers_no (A Ac : Option Addr) (n c m cc : Nat) (s a : List Int) (w : World) (h : RI w A n s) (hc : RI w Ac m a) (hn : n ≤ 9223372036854775807) (hm : m ≤ 9223372036854775807) (hg : ¬ GoodS s a) :
    Calls Tryd.prog 37 #[.slice A n c, .slice Ac m cc] w fun e w' => e = .returned (.int .i64 (serveE s a)) ∧ w = w' := by
  by_cases h0 : s = []
  · rw [show serveE s a = 5 by unfold serveE; rw [if_pos h0]]
    obtain rfl : n = 0 := by have := h.len; rw [h0] at this; exact this.symm
    clear hg h0
    go_enter Tryd.func37, Tryd.ntmps37
    go_wp2
    go_ret
    exact ⟨rfl, rfl⟩
  · have hn0 : ¬ (n : Int) = 0 := fun e => h0 (List.eq_nil_of_length_eq_zero (by have := h.len; omega))
    by_cases h3 : 3 < n
    · rw [show serveE s a = 4 by unfold serveE; rw [if_neg h0, if_pos (.inl (by rw [h.len]; exact h3))]]
      clear hg h0
      go_enter Tryd.func37, Tryd.ntmps37
      go_wp2
      go_ret
      exact ⟨rfl, rfl⟩
    · by_cases h4 : 20 < m
      · rw [show serveE s a = 4 by unfold serveE; rw [if_neg h0, if_pos (.inr (by rw [hc.len]; exact h4))]]
        clear hg h0
        go_enter Tryd.func37, Tryd.ntmps37
        go_wp2
        go_ret
        exact ⟨rfl, rfl⟩
      · have hn3 : n ≤ 3 := by omega
        have hm20 : m ≤ 20 := by omega
        have hl1 := h.len
        have hl2 := hc.len
        rw [show serveE s a = 1 by unfold serveE; rw [if_neg h0, if_neg (by omega), if_neg (fun h => hg ⟨h0, by omega, by omega, h.1, h.2⟩)]]
        by_cases hx : AllIn s 0 12
        · have hy : ¬ AllIn a 0 12 := fun hy => hg ⟨h0, by omega, by omega, hx, hy⟩
          have HX := Lib.hid hx
          have HY := Lib.hid hy
          clear hg h0 hx hy hl1 hl2
          go_enter Tryd.func37, Tryd.ntmps37
          go_wp2_with fail
          refine (rall_ok _ _ _ _ _ _ _ h (by omega) HX.out).mono ?_; rintro e w' ⟨rfl, rfl⟩
          go_wp2_with fail
          refine (rall_no _ _ _ _ _ _ _ hc (by omega) HY.out).mono ?_; rintro e w' ⟨rfl, rfl⟩
          go_wp2
          go_ret
          exact ⟨rfl, rfl⟩
        · have HX := Lib.hid hx
          clear hg h0 hx hl1 hl2
          go_enter Tryd.func37, Tryd.ntmps37
          go_wp2_with fail
          refine (rall_no _ _ _ _ _ _ _ h (by omega) HX.out).mono ?_; rintro e w' ⟨rfl, rfl⟩
          go_wp2
          go_ret
          exact ⟨rfl, rfl⟩
end Go.Proofs.YtmeamgeojcbljaaDoor
