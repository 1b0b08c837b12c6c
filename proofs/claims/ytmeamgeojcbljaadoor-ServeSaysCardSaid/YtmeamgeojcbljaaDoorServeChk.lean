/- The walks of serve.Check and serve.apart. -/
import Derived.Test.YtmeamgeojcbljaaDoorInts
import Derived.Test.YtmeamgeojcbljaaDoorServePlain
import Derived.Outline
namespace Go.Proofs.YtmeamgeojcbljaaDoor
open Go.ChangeShapes Go.WideShapes Go.ChangeAt Go.RowKit

theorem apart_any (a b : Int) (w : World) (ha : 0 ≤ a ∧ a ≤ 12) (hb : 0 ≤ b ∧ b ≤ 12) :
    Calls Tryd.prog 90 #[.int .i64 a, .int .i64 b] w fun e w' => e = .returned (.int .i64 (absI a b)) ∧ w = w' := by
  have e1 : wrap64 (a - b) = a - b := IntWalk.wrap64_in _ (by omega)
  have e2 : wrap64 (b - a) = b - a := IntWalk.wrap64_in _ (by omega)
  obtain ⟨v, hv⟩ : ∃ v, absI a b = v := ⟨_, rfl⟩
  have hm : max (a - b) (b - a) = v := hv
  rw [hv]
  clear hv
  go_enter Tryd.func90, Tryd.ntmps90
  go_wp2
  · obtain rfl : v = b - a := by omega
    go_ret
    exact ⟨rfl, rfl⟩
  · obtain rfl : v = a - b := by omega
    go_ret
    exact ⟨rfl, rfl⟩

theorem scheck_ok (A Ac : Option Addr) (n c m cc : Nat) (s a : List Int) (w : World) (h : RI w A n s) (hc : RI w Ac m a) (hg : GoodS s a) :
    Calls Tryd.prog 38 #[.slice A n c, .slice Ac m cc] w fun e w' => e = .returned .nilIface ∧ w = w' := by
  obtain ⟨g1, g2, g3, g4, g5⟩ := hg
  have hn : n ≤ 3 := by have := h.len; omega
  have hn0 : ¬ (n : Int) = 0 := fun e => g1 (List.eq_nil_of_length_eq_zero (by have := h.len; omega))
  have hm : m ≤ 20 := by have := hc.len; omega
  have H4 := Lib.hid g4
  have H5 := Lib.hid g5
  clear g1 g2 g3 g4 g5
  go_enter Tryd.func38, Tryd.ntmps38
  go_wp2_with fail
  refine (all_ok _ _ _ _ _ _ _ h (by omega) H4.out).mono ?_; rintro e w' ⟨rfl, rfl⟩
  go_wp2_with fail
  refine (all_ok _ _ _ _ _ _ _ hc (by omega) H5.out).mono ?_; rintro e w' ⟨rfl, rfl⟩
  go_wp2
  go_ret
  exact ⟨rfl, rfl⟩
theorem scheck_no (A Ac : Option Addr) (n c m cc : Nat) (s a : List Int) (w : World) (h : RI w A n s) (hc : RI w Ac m a) (hn : n ≤ 9223372036854775807) (hm : m ≤ 9223372036854775807) (hg : ¬ GoodS s a) :
    Calls Tryd.prog 38 #[.slice A n c, .slice Ac m cc] w fun e w' => e = .returned (.iface 65 (.int .i64 (serveE s a))) ∧ w = w' := by
  by_cases h0 : s = []
  · rw [show serveE s a = 5 by unfold serveE; rw [if_pos h0]]
    obtain rfl : n = 0 := by have := h.len; rw [h0] at this; exact this.symm
    clear hg h0
    go_enter Tryd.func38, Tryd.ntmps38
    go_wp2
    go_ret
    exact ⟨rfl, rfl⟩
  · have hn0 : ¬ (n : Int) = 0 := fun e => h0 (List.eq_nil_of_length_eq_zero (by have := h.len; omega))
    by_cases h3 : 3 < n
    · rw [show serveE s a = 4 by unfold serveE; rw [if_neg h0, if_pos (.inl (by rw [h.len]; exact h3))]]
      clear hg h0
      go_enter Tryd.func38, Tryd.ntmps38
      go_wp2
      go_ret
      exact ⟨rfl, rfl⟩
    · by_cases h4 : 20 < m
      · rw [show serveE s a = 4 by unfold serveE; rw [if_neg h0, if_pos (.inr (by rw [hc.len]; exact h4))]]
        clear hg h0
        go_enter Tryd.func38, Tryd.ntmps38
        go_wp2
        go_ret
        exact ⟨rfl, rfl⟩
      · have hn3 : n ≤ 3 := by omega
        have hm20 : m ≤ 20 := by omega
        have hl1 := h.len
        have hl2 := hc.len
        rw [show serveE s a = 1 by unfold serveE; rw [if_neg h0, if_neg (by omega), if_neg (fun h => hg ⟨h0, by omega, by omega, h.1, h.2⟩)]]
        by_cases hx : AllIn s 0 12
        · have hy : ¬ AllIn a 0 12 := fun hy => hg ⟨h0, by omega, by omega, hx, hy⟩
          have HX := Lib.hid hx
          have HY := Lib.hid hy
          clear hx hy hg h0 h3 h4 hl1 hl2
          go_enter Tryd.func38, Tryd.ntmps38
          go_wp2_with fail
          refine (all_ok _ _ _ _ _ _ _ h (by omega) HX.out).mono ?_; rintro e w' ⟨rfl, rfl⟩
          go_wp2_with fail
          refine (all_no _ _ _ _ _ _ _ hc (by omega) HY.out).mono ?_; rintro e w' ⟨rfl, rfl⟩
          go_wp2
          go_ret
          exact ⟨rfl, rfl⟩
        · have HX := Lib.hid hx
          clear hx hg h0 h3 h4 hl1 hl2
          go_enter Tryd.func38, Tryd.ntmps38
          go_wp2_with fail
          refine (all_no _ _ _ _ _ _ _ h (by omega) HX.out).mono ?_; rintro e w' ⟨rfl, rfl⟩
          go_wp2
          go_ret
          exact ⟨rfl, rfl⟩
end Go.Proofs.YtmeamgeojcbljaaDoor
