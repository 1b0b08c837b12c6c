/- The walks of the laws on servers: they return true, for every input. -/
import Derived.Test.YtgljpdfmejganaaServeDbl
import Derived.Test.YtgljpdfmejganaaServeLst
import Derived.Test.YtgljpdfmejganaaServeLaws
import Derived.Test.YtgljpdfmejganaaRefPages
import Derived.Test.YtgljpdfmejganaaSame
import Derived.IntWalk
namespace Go.Proofs.Ytgljpdfmejganaa
open Go.ChangeShapes Go.WideShapes Go.ChangeAt Go.RowKit

theorem abs_any (a b : Int) (w : World) (ha : 0 ≤ a ∧ a ≤ 12) (hb : 0 ≤ b ∧ b ≤ 12) :
    Calls Try.prog 21 #[.int .i64 a, .int .i64 b] w fun e w' => e = .returned (.int .i64 (absI a b)) ∧ w = w' := by
  have e1 : wrap64 (a - b) = a - b := IntWalk.wrap64_in _ (by omega)
  have e2 : wrap64 (b - a) = b - a := IntWalk.wrap64_in _ (by omega)
  obtain ⟨v, hv⟩ : ∃ v, absI a b = v := ⟨_, rfl⟩
  have hm : max (a - b) (b - a) = v := hv
  rw [hv]
  clear hv
  by_cases hab : b < a
  · obtain rfl : v = a - b := by omega
    clear hm
    go_enter Try.func21, Try.ntmps21
    go_wp2
    go_ret
    exact ⟨rfl, rfl⟩
  · obtain rfl : v = b - a := by omega
    clear hm
    go_enter Try.func21, Try.ntmps21
    go_wp2
    go_ret
    exact ⟨rfl, rfl⟩
theorem sin_ok (n lo hi : Int) (w : World) (h1 : lo ≤ n) (h2 : n ≤ hi) :
    Calls Try.prog 11 #[.int .i64 n, .int .i64 lo, .int .i64 hi] w fun e w' => e = .returned (.bool true) ∧ w = w' := by
  go_enter Try.func11, Try.ntmps11
  go_wp2
  go_ret
  exact ⟨rfl, rfl⟩
theorem sin_no (n lo hi : Int) (w : World) (h : n < lo ∨ hi < n) :
    Calls Try.prog 11 #[.int .i64 n, .int .i64 lo, .int .i64 hi] w fun e w' => e = .returned (.bool false) ∧ w = w' := by
  by_cases h1 : lo ≤ n
  · have h2 : ¬ n ≤ hi := by omega
    clear h
    go_enter Try.func11, Try.ntmps11
    go_wp2
    go_ret
    exact ⟨rfl, rfl⟩
  · clear h
    go_enter Try.func11, Try.ntmps11
    go_wp2
    go_ret
    exact ⟨rfl, rfl⟩

theorem fact_d : runS dstep [0, 10] [4] = (8, [4, 6]) := by
  have h1 : sortI [0, 10] = [0, 10] := sortI_of (List.Perm.refl _) (by simp)
  have h2 : dstep [0, 10] 4 = (8, [4, 6]) := by decide
  have h3 : sortI [4, 6] = [4, 6] := sortI_of (List.Perm.refl _) (by simp)
  show (0 + (dstep (sortI [0, 10]) 4).1, sortI (dstep (sortI [0, 10]) 4).2) = _
  rw [h1, h2, h3]; rfl
theorem fact_l {v : Int} (h : Best (NxS 2) [0, 10] [4] v) : v = 4 := by
  obtain ⟨⟨k', k1, d1, d2, ⟨i, hi, rfl, rfl⟩, ⟨rfl, rfl⟩, rfl⟩, h2⟩ := h
  have h3 := h2 _ _ ⟨_, _, _, ⟨0, by omega, rfl, rfl⟩, ⟨rfl, rfl⟩, rfl⟩
  have e0 : absI (([0, 10] : List Int).getD 0 0) 4 = 4 := by decide
  have e1 : absI (([0, 10] : List Int).getD 1 0) 4 = 6 := by decide
  rw [e0] at h3
  rcases (show i = 0 ∨ i = 1 by omega) with e | e <;> subst e <;> omega

end Go.Proofs.Ytgljpdfmejganaa
