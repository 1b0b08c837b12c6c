/- The walks of the functions of larderwicksame that only read: Ints, Bools, Misses, Some: what each returns, for every input. -/
import Derived.Test.YtmeamgeojcbljaaDoorInts
import Derived.Deep.QuietTactic
import Derived.BigQuiet
import Derived.Outline
namespace Go.Proofs.YtmeamgeojcbljaaDoor
open Go.ChangeShapes Go.WideShapes Go.ChangeAt Go.RowKit

theorem ints_any (A A' : Option Addr) (n n' c c' : Nat) (l l' : List Int) (w : World) (h : RI w A n l) (h' : RI w A' n' l') (hn : n ≤ 9223372036854775807) (hn' : n' ≤ 9223372036854775807) :
    Calls Tryd.prog 14 #[.slice A n c, .slice A' n' c'] w fun e w' => e = .returned (.bool (eqI l l')) ∧ ∃ d, w' = w.drewN d := by
  have HL := Lib.hid h.len
  have HL' := Lib.hid h'.len
  by_cases hnn : n = n'
  · subst hnn
    go_enter Tryd.func14, Tryd.ntmps14
    go_wp2
    go_loopw [5] (fun i wr => ∃ k d : Nat, k ≤ n ∧ i = .int .i64 k ∧ wr = w.drewN d ∧ Hid (l.take k = l'.take k)) (fun i _ => n - (intOf i).toNat)
    case atStart => exact ⟨0, 0, by omega, by go_num, rfl, by simp [Hid]⟩
    case round =>
      obtain ⟨k, d, hk, rfl, rfl, hx⟩ := hrel
      by_cases hlt : k < n
      · obtain ⟨ad, y, rfl, HY, hc⟩ := h.at_ hlt
        obtain ⟨ad', y', rfl, HY', hc'⟩ := h'.at_ hlt
        by_cases he : y = y'
        · subst he
          have HE := Lib.hid (take_eq_succ hx.out HY.out HY'.out)
          go_wp2
          go_quiet (fail)
          go_wp2
          go_roundw
          case rel => exact ⟨k + 1, _, by omega, by go_num, rfl, HE⟩
          case measure => simp [intOf]; omega
        · have HE : Hid (eqI l l' = false) := Lib.hid (by
            simp only [eqI, decide_eq_false_iff_not]; rintro rfl
            have := HY.out; have h2 := HY'.out; rw [this] at h2; exact he (by injection h2))
          have he' : ¬ y' = y := fun h => he h.symm
          go_wp2
          go_quiet (fail)
          go_wp2
          go_ret
          exact ⟨by rw [HE.out]; rfl, _, World.drewN_drewN _ _ _⟩
      · have HE : Hid (eqI l l' = true) := Lib.hid (by
          have := hx.out
          rw [List.take_of_length_le (by have := HL.out; omega), List.take_of_length_le (by have := HL'.out; omega)] at this
          simp [eqI, this])
        go_wp2
        go_ret
        exact ⟨by rw [HE.out]; rfl, _, rfl⟩
  · have HE : Hid (eqI l l' = false) := Lib.hid (by
      simp only [eqI, decide_eq_false_iff_not]; rintro rfl
      exact hnn (HL.out.symm.trans HL'.out))
    go_enter Tryd.func14, Tryd.ntmps14
    go_wp2
    go_ret
    exact ⟨by rw [HE.out]; rfl, 0, rfl⟩

end Go.Proofs.YtmeamgeojcbljaaDoor
