/- The walks of the laws on lists: they return true, for every input. -/
import Derived.Test.YtccbeggkdfjalaaListRuns
import Derived.Test.YtccbeggkdfjalaaListLeast
import Derived.Test.YtccbeggkdfjalaaListBounds
import Derived.Test.YtccbeggkdfjalaaRefPages
import Derived.Test.YtccbeggkdfjalaaSame
import Derived.IntWalk
namespace Go.Proofs.Ytccbeggkdfjalaa
open Go.ChangeShapes Go.WideShapes Go.ChangeAt Go.RowKit

set_option maxHeartbeats 1000000 in
theorem listFact_ok (w : World) : Calls Try.prog 7 #[] w fun e w' => e = .returned (.bool true) ∧ Below w.heap.size w w' := by
  have hgood : GoodT (3 : Nat) [2, 2, 1] := by refine ⟨by decide, by decide, by decide, fun x hx => ?_⟩; simp at hx; omega
  have hl : ∀ w : World, RI (w.alloc (.cells #[.int .i64 2, .int .i64 2, .int .i64 1] 3)) (some ⟨w.heap.size, 0, none⟩) 3 [2, 2, 1] := fun w => RI.lit w #[.int .i64 2, .int .i64 2, .int .i64 1] 3 [2, 2, 1] 3 rfl rfl
  have hb : ∀ w : World, Below w.heap.size w (w.alloc (.cells #[.int .i64 2, .int .i64 2, .int .i64 1] 3)) := fun w => (Below.refl _ w).alloc (Nat.le_refl _) _
  go_enter Try.func7, Try.ntmps7
  go_wp2_with fail
  refine (lfront_ok 3 _ _ _ _ _ (hl w) hgood).mono ?_; rintro e w1 ⟨A1, c1, rfl, R1, hB1⟩
  rw [fact_run] at R1 ⊢
  have hB01 := (hb w).trans (hB1.mono (by simp))
  have hw1 : w.heap.size ≤ w1.heap.size := hB01.size
  go_wp2_with fail
  refine (lleast_ok 3 _ _ _ _ _ (hl w1) hgood).mono ?_; rintro e w2 ⟨v, rfl, hv, hB2⟩
  obtain rfl := fact_best hv
  have hB02 := (hB01.trans ((hb w1).mono hw1)).trans (hB2.mono (by simp; omega))
  have R2 := (R1.below ((hb w1).mono (Nat.le_refl _))).below hB2
  have hw2 := hB02.size
  have M2 : Hid (eqI [1, 2, 0] [1, 2, 0] = true) := by simp [Hid, eqI]
  clear hv
  go_wp2_with fail
  have h2 := RI.lit w2 #[.int .i64 1, .int .i64 2, .int .i64 0] 3 [1, 2, 0] 3 rfl rfl
  refine (ints_any _ _ _ _ _ _ _ _ _ ((Row.reads R2).below ((Below.refl w2.heap.size w2).alloc (Nat.le_refl _) _)) h2 (by omega) (by omega)).mono ?_; rintro e w' ⟨rfl, d, rfl⟩
  rw [show eqI _ [1, 2, 0] = true from M2.out]
  go_wp2
  go_ret
  exact ⟨rfl, belowN (hB02.alloc hw2 _) _⟩

theorem way_bound {n : Nat} {a : List Int} (tof : Nat → Nat) (hg : GoodT n a) : 0 ≤ (runL tof n a).1 ∧ (runL tof n a).1 ≤ 160 := by
  obtain ⟨h1, h2, h3, h4⟩ := hg
  obtain ⟨g1, g2, _⟩ := runL_ok (tof := tof) h4
  have : (n : Int) * (a.length : Int) ≤ 4 * 40 := Int.mul_le_mul (by omega) (by omega) (by omega) (by omega)
  omega

set_option maxHeartbeats 1000000 in
theorem law_ListTwice (n0 : Int) (Ac : Option Addr) (m cc : Nat) (a : List Int) (w : World) (hc : RI w Ac m a) (hm : m ≤ 9223372036854775807) :
    Calls Try.prog 3 #[.int .i64 n0, .slice Ac m cc] w fun e w' => e = .returned (.bool true) ∧ Below w.heap.size w w' := by
  go_enter Try.func3, Try.ntmps3
  go_wp2_with fail
  refine (listFact_ok _).mono ?_; rintro e w0 ⟨rfl, hB0⟩
  have hc0 := hc.below hB0
  by_cases hg : GoodT n0 a
  · obtain ⟨n, rfl⟩ : ∃ n : Nat, n0 = n := ⟨n0.toNat, by have := hg.2.1; omega⟩
    have hb0 := way_bound toF hg
    have HG := Lib.hid hg
    have hm40 : m ≤ 40 := by have := hc.len; have := hg.1; omega
    have HM := Lib.hid hc.len
    clear hg
    go_wp2_with fail
    refine (lfront_ok n _ _ _ _ _ hc0 HG.out).mono ?_; rintro e w1 ⟨A1, c1, rfl, R1, hB1⟩
    have hB01 := hB0.trans (hB1.mono hB0.size)
    have hc1 := hc0.below hB1
    go_wp2_with fail
    refine (lleast_ok n _ _ _ _ _ hc1 HG.out).mono ?_; rintro e w2 ⟨v, rfl, hv, hB2⟩
    have h1 := twice_best HG.out.2.2.2 hv
    have h2 := way_best (tof := toF) (fun _ => Nat.zero_le _) HG.out.2.2.2 hv
    have h3 := len_best (by have := HG.out.2.2.1; omega) HG.out.2.2.2 hv
    rw [HM.out] at h1 h3
    generalize (runL toF n a).1 = c at hb0 h1 h2
    have hd : decide (c ≤ 2 * v - m) = true := by simp; omega
    clear hv R1
    go_wp2
    go_ret
    exact ⟨by simp, hB01.trans (hB2.mono hB01.size)⟩
  · have HG := Lib.hid hg
    clear hg
    go_wp2_with fail
    refine (lfront_no _ _ _ _ _ _ hc0 hm HG.out).mono ?_; rintro e w1 ⟨rfl, rfl⟩
    go_wp2_with fail
    refine (lleast_no _ _ _ _ _ _ hc0 hm HG.out).mono ?_; rintro e w2 ⟨rfl, hB2⟩
    go_wp2
    go_ret
    exact ⟨rfl, hB0.trans (hB2.mono hB0.size)⟩
end Go.Proofs.Ytccbeggkdfjalaa
