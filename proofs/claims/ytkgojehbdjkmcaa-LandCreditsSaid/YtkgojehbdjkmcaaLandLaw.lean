/- The walks of the laws on landlords: they return true, for every input. -/
import Derived.Test.YtkgojehbdjkmcaaLand
import Derived.Test.YtkgojehbdjkmcaaLandLst
import Derived.Test.YtkgojehbdjkmcaaLandFacts
import Derived.Test.YtkgojehbdjkmcaaSame
import Derived.IntWalk
namespace Go.Proofs.Ytkgojehbdjkmcaa
open Go.ChangeShapes Go.WideShapes Go.ChangeAt Go.RowKit

theorem linL_ok (n lo hi : Int) (w : World) (h1 : lo ≤ n) (h2 : n ≤ hi) :
    Calls Try.prog 8 #[.int .i64 n, .int .i64 lo, .int .i64 hi] w fun e w' => e = .returned (.bool true) ∧ w = w' := by
  go_enter Try.func8, Try.ntmps8
  go_wp2
  go_ret
  exact ⟨rfl, rfl⟩
theorem linL_no (n lo hi : Int) (w : World) (h : n < lo ∨ hi < n) :
    Calls Try.prog 8 #[.int .i64 n, .int .i64 lo, .int .i64 hi] w fun e w' => e = .returned (.bool false) ∧ w = w' := by
  by_cases h1 : lo ≤ n
  · have h2 : ¬ n ≤ hi := by omega
    clear h
    go_enter Try.func8, Try.ntmps8
    go_wp2
    go_ret
    exact ⟨rfl, rfl⟩
  · clear h
    go_enter Try.func8, Try.ntmps8
    go_wp2
    go_ret
    exact ⟨rfl, rfl⟩

set_option maxHeartbeats 1000000 in
theorem landFact_ok (w : World) : Calls Try.prog 7 #[] w fun e w' => e = .returned (.bool true) ∧ Below w.heap.size w w' := by
  have hgood : GoodL [0, 1, 2, 0] [5, 1, 1] 2 := by simp [GoodL, AllIn]
  have E2 := Lib.hid (show landRun [5, 1, 1] 2 [0, 1, 2, 0] = (7, [(0, 5), (2, 1)]) by decide)
  have hl : ∀ w : World, RI ((w.alloc (.cells #[.int .i64 0, .int .i64 1, .int .i64 2, .int .i64 0] 3)).alloc (.cells #[.int .i64 5, .int .i64 1, .int .i64 1] 3)) (some ⟨w.heap.size, 0, none⟩) 4 [0, 1, 2, 0] := fun w =>
    (RI.lit w #[.int .i64 0, .int .i64 1, .int .i64 2, .int .i64 0] 3 [0, 1, 2, 0] 4 rfl rfl).below ((Below.refl _ _).alloc (Nat.le_refl _) _)
  have hl2 : ∀ w : World, RI ((w.alloc (.cells #[.int .i64 0, .int .i64 1, .int .i64 2, .int .i64 0] 3)).alloc (.cells #[.int .i64 5, .int .i64 1, .int .i64 1] 3)) (some ⟨w.heap.size + 1, 0, none⟩) 3 [5, 1, 1] := fun w => by
    have := RI.lit (w.alloc (.cells #[.int .i64 0, .int .i64 1, .int .i64 2, .int .i64 0] 3)) #[.int .i64 5, .int .i64 1, .int .i64 1] 3 [5, 1, 1] 3 rfl rfl
    rwa [World.size_alloc] at this
  have hb : ∀ w : World, Below w.heap.size w ((w.alloc (.cells #[.int .i64 0, .int .i64 1, .int .i64 2, .int .i64 0] 3)).alloc (.cells #[.int .i64 5, .int .i64 1, .int .i64 1] 3)) := fun w =>
    ((Below.refl _ w).alloc (Nat.le_refl _) _).alloc (by simp) _
  go_enter Try.func7, Try.ntmps7
  go_wp2_with fail
  refine (ldrun_ok _ _ _ _ _ _ _ _ _ _ (hl w) (hl2 w) hgood).mono ?_; rintro e w1 ⟨A1, n1, c1, A2, c2, rfl, R1, _, _, hB1⟩
  rw [show (2 : Int).toNat = 2 from rfl, E2.out] at R1 ⊢
  have hn1 : n1 = 2 := by have := R1.len; simpa using this.symm
  subst hn1
  have hB01 := (hb w).trans (hB1.mono (by simp; omega))
  have R1' := R1.below ((hb w1).mono (Nat.le_refl _))
  go_wp2_with fail
  refine (ldleast_ok _ _ _ _ _ _ _ _ _ _ (hl w1) (hl2 w1) hgood).mono ?_; rintro e w2 ⟨v, rfl, hv, hB2⟩
  obtain rfl := leastC_fact hv
  have hw1 : w.heap.size ≤ w1.heap.size := hB01.size
  have hB02 := (hB01.trans ((hb w1).mono hw1)).trans (hB2.mono (by simp; omega))
  have R2 := R1'.below hB2
  have hw2 := hB02.size
  have M2 : Hid (eqI [0, 2] [0, 2] = true) := by simp [Hid, eqI]
  clear hv
  go_wp2_with fail
  have h2 := RI.lit w2 #[.int .i64 0, .int .i64 2] 3 [0, 2] 2 rfl rfl
  refine (ints_any _ _ _ _ _ _ _ _ _ ((Row.reads R2).below ((Below.refl w2.heap.size w2).alloc (Nat.le_refl _) _)) h2 (by omega) (by omega)).mono ?_; rintro e w' ⟨rfl, d, rfl⟩
  rw [show eqI (List.map Prod.fst (7, [((0 : Int), (5 : Int)), (2, 1)]).snd) [0, 2] = true from M2.out]
  go_wp2
  go_ret
  exact ⟨rfl, belowN (hB02.alloc hw2 _) _⟩

set_option maxRecDepth 100000 in
set_option maxHeartbeats 2000000 in
theorem law_LandYoung (A Ac : Option Addr) (n c m cc : Nat) (l cost : List Int) (k h : Int) (w : World) (hl : RI w A n l) (hc : RI w Ac m cost) (hn : n ≤ 9223372036854775807) (hm : m ≤ 9223372036854775807) :
    Calls Try.prog 3 #[.slice A n c, .slice Ac m cc, .int .i64 k, .int .i64 h] w fun e w' => e = .returned (.bool true) ∧ Below w.heap.size w w' := by
  have HL := Lib.hid hl.len
  have HM := Lib.hid hc.len
  go_enter Try.func3, Try.ntmps3
  go_wp2_with fail
  refine (landFact_ok _).mono ?_; rintro e w0 ⟨rfl, hB0⟩
  have hl0 := hl.below hB0
  have hc0 := hc.below hB0
  by_cases hk : 1 ≤ k ∧ k ≤ 8
  · obtain ⟨k1, k2⟩ := hk
    go_wp2_with fail
    refine (linL_ok _ _ _ _ k1 k2).mono ?_; rintro e w' ⟨rfl, rfl⟩
    by_cases hh : 1 ≤ h ∧ h ≤ k
    · obtain ⟨h1, h2⟩ := hh
      go_wp2_with fail
      refine (linL_ok _ _ _ _ h1 h2).mono ?_; rintro e w' ⟨rfl, rfl⟩
      obtain ⟨q, rfl⟩ : ∃ q : Nat, k = q := ⟨k.toNat, by omega⟩
      obtain ⟨t, rfl⟩ : ∃ t : Nat, h = t := ⟨h.toNat, by omega⟩
      by_cases hg : GoodL l cost q
      · have HG := Lib.hid hg
        have HG2 : Hid (GoodL l cost t) := Lib.hid ⟨hg.1, hg.2.1, hg.2.2.1, hg.2.2.2.1, h1, by omega⟩
        have hok := landOk_take hg.2.2.1 (s := q) (by omega) l l.length (Nat.le_refl _)
        rw [List.take_length] at hok
        have hok2 := landOk_take hg.2.2.1 (s := t) (by omega) l l.length (Nat.le_refl _)
        rw [List.take_length] at hok2
        have hl40 := hg.1
        have hf : ∀ x, 0 ≤ costF cost x := fun x => (costAt' hg.2.2.1 x).1
        clear hg
        go_wp2_with fail
        refine (ldrun_ok _ _ _ _ _ _ _ _ _ _ hl0 hc0 HG.out).mono ?_; rintro e w1 ⟨A1, n1, c1, A2, c2, rfl, R1, _, _, hB1⟩
        rw [Int.toNat_natCast] at R1 ⊢
        have hB01 := hB0.trans (hB1.mono hB0.size)
        go_wp2_with fail
        refine (ldleast_ok _ _ _ _ _ _ _ _ _ _ (hl.below hB01) (hc.below hB01) HG2.out).mono ?_; rintro e w2 ⟨v, rfl, hv, hB2⟩
        rw [Int.toNat_natCast] at hv
        have hy := young hf (by omega) (show t ≤ q by omega) hv.1
        have v0 := schedC_nonneg hf _ _ _ hv.1
        have v1 := leastC_run hf (by omega) hv
        obtain ⟨_, _, r0, r1⟩ := hok
        obtain ⟨_, _, _, r2⟩ := hok2
        generalize (landRun cost q l).1 = x at *
        have v2 : v ≤ 800 := by omega
        have x2 : x ≤ 800 := by omega
        have hB02 := hB01.trans (hB2.mono hB01.size)
        clear hv v1 r1 r2 R1
        obtain ⟨x, rfl⟩ : ∃ y : Nat, x = y := ⟨x.toNat, by omega⟩
        obtain ⟨v, rfl⟩ : ∃ y : Nat, v = y := ⟨v.toNat, by omega⟩
        have e1 : (q : Int) - t + 1 = ((q - t + 1 : Nat) : Int) := by omega
        have b1 : (q - t + 1) * x ≤ 8 * 800 := Nat.mul_le_mul (by omega) (by omega)
        have b2 : q * v ≤ 8 * 800 := Nat.mul_le_mul (by omega) (by omega)
        have f0 : wrap64 ((q : Int) - t) = (q : Int) - t := IntWalk.wrap64_in _ (by omega)
        have f1 : wrap64 ((q : Int) - t + 1) = (q : Int) - t + 1 := IntWalk.wrap64_in _ (by omega)
        have f2 : wrap64 (((q : Int) - t + 1) * x) = ((q : Int) - t + 1) * x := by
          rw [e1]
          have : (((q - t + 1 : Nat) : Int) * x) = (((q - t + 1) * x : Nat) : Int) := by norm_cast
          rw [this]; exact IntWalk.wrap64_in _ (by omega)
        have f3 : wrap64 ((q : Int) * v) = (q : Int) * v := by
          have : ((q : Int) * v) = ((q * v : Nat) : Int) := by norm_cast
          rw [this]; exact IntWalk.wrap64_in _ (by omega)
        have hfin : ((q : Int) - t + 1) * x ≤ (q : Int) * v := by rw [e1]; exact hy
        clear e1 b1 b2 hy
        go_wp2
        go_ret
        exact ⟨rfl, hB02⟩
      · have HG := Lib.hid hg
        have HG2 : Hid (¬ GoodL l cost t) := Lib.hid (fun h => hg ⟨h.1, h.2.1, h.2.2.1, h.2.2.2.1, k1, k2⟩)
        clear hg
        go_wp2_with fail
        refine (ldrun_no _ _ _ _ _ _ _ _ _ _ hl0 hc0 hn hm HG.out).mono ?_; rintro e w1 ⟨rfl, rfl⟩
        go_wp2_with fail
        refine (ldleast_no _ _ _ _ _ _ _ _ _ _ hl0 hc0 hn hm HG2.out).mono ?_; rintro e w2 ⟨rfl, hB2⟩
        go_wp2
        go_ret
        exact ⟨rfl, hB0.trans (hB2.mono hB0.size)⟩
    · have hh2 : h < 1 ∨ k < h := by omega
      have HH := Lib.hid hh2
      clear hh hh2
      go_wp2_with fail
      refine (linL_no _ _ _ _ HH.out).mono ?_; rintro e w' ⟨rfl, rfl⟩
      go_wp2
      go_ret
      exact ⟨rfl, hB0⟩
  · have hk2 : k < 1 ∨ 8 < k := by omega
    have HK := Lib.hid hk2
    clear hk hk2
    go_wp2_with fail
    refine (linL_no _ _ _ _ HK.out).mono ?_; rintro e w' ⟨rfl, rfl⟩
    go_wp2
    go_ret
    exact ⟨rfl, hB0⟩

set_option maxRecDepth 100000 in
set_option maxHeartbeats 2000000 in
theorem law_LandLeast (A Ac : Option Addr) (n c m cc : Nat) (l cost : List Int) (slots : Int) (w : World) (hl : RI w A n l) (hc : RI w Ac m cost) (hn : n ≤ 9223372036854775807) (hm : m ≤ 9223372036854775807) :
    Calls Try.prog 4 #[.slice A n c, .slice Ac m cc, .int .i64 slots] w fun e w' => e = .returned (.bool true) ∧ Below w.heap.size w w' := by
  have HL := Lib.hid hl.len
  have HM := Lib.hid hc.len
  go_enter Try.func4, Try.ntmps4
  go_wp2_with fail
  refine (landFact_ok _).mono ?_; rintro e w0 ⟨rfl, hB0⟩
  have hl0 := hl.below hB0
  have hc0 := hc.below hB0
  by_cases hg : GoodL l cost slots
  · have HG := Lib.hid hg
    obtain ⟨q, rfl⟩ : ∃ q : Nat, slots = q := ⟨slots.toNat, by have := hg.2.2.2.2.1; omega⟩
    have q1 : 1 ≤ q := by have := hg.2.2.2.2.1; omega
    have q8 : q ≤ 8 := by have := hg.2.2.2.2.2; omega
    have hok := landOk_take hg.2.2.1 (s := q) (by omega) l l.length (Nat.le_refl _)
    rw [List.take_length] at hok
    have hl40 := hg.1
    have hm6 : m ≤ 6 := by have := HM.out; have := hg.2.1; omega
    have hn40 : n ≤ 40 := by have := HL.out; omega
    have hf : Hid (∀ x, 0 ≤ costF cost x ∧ costF cost x ≤ 20) := Lib.hid (costAt' hg.2.2.1)
    clear hg
    go_wp2_with fail
    refine (ldrun_ok _ _ _ _ _ _ _ _ _ _ hl0 hc0 HG.out).mono ?_; rintro e w1 ⟨A1, n1, c1, A2, c2, rfl, _, _, _, hB1⟩
    rw [Int.toNat_natCast]
    have hB01 := hB0.trans (hB1.mono hB0.size)
    go_wp2_with fail
    refine (ldleast_ok _ _ _ _ _ _ _ _ _ _ (hl.below hB01) (hc.below hB01) HG.out).mono ?_; rintro e w2 ⟨v, rfl, hv, hB2⟩
    rw [Int.toNat_natCast] at hv
    have v0 := schedC_nonneg (fun x => (hf.out x).1) _ _ _ hv.1
    have v1 := leastC_run (fun x => (hf.out x).1) q1 hv
    obtain ⟨_, _, r0, r1⟩ := hok
    generalize (landRun cost q l).1 = x at *
    have x2 : x ≤ 800 := by omega
    have hB02 := hB01.trans (hB2.mono hB01.size)
    have HV := Lib.hid hv
    have HO := Lib.hid (fun j : Nat => once_le (fun x => (hf.out x).1) hv j)
    clear hv r1
    have hl2 := hl.below hB02
    have hc2 := hc.below hB02
    go_wp2
    go_loop [14, 15] (fun o i => ∃ j : Nat, j ≤ m ∧ i = .int .i64 j ∧ o = .int .i64 (onceK (costF cost) l j)) (fun _ i => m - (intOf i).toNat)
    case atStart => exact ⟨0, by omega, by go_num, by simp [onceK, sumF]⟩
    case round =>
      obtain ⟨j, hj, rfl, rfl⟩ := hrel
      by_cases hjm : j < m
      · obtain ⟨ad, y, rfl, hy, hcell⟩ := hc2.at_ hjm
        have hcy : costF cost j = y := by unfold costF; rw [Int.toNat_natCast, List.getD_eq_getElem?_getD, hy.out]; rfl
        have hin := onceK_in hf.out l j
        have hy20 := hf.out j
        rw [hcy] at hy20
        have hsucc := Lib.hid (onceK_succ (costF cost) l j)
        rw [hcy] at hsucc
        generalize ho : onceK (costF cost) l j = oj at *
        go_wp2_with fail
        refine (has_any _ _ _ _ _ _ hl2 (by omega)).mono ?_; rintro e w' ⟨rfl, rfl⟩
        by_cases hmem : (j : Int) ∈ l
        · have hs := hsucc.out
          rw [if_pos hmem] at hs
          rw [(hasB_iff l j).2 hmem]
          go_wp2
          go_round
          case rel => exact ⟨j + 1, by omega, by go_num, by rw [hs]; try go_num⟩
          case measure => simp [intOf]; omega
        · have hs := hsucc.out
          rw [if_neg hmem] at hs
          rw [(hasB_false l j).2 hmem]
          go_wp2
          go_round
          case rel => exact ⟨j + 1, by omega, by go_num, by rw [hs]; try simp⟩
          case measure => simp [intOf]; omega
      · obtain rfl : j = m := by omega
        have ho := HO.out j
        generalize onceK (costF cost) l j = oj at *
        by_cases hg2 : GoodL l cost ((q : Int) + 1)
        · have HG2 := Lib.hid hg2
          clear hg2
          go_wp2_with fail
          refine (ldleast_ok _ _ _ _ _ _ _ _ _ _ hl2 hc2 HG2.out).mono ?_; rintro e w3 ⟨u, rfl, hu, hB3⟩
          have hmore := leastC_more (by omega) HV.out hu
          clear hu
          go_wp2
          go_ret
          exact ⟨rfl, hB02.trans (hB3.mono hB02.size)⟩
        · have HG2 := Lib.hid hg2
          clear hg2
          go_wp2_with fail
          refine (ldleast_no _ _ _ _ _ _ _ _ _ _ hl2 hc2 hn hm HG2.out).mono ?_; rintro e w3 ⟨rfl, hB3⟩
          go_wp2
          go_ret
          exact ⟨rfl, hB02.trans (hB3.mono hB02.size)⟩
  · have HG := Lib.hid hg
    clear hg
    go_wp2_with fail
    refine (ldrun_no _ _ _ _ _ _ _ _ _ _ hl0 hc0 hn hm HG.out).mono ?_; rintro e w1 ⟨rfl, rfl⟩
    go_wp2_with fail
    refine (ldleast_no _ _ _ _ _ _ _ _ _ _ hl0 hc0 hn hm HG.out).mono ?_; rintro e w2 ⟨rfl, hB2⟩
    go_wp2
    go_ret
    exact ⟨rfl, hB0.trans (hB2.mono hB0.size)⟩
end Go.Proofs.Ytkgojehbdjkmcaa
