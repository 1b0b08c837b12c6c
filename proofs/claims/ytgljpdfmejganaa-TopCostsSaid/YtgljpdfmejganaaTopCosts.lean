/- The walk of TopCosts: it returns true, for every input. -/
import Derived.Test.YtgljpdfmejganaaListRuns
import Derived.Test.YtgljpdfmejganaaListLeast
import Derived.Test.YtgljpdfmejganaaListBounds
import Derived.Test.YtgljpdfmejganaaServeLaw
import Derived.Test.YtgljpdfmejganaaServeLaws2
import Derived.Test.YtgljpdfmejganaaAckRun
import Derived.Test.YtgljpdfmejganaaAckLeast
import Derived.Test.YtgljpdfmejganaaAckMore
import Derived.Test.YtgljpdfmejganaaSkiTop
import Derived.IntWalk
namespace Go.Proofs.Ytgljpdfmejganaa
open Go.ChangeShapes Go.WideShapes Go.ChangeAt Go.RowKit

theorem ski_two (p d : Int) (h1 : 1 ≤ p) (h2 : p ≤ 20) (h3 : 0 ≤ d) (h4 : d ≤ 1000) : 0 ≤ costF p d p ∧ costF p d p ≤ 2000 ∧ 0 ≤ leastF p d ∧ leastF p d ≤ 2000 ∧ costF p d p ≤ 2 * leastF p d := by
  unfold costF leastF
  by_cases h5 : d < p
  · rw [if_pos h5, if_neg (by omega)]; omega
  · rw [if_neg h5, if_pos (by omega)]; omega
theorem pAll_two (a b : Int) : pAll [a, b] 2 = absI a b := by
  have := absI_comm b a
  simp [pAll, pRow]; omega


theorem way_bound' {n : Nat} {a : List Int} (tof : Nat → Nat) (hg : GoodT n a) : 0 ≤ (runL tof n a).1 ∧ (runL tof n a).1 ≤ 160 := by
  obtain ⟨h1, h2, h3, h4⟩ := hg
  obtain ⟨g1, g2, _⟩ := runL_ok (tof := tof) h4
  have : (n : Int) * (a.length : Int) ≤ 4 * 40 := Int.mul_le_mul (by omega) (by omega) (by omega) (by omega)
  omega
theorem serve_nums {a b : Int} {l : List Int} {v : Int} (hg : GoodS [a, b] l) (hv : Best (NxS 2) (pad3 [a, b]) l v) : 0 ≤ v ∧ v ≤ 240 := by
  obtain ⟨k, hk⟩ := hv.1
  have := runS_in hg.2.2.2.2 (goodP_pad (by simp) hg.2.2.2.1) hk
  have := hg.2.2.1; omega
theorem serve_two {a b : Int} {l : List Int} {v : Int} (hg : GoodS [a, b] l) (hv : Best (NxS 2) (pad3 [a, b]) l v) : 0 ≤ (runS dstep [a, b] l).1 ∧ (runS dstep [a, b] l).1 ≤ 240 ∧ (runS dstep [a, b] l).1 ≤ 2 * v + absI a b := by
  have h1 := dbl_law (n := 2) (by omega) (by omega) rfl (best_pad rfl hv)
  rw [pAll_two] at h1
  have h2 := runS_in' (f := dstep) (n := 2) (s := [a, b]) (fun s x => dstep_in) ⟨rfl, hg.2.2.2.1⟩ l hg.2.2.2.2
  have h3 := hg.2.2.1
  refine ⟨h2.1, ?_, by omega⟩
  have := h2.2.1
  omega

set_option maxRecDepth 100000 in
set_option maxHeartbeats 4000000 in
theorem law_TopCosts (A0 A3 A6 : Option Addr) (n0 c0 n3 c3 n6 c6 : Nat) (l0 l3 l6 : List Int) (p d a b : Int) (w : World) (h0 : RI w A0 n0 l0) (hn0 : n0 ≤ 9223372036854775807) (h3 : RI w A3 n3 l3) (hc3 : n3 ≤ c3) (hn3 : n3 ≤ 9223372036854775807) (h6 : RI w A6 n6 l6) (hn6 : n6 ≤ 9223372036854775807) :
    Calls Try.prog 5 #[.slice A0 n0 c0, .int .i64 p, .int .i64 d, .slice A3 n3 c3, .int .i64 a, .int .i64 b, .slice A6 n6 c6] w fun e w' => e = .returned (.bool true) ∧ Below w.heap.size w w' := by
  have hl : ∀ W : World, RI (W.alloc (.cells #[.int .i64 a, .int .i64 b] 3)) (some ⟨W.heap.size, 0, none⟩) 2 [a, b] := fun W => RI.lit W #[.int .i64 a, .int .i64 b] 3 [a, b] 2 rfl rfl
  have hev : costF 1 5 1 = 1 := by decide
  go_enter Try.func5, Try.ntmps5
  go_wp2_with fail
  refine (even_ok 1 5 _ (by omega) (by omega) (by omega) (by omega)).mono ?_; rintro e w' ⟨rfl, rfl⟩
  rw [hev]
  clear hev
  by_cases hg : GoodT (3 : Nat) l0
  · have HG := Lib.hid hg
    have hb0 := way_bound' toF hg
    clear hg
    go_wp2_with fail
    refine (lfront_ok 3 _ _ _ _ _ h0 HG.out).mono ?_; rintro e w1 ⟨A1, c1, rfl, R1, hB1⟩
    clear R1
    go_wp2_with fail
    refine (lleast_ok 3 _ _ _ _ _ (h0.below hB1) HG.out).mono ?_; rintro e w2 ⟨v, rfl, hv, hB2⟩
    have hBa : Below w.heap.size w w2 := hB1.trans (hB2.mono hB1.size)
    have t1 := twice_best HG.out.2.2.2 hv
    have t2 := way_best (tof := toF) (fun _ => Nat.zero_le _) HG.out.2.2.2 hv
    clear hv
    generalize (runL toF 3 l0).1 = x at hb0 t1 t2
    have t3 : ¬ 2 * v < x := by omega
    clear t1
    go_wp2
    go_quiet (fail)
    replace hBa := belowN hBa nq
    obtain ⟨wr, hwq⟩ : ∃ W9, World.drewN w2 nq = W9 := ⟨_, rfl⟩
    rw [hwq] at hBa ⊢
    clear hwq
    go_wp2_with fail
    by_cases hs : 1 ≤ p ∧ p ≤ 20 ∧ 0 ≤ d ∧ d ≤ 1000
    · obtain ⟨s1, s2, s3, s4⟩ := hs
      obtain ⟨u1, u2, u3, u4, u5⟩ := ski_two p d s1 s2 s3 s4
      refine (even_ok _ _ _ s1 s2 s3 s4).mono ?_; rintro e w' ⟨rfl, rfl⟩
      go_wp2_with fail
      refine (skiLeast_ok _ _ _ s1 s2 s3 s4).mono ?_; rintro e w' ⟨rfl, rfl⟩
      generalize costF p d p = x2 at u1 u2 u5
      generalize leastF p d = y2 at u3 u4 u5
      have u6 : ¬ 2 * y2 < x2 := by omega
      clear u5
      go_wp2
      go_quiet (fail)
      replace hBa := belowN hBa nq
      obtain ⟨wr, hwq⟩ : ∃ W9, World.drewN wr nq = W9 := ⟨_, rfl⟩
      rw [hwq] at hBa ⊢
      clear hwq
      go_wp2_with fail
      have h3a := h3.below hBa
      by_cases ha : GoodA l3 p
      · have HA := Lib.hid ha
        clear ha
        refine (arun_ok _ _ _ _ _ _ h3a hc3 HA.out).mono ?_; rintro e w3 ⟨A3, m3, c3', outs, s, rfl, _, _, q1, q2, hA, _, hB3⟩
        have HAR := Lib.hid hA
        clear hA
        have hBb := hBa.trans (hB3.mono hBa.size)
        go_wp2_with fail
        refine (aleast_ok _ _ _ _ _ _ (h3.below hBb) hc3 HA.out).mono ?_; rintro e w4 ⟨B, k, rfl, hk, hI, hBl, q3, q4, hB4⟩
        have hBc := hBb.trans (hB4.mono hBb.size)
        have q5 := (ackRun_twice (by have := HA.out.1.2.2.1; omega) HAR.out HA.out.2 hI hBl).1
        rw [← hk] at q5
        have q6 : ¬ 2 * k < s := by omega
        clear hk hI hBl q5
        go_wp2
        go_quiet (fail)
        replace hBc := belowN hBc nq
        obtain ⟨wr, hwq⟩ : ∃ W9, World.drewN w4 nq = W9 := ⟨_, rfl⟩
        rw [hwq] at hBc ⊢
        clear hwq
        go_wp2_with fail
        have hBd := hBc.alloc hBc.size (.cells #[.int .i64 a, .int .i64 b] 3)
        by_cases hz : GoodS [a, b] l6
        · have HZ := Lib.hid hz
          clear hz
          refine (double_ok _ _ _ _ _ _ _ _ _ (hl _) (h6.below hBd) HZ.out).mono ?_; rintro e w5 ⟨A5, c5, rfl, _, hB5⟩
          have hBe := hBd.trans (hB5.mono hBd.size)
          have hBf := hBe.alloc hBe.size (.cells #[.int .i64 a, .int .i64 b] 3)
          go_wp2_with fail
          refine (sleast_ok _ _ _ _ _ _ _ _ _ (hl _) (h6.below hBf) HZ.out).mono ?_; rintro e w6 ⟨v6, rfl, hv6, hB6⟩
          have hBg := hBf.trans (hB6.mono hBf.size)
          obtain ⟨g1, g2⟩ := serve_nums HZ.out hv6
          obtain ⟨g3, g4, g5⟩ := serve_two HZ.out hv6
          have hain : 0 ≤ a ∧ a ≤ 12 := HZ.out.2.2.2.1 a (by simp)
          have hbin : 0 ≤ b ∧ b ≤ 12 := HZ.out.2.2.2.1 b (by simp)
          have gab := absI_in hain hbin
          have HAB : Hid (∀ W, Calls Try.prog 21 #[.int .i64 a, .int .i64 b] W fun e w' => e = .returned (.int .i64 (absI a b)) ∧ w' = W) := Lib.hid (fun W => (abs_any a b W hain hbin).mono fun _ _ ⟨x1, x2⟩ => ⟨x1, x2.symm⟩)
          clear hv6 hain hbin
          generalize (runS dstep [a, b] l6).1 = D at g3 g4 g5
          generalize absI a b = ab at gab g5 HAB
          have g6 : D ≤ 2 * v6 + ab := g5
          clear g5
          go_wp2
          go_quiet ((go_at_call 21; exact (HAB.out _).mono (fun _ _ ⟨h1, h2⟩ => ⟨h1, _, h2⟩)))
          go_wp2
          go_ret
          exact ⟨rfl, belowN hBg _⟩
        · have HZ := Lib.hid hz
          clear hz
          refine (double_no _ _ _ _ _ _ _ _ _ (hl _) (h6.below hBd) (by omega) hn6 HZ.out).mono ?_; rintro e w5 ⟨rfl, rfl⟩
          obtain ⟨w5, hw5⟩ : ∃ w5, World.alloc wr (.cells #[.int .i64 a, .int .i64 b] 3) = w5 := ⟨_, rfl⟩
          rw [hw5] at hBd ⊢
          have hBf := hBd.alloc hBd.size (.cells #[.int .i64 a, .int .i64 b] 3)
          clear hw5
          go_wp2_with fail
          refine (sleast_no _ _ _ _ _ _ _ _ _ (hl _) (h6.below hBf) (by omega) hn6 HZ.out).mono ?_; rintro e w6 ⟨rfl, hB6⟩
          have hBg := hBf.trans (hB6.mono hBf.size)
          go_wp2
          go_quiet (fail)
          go_wp2
          go_ret
          exact ⟨rfl, belowN hBg _⟩
      · have HA := Lib.hid ha
        clear ha
        refine (arun_no _ _ _ _ _ _ h3a hn3 HA.out).mono ?_; rintro e w3 ⟨rfl, d1, rfl⟩
        have h3b := h3a.drewN d1
        have hBb := belowN hBa d1
        obtain ⟨w3, hw3⟩ : ∃ w3, World.drewN wr d1 = w3 := ⟨_, rfl⟩
        rw [hw3] at h3b hBb ⊢
        clear hw3
        go_wp2_with fail
        refine (aleast_no _ _ _ _ _ _ h3b hn3 HA.out).mono ?_; rintro e w4 ⟨rfl, d2, rfl⟩
        have hBc := belowN hBb d2
        obtain ⟨w4, hw4⟩ : ∃ w4, World.drewN w3 d2 = w4 := ⟨_, rfl⟩
        rw [hw4] at hBc ⊢
        clear hw4 h3b
        go_wp2
        go_quiet (fail)
        replace hBc := belowN hBc nq
        obtain ⟨wr, hwq⟩ : ∃ W9, World.drewN w4 nq = W9 := ⟨_, rfl⟩
        rw [hwq] at hBc ⊢
        clear hwq
        go_wp2_with fail
        have hBd := hBc.alloc hBc.size (.cells #[.int .i64 a, .int .i64 b] 3)
        by_cases hz : GoodS [a, b] l6
        · have HZ := Lib.hid hz
          clear hz
          refine (double_ok _ _ _ _ _ _ _ _ _ (hl _) (h6.below hBd) HZ.out).mono ?_; rintro e w5 ⟨A5, c5, rfl, _, hB5⟩
          have hBe := hBd.trans (hB5.mono hBd.size)
          have hBf := hBe.alloc hBe.size (.cells #[.int .i64 a, .int .i64 b] 3)
          go_wp2_with fail
          refine (sleast_ok _ _ _ _ _ _ _ _ _ (hl _) (h6.below hBf) HZ.out).mono ?_; rintro e w6 ⟨v6, rfl, hv6, hB6⟩
          have hBg := hBf.trans (hB6.mono hBf.size)
          obtain ⟨g1, g2⟩ := serve_nums HZ.out hv6
          obtain ⟨g3, g4, g5⟩ := serve_two HZ.out hv6
          have hain : 0 ≤ a ∧ a ≤ 12 := HZ.out.2.2.2.1 a (by simp)
          have hbin : 0 ≤ b ∧ b ≤ 12 := HZ.out.2.2.2.1 b (by simp)
          have gab := absI_in hain hbin
          have HAB : Hid (∀ W, Calls Try.prog 21 #[.int .i64 a, .int .i64 b] W fun e w' => e = .returned (.int .i64 (absI a b)) ∧ w' = W) := Lib.hid (fun W => (abs_any a b W hain hbin).mono fun _ _ ⟨x1, x2⟩ => ⟨x1, x2.symm⟩)
          clear hv6 hain hbin
          generalize (runS dstep [a, b] l6).1 = D at g3 g4 g5
          generalize absI a b = ab at gab g5 HAB
          have g6 : D ≤ 2 * v6 + ab := g5
          clear g5
          go_wp2
          go_quiet ((go_at_call 21; exact (HAB.out _).mono (fun _ _ ⟨h1, h2⟩ => ⟨h1, _, h2⟩)))
          go_wp2
          go_ret
          exact ⟨rfl, belowN hBg _⟩
        · have HZ := Lib.hid hz
          clear hz
          refine (double_no _ _ _ _ _ _ _ _ _ (hl _) (h6.below hBd) (by omega) hn6 HZ.out).mono ?_; rintro e w5 ⟨rfl, rfl⟩
          obtain ⟨w5, hw5⟩ : ∃ w5, World.alloc wr (.cells #[.int .i64 a, .int .i64 b] 3) = w5 := ⟨_, rfl⟩
          rw [hw5] at hBd ⊢
          have hBf := hBd.alloc hBd.size (.cells #[.int .i64 a, .int .i64 b] 3)
          clear hw5
          go_wp2_with fail
          refine (sleast_no _ _ _ _ _ _ _ _ _ (hl _) (h6.below hBf) (by omega) hn6 HZ.out).mono ?_; rintro e w6 ⟨rfl, hB6⟩
          have hBg := hBf.trans (hB6.mono hBf.size)
          go_wp2
          go_quiet (fail)
          go_wp2
          go_ret
          exact ⟨rfl, belowN hBg _⟩
    · have HS := Lib.hid hs
      clear hs
      refine (even_no _ _ _ HS.out).mono ?_; rintro e w' ⟨rfl, rfl⟩
      go_wp2_with fail
      refine (skiLeast_no _ _ _ HS.out).mono ?_; rintro e w' ⟨rfl, rfl⟩
      go_wp2
      go_quiet (fail)
      replace hBa := belowN hBa nq
      obtain ⟨wr, hwq⟩ : ∃ W9, World.drewN wr nq = W9 := ⟨_, rfl⟩
      rw [hwq] at hBa ⊢
      clear hwq
      go_wp2_with fail
      have h3a := h3.below hBa
      by_cases ha : GoodA l3 p
      · have HA := Lib.hid ha
        clear ha
        refine (arun_ok _ _ _ _ _ _ h3a hc3 HA.out).mono ?_; rintro e w3 ⟨A3, m3, c3', outs, s, rfl, _, _, q1, q2, hA, _, hB3⟩
        have HAR := Lib.hid hA
        clear hA
        have hBb := hBa.trans (hB3.mono hBa.size)
        go_wp2_with fail
        refine (aleast_ok _ _ _ _ _ _ (h3.below hBb) hc3 HA.out).mono ?_; rintro e w4 ⟨B, k, rfl, hk, hI, hBl, q3, q4, hB4⟩
        have hBc := hBb.trans (hB4.mono hBb.size)
        have q5 := (ackRun_twice (by have := HA.out.1.2.2.1; omega) HAR.out HA.out.2 hI hBl).1
        rw [← hk] at q5
        have q6 : ¬ 2 * k < s := by omega
        clear hk hI hBl q5
        go_wp2
        go_quiet (fail)
        replace hBc := belowN hBc nq
        obtain ⟨wr, hwq⟩ : ∃ W9, World.drewN w4 nq = W9 := ⟨_, rfl⟩
        rw [hwq] at hBc ⊢
        clear hwq
        go_wp2_with fail
        have hBd := hBc.alloc hBc.size (.cells #[.int .i64 a, .int .i64 b] 3)
        by_cases hz : GoodS [a, b] l6
        · have HZ := Lib.hid hz
          clear hz
          refine (double_ok _ _ _ _ _ _ _ _ _ (hl _) (h6.below hBd) HZ.out).mono ?_; rintro e w5 ⟨A5, c5, rfl, _, hB5⟩
          have hBe := hBd.trans (hB5.mono hBd.size)
          have hBf := hBe.alloc hBe.size (.cells #[.int .i64 a, .int .i64 b] 3)
          go_wp2_with fail
          refine (sleast_ok _ _ _ _ _ _ _ _ _ (hl _) (h6.below hBf) HZ.out).mono ?_; rintro e w6 ⟨v6, rfl, hv6, hB6⟩
          have hBg := hBf.trans (hB6.mono hBf.size)
          obtain ⟨g1, g2⟩ := serve_nums HZ.out hv6
          obtain ⟨g3, g4, g5⟩ := serve_two HZ.out hv6
          have hain : 0 ≤ a ∧ a ≤ 12 := HZ.out.2.2.2.1 a (by simp)
          have hbin : 0 ≤ b ∧ b ≤ 12 := HZ.out.2.2.2.1 b (by simp)
          have gab := absI_in hain hbin
          have HAB : Hid (∀ W, Calls Try.prog 21 #[.int .i64 a, .int .i64 b] W fun e w' => e = .returned (.int .i64 (absI a b)) ∧ w' = W) := Lib.hid (fun W => (abs_any a b W hain hbin).mono fun _ _ ⟨x1, x2⟩ => ⟨x1, x2.symm⟩)
          clear hv6 hain hbin
          generalize (runS dstep [a, b] l6).1 = D at g3 g4 g5
          generalize absI a b = ab at gab g5 HAB
          have g6 : D ≤ 2 * v6 + ab := g5
          clear g5
          go_wp2
          go_quiet ((go_at_call 21; exact (HAB.out _).mono (fun _ _ ⟨h1, h2⟩ => ⟨h1, _, h2⟩)))
          go_wp2
          go_ret
          exact ⟨rfl, belowN hBg _⟩
        · have HZ := Lib.hid hz
          clear hz
          refine (double_no _ _ _ _ _ _ _ _ _ (hl _) (h6.below hBd) (by omega) hn6 HZ.out).mono ?_; rintro e w5 ⟨rfl, rfl⟩
          obtain ⟨w5, hw5⟩ : ∃ w5, World.alloc wr (.cells #[.int .i64 a, .int .i64 b] 3) = w5 := ⟨_, rfl⟩
          rw [hw5] at hBd ⊢
          have hBf := hBd.alloc hBd.size (.cells #[.int .i64 a, .int .i64 b] 3)
          clear hw5
          go_wp2_with fail
          refine (sleast_no _ _ _ _ _ _ _ _ _ (hl _) (h6.below hBf) (by omega) hn6 HZ.out).mono ?_; rintro e w6 ⟨rfl, hB6⟩
          have hBg := hBf.trans (hB6.mono hBf.size)
          go_wp2
          go_quiet (fail)
          go_wp2
          go_ret
          exact ⟨rfl, belowN hBg _⟩
      · have HA := Lib.hid ha
        clear ha
        refine (arun_no _ _ _ _ _ _ h3a hn3 HA.out).mono ?_; rintro e w3 ⟨rfl, d1, rfl⟩
        have h3b := h3a.drewN d1
        have hBb := belowN hBa d1
        obtain ⟨w3, hw3⟩ : ∃ w3, World.drewN wr d1 = w3 := ⟨_, rfl⟩
        rw [hw3] at h3b hBb ⊢
        clear hw3
        go_wp2_with fail
        refine (aleast_no _ _ _ _ _ _ h3b hn3 HA.out).mono ?_; rintro e w4 ⟨rfl, d2, rfl⟩
        have hBc := belowN hBb d2
        obtain ⟨w4, hw4⟩ : ∃ w4, World.drewN w3 d2 = w4 := ⟨_, rfl⟩
        rw [hw4] at hBc ⊢
        clear hw4 h3b
        go_wp2
        go_quiet (fail)
        replace hBc := belowN hBc nq
        obtain ⟨wr, hwq⟩ : ∃ W9, World.drewN w4 nq = W9 := ⟨_, rfl⟩
        rw [hwq] at hBc ⊢
        clear hwq
        go_wp2_with fail
        have hBd := hBc.alloc hBc.size (.cells #[.int .i64 a, .int .i64 b] 3)
        by_cases hz : GoodS [a, b] l6
        · have HZ := Lib.hid hz
          clear hz
          refine (double_ok _ _ _ _ _ _ _ _ _ (hl _) (h6.below hBd) HZ.out).mono ?_; rintro e w5 ⟨A5, c5, rfl, _, hB5⟩
          have hBe := hBd.trans (hB5.mono hBd.size)
          have hBf := hBe.alloc hBe.size (.cells #[.int .i64 a, .int .i64 b] 3)
          go_wp2_with fail
          refine (sleast_ok _ _ _ _ _ _ _ _ _ (hl _) (h6.below hBf) HZ.out).mono ?_; rintro e w6 ⟨v6, rfl, hv6, hB6⟩
          have hBg := hBf.trans (hB6.mono hBf.size)
          obtain ⟨g1, g2⟩ := serve_nums HZ.out hv6
          obtain ⟨g3, g4, g5⟩ := serve_two HZ.out hv6
          have hain : 0 ≤ a ∧ a ≤ 12 := HZ.out.2.2.2.1 a (by simp)
          have hbin : 0 ≤ b ∧ b ≤ 12 := HZ.out.2.2.2.1 b (by simp)
          have gab := absI_in hain hbin
          have HAB : Hid (∀ W, Calls Try.prog 21 #[.int .i64 a, .int .i64 b] W fun e w' => e = .returned (.int .i64 (absI a b)) ∧ w' = W) := Lib.hid (fun W => (abs_any a b W hain hbin).mono fun _ _ ⟨x1, x2⟩ => ⟨x1, x2.symm⟩)
          clear hv6 hain hbin
          generalize (runS dstep [a, b] l6).1 = D at g3 g4 g5
          generalize absI a b = ab at gab g5 HAB
          have g6 : D ≤ 2 * v6 + ab := g5
          clear g5
          go_wp2
          go_quiet ((go_at_call 21; exact (HAB.out _).mono (fun _ _ ⟨h1, h2⟩ => ⟨h1, _, h2⟩)))
          go_wp2
          go_ret
          exact ⟨rfl, belowN hBg _⟩
        · have HZ := Lib.hid hz
          clear hz
          refine (double_no _ _ _ _ _ _ _ _ _ (hl _) (h6.below hBd) (by omega) hn6 HZ.out).mono ?_; rintro e w5 ⟨rfl, rfl⟩
          obtain ⟨w5, hw5⟩ : ∃ w5, World.alloc wr (.cells #[.int .i64 a, .int .i64 b] 3) = w5 := ⟨_, rfl⟩
          rw [hw5] at hBd ⊢
          have hBf := hBd.alloc hBd.size (.cells #[.int .i64 a, .int .i64 b] 3)
          clear hw5
          go_wp2_with fail
          refine (sleast_no _ _ _ _ _ _ _ _ _ (hl _) (h6.below hBf) (by omega) hn6 HZ.out).mono ?_; rintro e w6 ⟨rfl, hB6⟩
          have hBg := hBf.trans (hB6.mono hBf.size)
          go_wp2
          go_quiet (fail)
          go_wp2
          go_ret
          exact ⟨rfl, belowN hBg _⟩
  · have HG := Lib.hid hg
    clear hg
    go_wp2_with fail
    refine (lfront_no _ _ _ _ _ _ h0 hn0 HG.out).mono ?_; rintro e w1 ⟨rfl, rfl⟩
    go_wp2_with fail
    refine (lleast_no _ _ _ _ _ _ h0 hn0 HG.out).mono ?_; rintro e w2 ⟨rfl, hBa⟩
    go_wp2
    go_quiet (fail)
    replace hBa := belowN hBa nq
    obtain ⟨wr, hwq⟩ : ∃ W9, World.drewN w2 nq = W9 := ⟨_, rfl⟩
    rw [hwq] at hBa ⊢
    clear hwq
    go_wp2_with fail
    by_cases hs : 1 ≤ p ∧ p ≤ 20 ∧ 0 ≤ d ∧ d ≤ 1000
    · obtain ⟨s1, s2, s3, s4⟩ := hs
      obtain ⟨u1, u2, u3, u4, u5⟩ := ski_two p d s1 s2 s3 s4
      refine (even_ok _ _ _ s1 s2 s3 s4).mono ?_; rintro e w' ⟨rfl, rfl⟩
      go_wp2_with fail
      refine (skiLeast_ok _ _ _ s1 s2 s3 s4).mono ?_; rintro e w' ⟨rfl, rfl⟩
      generalize costF p d p = x2 at u1 u2 u5
      generalize leastF p d = y2 at u3 u4 u5
      have u6 : ¬ 2 * y2 < x2 := by omega
      clear u5
      go_wp2
      go_quiet (fail)
      replace hBa := belowN hBa nq
      obtain ⟨wr, hwq⟩ : ∃ W9, World.drewN wr nq = W9 := ⟨_, rfl⟩
      rw [hwq] at hBa ⊢
      clear hwq
      go_wp2_with fail
      have h3a := h3.below hBa
      by_cases ha : GoodA l3 p
      · have HA := Lib.hid ha
        clear ha
        refine (arun_ok _ _ _ _ _ _ h3a hc3 HA.out).mono ?_; rintro e w3 ⟨A3, m3, c3', outs, s, rfl, _, _, q1, q2, hA, _, hB3⟩
        have HAR := Lib.hid hA
        clear hA
        have hBb := hBa.trans (hB3.mono hBa.size)
        go_wp2_with fail
        refine (aleast_ok _ _ _ _ _ _ (h3.below hBb) hc3 HA.out).mono ?_; rintro e w4 ⟨B, k, rfl, hk, hI, hBl, q3, q4, hB4⟩
        have hBc := hBb.trans (hB4.mono hBb.size)
        have q5 := (ackRun_twice (by have := HA.out.1.2.2.1; omega) HAR.out HA.out.2 hI hBl).1
        rw [← hk] at q5
        have q6 : ¬ 2 * k < s := by omega
        clear hk hI hBl q5
        go_wp2
        go_quiet (fail)
        replace hBc := belowN hBc nq
        obtain ⟨wr, hwq⟩ : ∃ W9, World.drewN w4 nq = W9 := ⟨_, rfl⟩
        rw [hwq] at hBc ⊢
        clear hwq
        go_wp2_with fail
        have hBd := hBc.alloc hBc.size (.cells #[.int .i64 a, .int .i64 b] 3)
        by_cases hz : GoodS [a, b] l6
        · have HZ := Lib.hid hz
          clear hz
          refine (double_ok _ _ _ _ _ _ _ _ _ (hl _) (h6.below hBd) HZ.out).mono ?_; rintro e w5 ⟨A5, c5, rfl, _, hB5⟩
          have hBe := hBd.trans (hB5.mono hBd.size)
          have hBf := hBe.alloc hBe.size (.cells #[.int .i64 a, .int .i64 b] 3)
          go_wp2_with fail
          refine (sleast_ok _ _ _ _ _ _ _ _ _ (hl _) (h6.below hBf) HZ.out).mono ?_; rintro e w6 ⟨v6, rfl, hv6, hB6⟩
          have hBg := hBf.trans (hB6.mono hBf.size)
          obtain ⟨g1, g2⟩ := serve_nums HZ.out hv6
          obtain ⟨g3, g4, g5⟩ := serve_two HZ.out hv6
          have hain : 0 ≤ a ∧ a ≤ 12 := HZ.out.2.2.2.1 a (by simp)
          have hbin : 0 ≤ b ∧ b ≤ 12 := HZ.out.2.2.2.1 b (by simp)
          have gab := absI_in hain hbin
          have HAB : Hid (∀ W, Calls Try.prog 21 #[.int .i64 a, .int .i64 b] W fun e w' => e = .returned (.int .i64 (absI a b)) ∧ w' = W) := Lib.hid (fun W => (abs_any a b W hain hbin).mono fun _ _ ⟨x1, x2⟩ => ⟨x1, x2.symm⟩)
          clear hv6 hain hbin
          generalize (runS dstep [a, b] l6).1 = D at g3 g4 g5
          generalize absI a b = ab at gab g5 HAB
          have g6 : D ≤ 2 * v6 + ab := g5
          clear g5
          go_wp2
          go_quiet ((go_at_call 21; exact (HAB.out _).mono (fun _ _ ⟨h1, h2⟩ => ⟨h1, _, h2⟩)))
          go_wp2
          go_ret
          exact ⟨rfl, belowN hBg _⟩
        · have HZ := Lib.hid hz
          clear hz
          refine (double_no _ _ _ _ _ _ _ _ _ (hl _) (h6.below hBd) (by omega) hn6 HZ.out).mono ?_; rintro e w5 ⟨rfl, rfl⟩
          obtain ⟨w5, hw5⟩ : ∃ w5, World.alloc wr (.cells #[.int .i64 a, .int .i64 b] 3) = w5 := ⟨_, rfl⟩
          rw [hw5] at hBd ⊢
          have hBf := hBd.alloc hBd.size (.cells #[.int .i64 a, .int .i64 b] 3)
          clear hw5
          go_wp2_with fail
          refine (sleast_no _ _ _ _ _ _ _ _ _ (hl _) (h6.below hBf) (by omega) hn6 HZ.out).mono ?_; rintro e w6 ⟨rfl, hB6⟩
          have hBg := hBf.trans (hB6.mono hBf.size)
          go_wp2
          go_quiet (fail)
          go_wp2
          go_ret
          exact ⟨rfl, belowN hBg _⟩
      · have HA := Lib.hid ha
        clear ha
        refine (arun_no _ _ _ _ _ _ h3a hn3 HA.out).mono ?_; rintro e w3 ⟨rfl, d1, rfl⟩
        have h3b := h3a.drewN d1
        have hBb := belowN hBa d1
        obtain ⟨w3, hw3⟩ : ∃ w3, World.drewN wr d1 = w3 := ⟨_, rfl⟩
        rw [hw3] at h3b hBb ⊢
        clear hw3
        go_wp2_with fail
        refine (aleast_no _ _ _ _ _ _ h3b hn3 HA.out).mono ?_; rintro e w4 ⟨rfl, d2, rfl⟩
        have hBc := belowN hBb d2
        obtain ⟨w4, hw4⟩ : ∃ w4, World.drewN w3 d2 = w4 := ⟨_, rfl⟩
        rw [hw4] at hBc ⊢
        clear hw4 h3b
        go_wp2
        go_quiet (fail)
        replace hBc := belowN hBc nq
        obtain ⟨wr, hwq⟩ : ∃ W9, World.drewN w4 nq = W9 := ⟨_, rfl⟩
        rw [hwq] at hBc ⊢
        clear hwq
        go_wp2_with fail
        have hBd := hBc.alloc hBc.size (.cells #[.int .i64 a, .int .i64 b] 3)
        by_cases hz : GoodS [a, b] l6
        · have HZ := Lib.hid hz
          clear hz
          refine (double_ok _ _ _ _ _ _ _ _ _ (hl _) (h6.below hBd) HZ.out).mono ?_; rintro e w5 ⟨A5, c5, rfl, _, hB5⟩
          have hBe := hBd.trans (hB5.mono hBd.size)
          have hBf := hBe.alloc hBe.size (.cells #[.int .i64 a, .int .i64 b] 3)
          go_wp2_with fail
          refine (sleast_ok _ _ _ _ _ _ _ _ _ (hl _) (h6.below hBf) HZ.out).mono ?_; rintro e w6 ⟨v6, rfl, hv6, hB6⟩
          have hBg := hBf.trans (hB6.mono hBf.size)
          obtain ⟨g1, g2⟩ := serve_nums HZ.out hv6
          obtain ⟨g3, g4, g5⟩ := serve_two HZ.out hv6
          have hain : 0 ≤ a ∧ a ≤ 12 := HZ.out.2.2.2.1 a (by simp)
          have hbin : 0 ≤ b ∧ b ≤ 12 := HZ.out.2.2.2.1 b (by simp)
          have gab := absI_in hain hbin
          have HAB : Hid (∀ W, Calls Try.prog 21 #[.int .i64 a, .int .i64 b] W fun e w' => e = .returned (.int .i64 (absI a b)) ∧ w' = W) := Lib.hid (fun W => (abs_any a b W hain hbin).mono fun _ _ ⟨x1, x2⟩ => ⟨x1, x2.symm⟩)
          clear hv6 hain hbin
          generalize (runS dstep [a, b] l6).1 = D at g3 g4 g5
          generalize absI a b = ab at gab g5 HAB
          have g6 : D ≤ 2 * v6 + ab := g5
          clear g5
          go_wp2
          go_quiet ((go_at_call 21; exact (HAB.out _).mono (fun _ _ ⟨h1, h2⟩ => ⟨h1, _, h2⟩)))
          go_wp2
          go_ret
          exact ⟨rfl, belowN hBg _⟩
        · have HZ := Lib.hid hz
          clear hz
          refine (double_no _ _ _ _ _ _ _ _ _ (hl _) (h6.below hBd) (by omega) hn6 HZ.out).mono ?_; rintro e w5 ⟨rfl, rfl⟩
          obtain ⟨w5, hw5⟩ : ∃ w5, World.alloc wr (.cells #[.int .i64 a, .int .i64 b] 3) = w5 := ⟨_, rfl⟩
          rw [hw5] at hBd ⊢
          have hBf := hBd.alloc hBd.size (.cells #[.int .i64 a, .int .i64 b] 3)
          clear hw5
          go_wp2_with fail
          refine (sleast_no _ _ _ _ _ _ _ _ _ (hl _) (h6.below hBf) (by omega) hn6 HZ.out).mono ?_; rintro e w6 ⟨rfl, hB6⟩
          have hBg := hBf.trans (hB6.mono hBf.size)
          go_wp2
          go_quiet (fail)
          go_wp2
          go_ret
          exact ⟨rfl, belowN hBg _⟩
    · have HS := Lib.hid hs
      clear hs
      refine (even_no _ _ _ HS.out).mono ?_; rintro e w' ⟨rfl, rfl⟩
      go_wp2_with fail
      refine (skiLeast_no _ _ _ HS.out).mono ?_; rintro e w' ⟨rfl, rfl⟩
      go_wp2
      go_quiet (fail)
      replace hBa := belowN hBa nq
      obtain ⟨wr, hwq⟩ : ∃ W9, World.drewN wr nq = W9 := ⟨_, rfl⟩
      rw [hwq] at hBa ⊢
      clear hwq
      go_wp2_with fail
      have h3a := h3.below hBa
      by_cases ha : GoodA l3 p
      · have HA := Lib.hid ha
        clear ha
        refine (arun_ok _ _ _ _ _ _ h3a hc3 HA.out).mono ?_; rintro e w3 ⟨A3, m3, c3', outs, s, rfl, _, _, q1, q2, hA, _, hB3⟩
        have HAR := Lib.hid hA
        clear hA
        have hBb := hBa.trans (hB3.mono hBa.size)
        go_wp2_with fail
        refine (aleast_ok _ _ _ _ _ _ (h3.below hBb) hc3 HA.out).mono ?_; rintro e w4 ⟨B, k, rfl, hk, hI, hBl, q3, q4, hB4⟩
        have hBc := hBb.trans (hB4.mono hBb.size)
        have q5 := (ackRun_twice (by have := HA.out.1.2.2.1; omega) HAR.out HA.out.2 hI hBl).1
        rw [← hk] at q5
        have q6 : ¬ 2 * k < s := by omega
        clear hk hI hBl q5
        go_wp2
        go_quiet (fail)
        replace hBc := belowN hBc nq
        obtain ⟨wr, hwq⟩ : ∃ W9, World.drewN w4 nq = W9 := ⟨_, rfl⟩
        rw [hwq] at hBc ⊢
        clear hwq
        go_wp2_with fail
        have hBd := hBc.alloc hBc.size (.cells #[.int .i64 a, .int .i64 b] 3)
        by_cases hz : GoodS [a, b] l6
        · have HZ := Lib.hid hz
          clear hz
          refine (double_ok _ _ _ _ _ _ _ _ _ (hl _) (h6.below hBd) HZ.out).mono ?_; rintro e w5 ⟨A5, c5, rfl, _, hB5⟩
          have hBe := hBd.trans (hB5.mono hBd.size)
          have hBf := hBe.alloc hBe.size (.cells #[.int .i64 a, .int .i64 b] 3)
          go_wp2_with fail
          refine (sleast_ok _ _ _ _ _ _ _ _ _ (hl _) (h6.below hBf) HZ.out).mono ?_; rintro e w6 ⟨v6, rfl, hv6, hB6⟩
          have hBg := hBf.trans (hB6.mono hBf.size)
          obtain ⟨g1, g2⟩ := serve_nums HZ.out hv6
          obtain ⟨g3, g4, g5⟩ := serve_two HZ.out hv6
          have hain : 0 ≤ a ∧ a ≤ 12 := HZ.out.2.2.2.1 a (by simp)
          have hbin : 0 ≤ b ∧ b ≤ 12 := HZ.out.2.2.2.1 b (by simp)
          have gab := absI_in hain hbin
          have HAB : Hid (∀ W, Calls Try.prog 21 #[.int .i64 a, .int .i64 b] W fun e w' => e = .returned (.int .i64 (absI a b)) ∧ w' = W) := Lib.hid (fun W => (abs_any a b W hain hbin).mono fun _ _ ⟨x1, x2⟩ => ⟨x1, x2.symm⟩)
          clear hv6 hain hbin
          generalize (runS dstep [a, b] l6).1 = D at g3 g4 g5
          generalize absI a b = ab at gab g5 HAB
          have g6 : D ≤ 2 * v6 + ab := g5
          clear g5
          go_wp2
          go_quiet ((go_at_call 21; exact (HAB.out _).mono (fun _ _ ⟨h1, h2⟩ => ⟨h1, _, h2⟩)))
          go_wp2
          go_ret
          exact ⟨rfl, belowN hBg _⟩
        · have HZ := Lib.hid hz
          clear hz
          refine (double_no _ _ _ _ _ _ _ _ _ (hl _) (h6.below hBd) (by omega) hn6 HZ.out).mono ?_; rintro e w5 ⟨rfl, rfl⟩
          obtain ⟨w5, hw5⟩ : ∃ w5, World.alloc wr (.cells #[.int .i64 a, .int .i64 b] 3) = w5 := ⟨_, rfl⟩
          rw [hw5] at hBd ⊢
          have hBf := hBd.alloc hBd.size (.cells #[.int .i64 a, .int .i64 b] 3)
          clear hw5
          go_wp2_with fail
          refine (sleast_no _ _ _ _ _ _ _ _ _ (hl _) (h6.below hBf) (by omega) hn6 HZ.out).mono ?_; rintro e w6 ⟨rfl, hB6⟩
          have hBg := hBf.trans (hB6.mono hBf.size)
          go_wp2
          go_quiet (fail)
          go_wp2
          go_ret
          exact ⟨rfl, belowN hBg _⟩
      · have HA := Lib.hid ha
        clear ha
        refine (arun_no _ _ _ _ _ _ h3a hn3 HA.out).mono ?_; rintro e w3 ⟨rfl, d1, rfl⟩
        have h3b := h3a.drewN d1
        have hBb := belowN hBa d1
        obtain ⟨w3, hw3⟩ : ∃ w3, World.drewN wr d1 = w3 := ⟨_, rfl⟩
        rw [hw3] at h3b hBb ⊢
        clear hw3
        go_wp2_with fail
        refine (aleast_no _ _ _ _ _ _ h3b hn3 HA.out).mono ?_; rintro e w4 ⟨rfl, d2, rfl⟩
        have hBc := belowN hBb d2
        obtain ⟨w4, hw4⟩ : ∃ w4, World.drewN w3 d2 = w4 := ⟨_, rfl⟩
        rw [hw4] at hBc ⊢
        clear hw4 h3b
        go_wp2
        go_quiet (fail)
        replace hBc := belowN hBc nq
        obtain ⟨wr, hwq⟩ : ∃ W9, World.drewN w4 nq = W9 := ⟨_, rfl⟩
        rw [hwq] at hBc ⊢
        clear hwq
        go_wp2_with fail
        have hBd := hBc.alloc hBc.size (.cells #[.int .i64 a, .int .i64 b] 3)
        by_cases hz : GoodS [a, b] l6
        · have HZ := Lib.hid hz
          clear hz
          refine (double_ok _ _ _ _ _ _ _ _ _ (hl _) (h6.below hBd) HZ.out).mono ?_; rintro e w5 ⟨A5, c5, rfl, _, hB5⟩
          have hBe := hBd.trans (hB5.mono hBd.size)
          have hBf := hBe.alloc hBe.size (.cells #[.int .i64 a, .int .i64 b] 3)
          go_wp2_with fail
          refine (sleast_ok _ _ _ _ _ _ _ _ _ (hl _) (h6.below hBf) HZ.out).mono ?_; rintro e w6 ⟨v6, rfl, hv6, hB6⟩
          have hBg := hBf.trans (hB6.mono hBf.size)
          obtain ⟨g1, g2⟩ := serve_nums HZ.out hv6
          obtain ⟨g3, g4, g5⟩ := serve_two HZ.out hv6
          have hain : 0 ≤ a ∧ a ≤ 12 := HZ.out.2.2.2.1 a (by simp)
          have hbin : 0 ≤ b ∧ b ≤ 12 := HZ.out.2.2.2.1 b (by simp)
          have gab := absI_in hain hbin
          have HAB : Hid (∀ W, Calls Try.prog 21 #[.int .i64 a, .int .i64 b] W fun e w' => e = .returned (.int .i64 (absI a b)) ∧ w' = W) := Lib.hid (fun W => (abs_any a b W hain hbin).mono fun _ _ ⟨x1, x2⟩ => ⟨x1, x2.symm⟩)
          clear hv6 hain hbin
          generalize (runS dstep [a, b] l6).1 = D at g3 g4 g5
          generalize absI a b = ab at gab g5 HAB
          have g6 : D ≤ 2 * v6 + ab := g5
          clear g5
          go_wp2
          go_quiet ((go_at_call 21; exact (HAB.out _).mono (fun _ _ ⟨h1, h2⟩ => ⟨h1, _, h2⟩)))
          go_wp2
          go_ret
          exact ⟨rfl, belowN hBg _⟩
        · have HZ := Lib.hid hz
          clear hz
          refine (double_no _ _ _ _ _ _ _ _ _ (hl _) (h6.below hBd) (by omega) hn6 HZ.out).mono ?_; rintro e w5 ⟨rfl, rfl⟩
          obtain ⟨w5, hw5⟩ : ∃ w5, World.alloc wr (.cells #[.int .i64 a, .int .i64 b] 3) = w5 := ⟨_, rfl⟩
          rw [hw5] at hBd ⊢
          have hBf := hBd.alloc hBd.size (.cells #[.int .i64 a, .int .i64 b] 3)
          clear hw5
          go_wp2_with fail
          refine (sleast_no _ _ _ _ _ _ _ _ _ (hl _) (h6.below hBf) (by omega) hn6 HZ.out).mono ?_; rintro e w6 ⟨rfl, hB6⟩
          have hBg := hBf.trans (hB6.mono hBf.size)
          go_wp2
          go_quiet (fail)
          go_wp2
          go_ret
          exact ⟨rfl, belowN hBg _⟩
end Go.Proofs.Ytgljpdfmejganaa
