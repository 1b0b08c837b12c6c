/- The walk of the law FifoOne: it returns true, for every input. -/
import Derived.Test.YthppmdoomcpbkaaOpt
import Derived.Test.YthppmdoomcpbkaaWays
import Derived.Test.YthppmdoomcpbkaaFifoLaw
import Derived.Test.YthppmdoomcpbkaaClock
import Derived.Test.YthppmdoomcpbkaaLru
import Derived.Test.YthppmdoomcpbkaaFlush
import Derived.Test.YthppmdoomcpbkaaSame
namespace Go.Proofs.Ythppmdoomcpbkaa
open Go.ChangeShapes Go.WideShapes Go.ChangeAt Go.RowKit

set_option maxRecDepth 100000 in
set_option maxHeartbeats 4000000 in
theorem law_FifoOne (A : Option Addr) (n c : Nat) (l : List Int) (w : World) (h : RI w A n l) (hnc : n ≤ c) (hn : n ≤ 9223372036854775807) :
    Calls Try.prog 4 #[.slice A n c] w fun e w' => e = .returned (.bool true) ∧ Below w.heap.size w w' := by
  by_cases hg : GoodReqs l 1
  · have HL := Lib.hid h.len
    have HG := Lib.hid hg
    have hn4 : n ≤ 40 := by have := HL.out; have := hg.1; omega
    have H0 : Hid ((lruRun 1 l).1 = (optF 1 [] l).1) := Lib.hid (opt_one 0 l)
    have H1 : Hid ((fifoRun 1 l).1 = (optF 1 [] l).1) := Lib.hid (opt_one 1 l)
    have H2 : Hid ((clockRun 1 l).hits = (optF 1 [] l).1) := Lib.hid (opt_one 2 l)
    have H3 : Hid ((flushRun 1 l).1 = (optF 1 [] l).1) := Lib.hid (opt_one 3 l)
    have HE : Hid (eqB (optF 1 [] l).1 (optF 1 [] l).1 = true) := by simp [Hid, eqB]
    clear hn hg
    go_enter Try.func4, Try.ntmps4
    go_wp2_with fail
    refine (anomaly_ok _).mono ?_; rintro e w0 ⟨rfl, hB0⟩
    go_wp2_with fail
    refine (fifo_ok _ _ _ _ _ _ (h.below hB0) HG.out).mono ?_; rintro e w1 ⟨A1, c1, A2, n2, c2, rfl, R1, R2, hn2, hB1⟩
    have hB01 : Below w.heap.size w w1 := hB0.trans (hB1.mono hB0.size)
    go_wp2_with fail
    refine (lru_ok _ _ _ _ _ _ (h.below hB01) HG.out).mono ?_; rintro e w2 ⟨A3, c3, A4, n4, c4, rfl, R3, R4, hn4', hB2⟩
    have hB02 : Below w.heap.size w w2 := hB01.trans (hB2.mono hB01.size)
    go_wp2_with fail
    refine (clock_ok _ _ _ _ _ _ (h.below hB02) HG.out).mono ?_; rintro e w3 ⟨A5, c5, A6, n6, c6, rfl, R5, R6, hn6, hB3⟩
    have hB03 : Below w.heap.size w w3 := hB02.trans (hB3.mono hB02.size)
    go_wp2_with fail
    refine (flush_ok _ _ _ _ _ _ (h.below hB03) HG.out).mono ?_; rintro e w4 ⟨A7, c7, A8, n8, c8, rfl, R7, R8, hn8, hB4⟩
    have hB04 : Below w.heap.size w w4 := hB03.trans (hB4.mono hB03.size)
    go_wp2_with fail
    refine (opt_ok _ _ _ _ _ _ (h.below hB04) hnc HG.out).mono ?_; rintro e w5 ⟨A9, c9, A10, n10, c10, A11, n11, c11, rfl, R9, R10, R11, hn10, hn11, hB5⟩
    have hB05 : Below w.heap.size w w5 := hB04.trans (hB5.mono hB04.size)
    rw [show Int.toNat 1 = 1 from rfl] at R1 R3 R5 R7 R9
    rw [H1.out] at R1
    rw [H0.out] at R3
    rw [H2.out] at R5
    rw [H3.out] at R7
    have RA := Lib.hid (Row.readsB ((((R1.below hB2).below hB3).below hB4).below hB5))
    have RB := Lib.hid (Row.readsB (((R3.below hB3).below hB4).below hB5))
    have RC := Lib.hid (Row.readsB ((R5.below hB4).below hB5))
    have RD := Lib.hid (Row.readsB (R7.below hB5))
    have RE := Lib.hid (Row.readsB R9)
    clear R1 R2 R3 R4 R5 R6 R7 R8 R9 R10 R11 H0 H1 H2 H3
    generalize (optF 1 [] l).1 = b at *
    go_wp2_with fail
    refine (bools_any _ _ _ _ _ _ _ _ _ RA.out RB.out (by omega) (by omega)).mono ?_; rintro e w' ⟨rfl, d1, rfl⟩
    rw [HE.out]
    go_wp2_with fail
    refine (bools_any _ _ _ _ _ _ _ _ _ (RB.out.drewN _) (RC.out.drewN _) (by omega) (by omega)).mono ?_; rintro e w' ⟨rfl, d2, rfl⟩
    rw [HE.out]
    go_wp2_with fail
    refine (bools_any _ _ _ _ _ _ _ _ _ (RC.out.drewN _) (RD.out.drewN _) (by omega) (by omega)).mono ?_; rintro e w' ⟨rfl, d3, rfl⟩
    rw [HE.out]
    go_wp2_with fail
    refine (bools_any _ _ _ _ _ _ _ _ _ (RD.out.drewN _) (RE.out.drewN _) (by omega) (by omega)).mono ?_; rintro e w' ⟨rfl, d4, rfl⟩
    rw [HE.out]
    go_wp2
    go_ret
    exact ⟨rfl, by simpa using belowN (belowN (belowN (belowN hB05 d1) d2) d3) d4⟩
  · have HG := Lib.hid hg
    clear hg
    go_enter Try.func4, Try.ntmps4
    go_wp2_with fail
    refine (anomaly_ok _).mono ?_; rintro e w0 ⟨rfl, hB0⟩
    go_wp2_with fail
    refine (fifo_no _ _ _ _ _ _ (h.below hB0) hn HG.out).mono ?_; rintro e w' ⟨rfl, rfl⟩
    go_wp2_with fail
    refine (lru_no _ _ _ _ _ _ (h.below hB0) hn HG.out).mono ?_; rintro e w' ⟨rfl, rfl⟩
    go_wp2_with fail
    refine (clock_no _ _ _ _ _ _ (h.below hB0) hn HG.out).mono ?_; rintro e w' ⟨rfl, rfl⟩
    go_wp2_with fail
    refine (flush_no _ _ _ _ _ _ (h.below hB0) hn HG.out).mono ?_; rintro e w' ⟨rfl, rfl⟩
    go_wp2_with fail
    refine (opt_no _ _ _ _ _ _ (h.below hB0) hn HG.out).mono ?_; rintro e w1 ⟨rfl, hB1⟩
    go_wp2
    go_ret
    exact ⟨rfl, hB0.trans (hB1.mono hB0.size)⟩
end Go.Proofs.Ythppmdoomcpbkaa
