/- The walk of the law TopPhases: it returns true, for every input. -/
import Derived.Test.YthppmdoomcpbkaaOpt
import Derived.Test.YthppmdoomcpbkaaWays
import Derived.Test.YthppmdoomcpbkaaPhase
import Derived.Test.YthppmdoomcpbkaaClock
import Derived.Test.YthppmdoomcpbkaaFifo
import Derived.Test.YthppmdoomcpbkaaLru
import Derived.Test.YthppmdoomcpbkaaSame
import Derived.IntWalk
namespace Go.Proofs.Ythppmdoomcpbkaa
open Go.ChangeShapes Go.WideShapes Go.ChangeAt Go.RowKit

set_option maxRecDepth 100000 in
set_option maxHeartbeats 4000000 in
theorem law_TopPhases (A : Option Addr) (n c : Nat) (l : List Int) (slots : Int) (w : World) (h : RI w A n l) (hnc : n ≤ c) (hn : n ≤ 9223372036854775807) :
    Calls Try.prog 6 #[.slice A n c, .int .i64 slots] w fun e w' => e = .returned (.bool true) ∧ Below w.heap.size w w' := by
  have h0 := RI.lit w #[.int .i64 1, .int .i64 2, .int .i64 3] 3 [1, 2, 3] 3 rfl rfl
  have hB0 := (Below.refl w.heap.size w).alloc (Nat.le_refl _) (.cells #[.int .i64 1, .int .i64 2, .int .i64 3] 3)
  have e2 : startsL (Int.toNat 2) [1, 2, 3] (List.length [(1 : Int), 2, 3]) = [0, 2] := by decide
  have E2 := Lib.hid e2
  clear e2
  have M2 : Hid (eqI [0, 2] [0, 2] = true) := by simp [Hid, eqI]
  by_cases hg : GoodReqs l slots
  · obtain ⟨s, rfl⟩ : ∃ s : Nat, slots = s := ⟨slots.toNat, by have := hg.2.2.1; omega⟩
    have HL := Lib.hid h.len
    have HG := Lib.hid hg
    have hn4 : n ≤ 40 := by have := HL.out; have := hg.1; omega
    have hs1 : 1 ≤ s := by have := hg.2.2.1; omega
    have hs2 : s ≤ 8 := by have := hg.2.2.2; omega
    have p1 := way_le_phases 0 s hs1 l
    have p2 := way_le_phases 1 s hs1 l
    have p3 := way_le_phases 2 s hs1 l
    have p4 : (startsL s l l.length).length ≤ missN (optF s [] l).1 := phases_le_opt s hs1 l
    have p5 := starts_le s l l.length
    have Q := Lib.hid (show missN (lruRun s l).1 ≤ (startsL s l l.length).length * s ∧ missN (fifoRun s l).1 ≤ (startsL s l l.length).length * s ∧ missN (clockRun s l).hits ≤ (startsL s l l.length).length * s ∧ (startsL s l l.length).length ≤ missN (optF s [] l).1 ∧ (startsL s l l.length).length ≤ 40 from
      ⟨p1, p2, p3, p4, by have := HL.out; omega⟩)
    clear hg hn p1 p2 p3 p4 p5
    go_enter Try.func6, Try.ntmps6
    go_wp2_with fail
    refine (starts_ok _ _ _ _ _ _ h0 (by simp [GoodReqs, AllIn])).mono ?_; rintro e w1 ⟨A1, n1, c1, rfl, R1, hn1, hB1⟩
    rw [E2.out] at R1
    have hB01 := hB0.trans (hB1.mono hB0.size)
    have hz1 := hB01.size
    go_wp2_with fail
    have h2 := RI.lit w1 #[.int .i64 0, .int .i64 2] 3 [0, 2] 2 rfl rfl
    have hB2 := hB01.alloc hz1 (.cells #[.int .i64 0, .int .i64 2] 3)
    refine (ints_any _ _ _ _ _ _ _ _ _ ((Row.reads R1).below ((Below.refl w1.heap.size w1).alloc (Nat.le_refl _) _)) h2 (by omega) (by omega)).mono ?_; rintro e w' ⟨rfl, d, rfl⟩
    rw [M2.out]
    have hB3 := belowN hB2 d
    clear R1 h2
    generalize (w1.alloc (.cells #[.int .i64 0, .int .i64 2] 3)).drewN d = w2 at *
    go_wp2_with fail
    refine (starts_ok _ _ _ _ _ _ (h.below hB3) HG.out).mono ?_; rintro e w3 ⟨A3, n3, c3, rfl, R3, hn3, hB4⟩
    have hB03 := hB3.trans (hB4.mono hB3.size)
    rw [Int.toNat_natCast] at R3
    have hl3 : (startsL s l l.length).length = n3 := by have := R3.len; simpa using this
    rw [hl3] at Q
    clear R3 hl3
    go_wp2_with fail
    refine (lru_ok _ _ _ _ _ _ (h.below hB03) HG.out).mono ?_; rintro e w4 ⟨A5, c5, A6, n6, c6, rfl, R5, R6, hn6, hB5⟩
    have hB04 : Below w.heap.size w w4 := hB03.trans (hB5.mono hB03.size)
    go_wp2_with fail
    refine (fifo_ok _ _ _ _ _ _ (h.below hB04) HG.out).mono ?_; rintro e w5 ⟨A7, c7, A8, n8, c8, rfl, R7, R8, hn8, hB6⟩
    have hB05 : Below w.heap.size w w5 := hB04.trans (hB6.mono hB04.size)
    go_wp2_with fail
    refine (clock_ok _ _ _ _ _ _ (h.below hB05) HG.out).mono ?_; rintro e w6 ⟨A9, c9, A10, n10, c10, rfl, R9, R10, hn10, hB7⟩
    have hB06 : Below w.heap.size w w6 := hB05.trans (hB7.mono hB05.size)
    go_wp2_with fail
    refine (opt_ok _ _ _ _ _ _ (h.below hB06) hnc HG.out).mono ?_; rintro e w7 ⟨A11, c11, A12, n12, c12, A13, n13, c13, rfl, R11, R12, R13, hn12, hn13, hB8⟩
    have hB07 : Below w.heap.size w w7 := hB06.trans (hB8.mono hB06.size)
    rw [Int.toNat_natCast] at R5 R7 R9 R11
    have RA := Lib.hid (Row.readsB (((R5.below hB6).below hB7).below hB8))
    have RB := Lib.hid (Row.readsB ((R7.below hB7).below hB8))
    have RC := Lib.hid (Row.readsB (R9.below hB8))
    have RD := Lib.hid (Row.readsB R11)
    clear R5 R6 R7 R8 R9 R10 R11 R12 R13
    obtain ⟨q1, q2, q3, q4, q5⟩ := Q.out
    have b1 : n3 * s ≤ 40 * 8 := Nat.mul_le_mul q5 hs2
    have em : ((n3 : Int) * s) = ((n3 * s : Nat) : Int) := by norm_cast
    have e1 : wrap64 ((n3 : Int) * s) = ((n3 * s : Nat) : Int) := by rw [em]; exact IntWalk.wrap64_in _ (by omega)
    clear Q
    generalize hP : n3 * s = P at *
    clear hP em
    go_wp2_with fail
    refine (misses_any _ _ _ _ _ RA.out (by omega)).mono ?_; rintro e w' ⟨rfl, rfl⟩
    generalize missN (lruRun s l).1 = b1 at *
    go_wp2_with fail
    refine (misses_any _ _ _ _ _ RB.out (by omega)).mono ?_; rintro e w' ⟨rfl, rfl⟩
    generalize missN (fifoRun s l).1 = b2 at *
    go_wp2_with fail
    refine (misses_any _ _ _ _ _ RC.out (by omega)).mono ?_; rintro e w' ⟨rfl, rfl⟩
    generalize missN (clockRun s l).hits = b3 at *
    go_wp2_with fail
    refine (misses_any _ _ _ _ _ RD.out (by omega)).mono ?_; rintro e w' ⟨rfl, rfl⟩
    generalize missN (optF s [] l).1 = b4 at *
    go_wp2
    go_ret
    exact ⟨rfl, hB07⟩
  · have HG := Lib.hid hg
    clear hg
    go_enter Try.func6, Try.ntmps6
    go_wp2_with fail
    refine (starts_ok _ _ _ _ _ _ h0 (by simp [GoodReqs, AllIn])).mono ?_; rintro e w1 ⟨A1, n1, c1, rfl, R1, hn1, hB1⟩
    rw [E2.out] at R1
    have hB01 := hB0.trans (hB1.mono hB0.size)
    have hz1 := hB01.size
    go_wp2_with fail
    have h2 := RI.lit w1 #[.int .i64 0, .int .i64 2] 3 [0, 2] 2 rfl rfl
    have hB2 := hB01.alloc hz1 (.cells #[.int .i64 0, .int .i64 2] 3)
    refine (ints_any _ _ _ _ _ _ _ _ _ ((Row.reads R1).below ((Below.refl w1.heap.size w1).alloc (Nat.le_refl _) _)) h2 (by omega) (by omega)).mono ?_; rintro e w' ⟨rfl, d, rfl⟩
    rw [M2.out]
    have hB3 := belowN hB2 d
    clear R1 h2
    generalize (w1.alloc (.cells #[.int .i64 0, .int .i64 2] 3)).drewN d = w2 at *
    go_wp2_with fail
    refine (starts_no _ _ _ _ _ _ (h.below hB3) hn HG.out).mono ?_; rintro e w' ⟨rfl, rfl⟩
    go_wp2_with fail
    refine (lru_no _ _ _ _ _ _ (h.below hB3) hn HG.out).mono ?_; rintro e w' ⟨rfl, rfl⟩
    go_wp2_with fail
    refine (fifo_no _ _ _ _ _ _ (h.below hB3) hn HG.out).mono ?_; rintro e w' ⟨rfl, rfl⟩
    go_wp2_with fail
    refine (clock_no _ _ _ _ _ _ (h.below hB3) hn HG.out).mono ?_; rintro e w' ⟨rfl, rfl⟩
    go_wp2_with fail
    refine (opt_no _ _ _ _ _ _ (h.below hB3) hn HG.out).mono ?_; rintro e w3 ⟨rfl, hB4⟩
    go_wp2
    go_ret
    exact ⟨rfl, hB3.trans (hB4.mono hB3.size)⟩
end Go.Proofs.Ythppmdoomcpbkaa
