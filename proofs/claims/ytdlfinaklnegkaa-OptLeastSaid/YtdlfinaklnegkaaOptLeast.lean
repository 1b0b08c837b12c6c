/- The walk of the law OptLeast: it returns true, for every input. -/
import Derived.Test.YtdlfinaklnegkaaOptFact
import Derived.Test.YtdlfinaklnegkaaPlay
import Derived.Test.YtdlfinaklnegkaaWays
import Derived.Test.YtdlfinaklnegkaaClock
import Derived.Test.YtdlfinaklnegkaaFifo
import Derived.Test.YtdlfinaklnegkaaLru
import Derived.Test.YtdlfinaklnegkaaFlush
namespace Go.Proofs.Ytdlfinaklnegkaa
open Go.ChangeShapes Go.WideShapes Go.ChangeAt Go.RowKit

set_option maxRecDepth 100000 in
set_option maxHeartbeats 4000000 in
theorem law_OptLeast (A A' : Option Addr) (n c n' c' : Nat) (l out : List Int) (slots : Int) (w : World) (h : RI w A n l) (hnc : n ≤ c) (hn : n ≤ 9223372036854775807) (h' : RI w A' n' out) (hn' : n' ≤ 9223372036854775807) :
    Calls Try.prog 8 #[.slice A n c, .int .i64 slots, .slice A' n' c'] w fun e w' => e = .returned (.bool true) ∧ Below w.heap.size w w' := by
  by_cases hg : GoodReqs l slots
  · obtain ⟨s, rfl⟩ : ∃ s : Nat, slots = s := ⟨slots.toNat, by have := hg.2.2.1; omega⟩
    have HL := Lib.hid h.len
    have HG := Lib.hid hg
    have hn4 : n ≤ 40 := by have := HL.out; have := hg.1; omega
    have hs1 : 1 ≤ s := by have := hg.2.2.1; omega
    have hs2 : s ≤ 8 := by have := hg.2.2.2; omega
    clear hn hg
    have HR : Hid ((playA s [] out l 0).2.2 = 0 → (missN (optF s [] l).1 ≤ (playA s [] out l 0).1 ∧ (playA s [] out l 0).1 ≤ n)) := Lib.hid (fun e => by
      obtain ⟨m, h1, h2, h3, h4, h5⟩ := playA_sched hs1 l [] out 0 (by simp) (by simp) e
      have h6 := optN_best hs1 (Nat.le_refl s) h2
      have h7 : missN (optF s [] l).1 ≤ m := h6
      have := HL.out
      exact ⟨by omega, by omega⟩)
    have Q := Lib.hid (show missN (optF s [] l).1 ≤ missN (lruRun s l).1 ∧ missN (optF s [] l).1 ≤ missN (fifoRun s l).1 ∧ missN (optF s [] l).1 ≤ missN (clockRun s l).hits ∧ missN (optF s [] l).1 ≤ missN (flushRun s l).1 from
      ⟨opt_le 0 s hs1 l, opt_le 1 s hs1 l, opt_le 2 s hs1 l, opt_le 3 s hs1 l⟩)
    generalize hr : playA s [] out l 0 = r at HR
    obtain ⟨m, hd, er⟩ := r
    go_enter Try.func8, Try.ntmps8
    go_wp2_with fail
    refine (optFact_ok _).mono ?_; rintro e w0 ⟨rfl, hB0⟩
    go_wp2_with fail
    refine (opt_ok _ _ _ _ _ _ (h.below hB0) hnc HG.out).mono ?_; rintro e w1 ⟨A1, c1, A2, n2, c2, A3, n3, c3, rfl, R1, R2, R3, hn2, hn3, hB1⟩
    have hB01 : Below w.heap.size w w1 := hB0.trans (hB1.mono hB0.size)
    rw [Int.toNat_natCast] at R1
    clear R2 R3
    go_wp2_with fail
    refine (misses_any _ _ _ _ _ (Row.readsB R1) (by omega)).mono ?_; rintro e w' ⟨rfl, rfl⟩
    clear R1
    go_wp2_with fail
    refine (play_ok _ _ _ _ _ _ _ _ _ _ (h.below hB01) (h'.below hB01) hn' HG.out).mono ?_; rintro e w2 ⟨hh, hB2⟩
    rw [Int.toNat_natCast, hr] at hh
    clear hr
    have hB02 : Below w.heap.size w w2 := hB01.trans (hB2.mono hB01.size)
    rcases hh with ⟨A4, n4, c4, he, rfl, R4, hn4'⟩ | ⟨hne, rfl⟩
    · obtain ⟨z1, z2⟩ := HR.out he
      have z1' : missN (optF s [] l).1 ≤ m := z1
      have z2' : m ≤ n := z2
      clear z1 z2 he R4
      go_wp2_with fail
      refine (lru_ok _ _ _ _ _ _ (h.below hB02) HG.out).mono ?_; rintro e w3 ⟨A5, c5, A6, n6, c6, rfl, R5, R6, hn6, hB3⟩
      have hB03 : Below w.heap.size w w3 := hB02.trans (hB3.mono hB02.size)
      go_wp2_with fail
      refine (fifo_ok _ _ _ _ _ _ (h.below hB03) HG.out).mono ?_; rintro e w4 ⟨A7, c7, A8, n8, c8, rfl, R7, R8, hn8, hB4⟩
      have hB04 : Below w.heap.size w w4 := hB03.trans (hB4.mono hB03.size)
      go_wp2_with fail
      refine (clock_ok _ _ _ _ _ _ (h.below hB04) HG.out).mono ?_; rintro e w5 ⟨A9, c9, A10, n10, c10, rfl, R9, R10, hn10, hB5⟩
      have hB05 : Below w.heap.size w w5 := hB04.trans (hB5.mono hB04.size)
      go_wp2_with fail
      refine (flush_ok _ _ _ _ _ _ (h.below hB05) HG.out).mono ?_; rintro e w6 ⟨A11, c11, A12, n12, c12, rfl, R11, R12, hn12, hB6⟩
      have hB06 : Below w.heap.size w w6 := hB05.trans (hB6.mono hB05.size)
      rw [Int.toNat_natCast] at R5 R7 R9 R11
      have RA := Lib.hid (Row.readsB (((R5.below hB4).below hB5).below hB6))
      have RB := Lib.hid (Row.readsB ((R7.below hB5).below hB6))
      have RC := Lib.hid (Row.readsB (R9.below hB6))
      have RD := Lib.hid (Row.readsB R11)
      clear R5 R6 R7 R8 R9 R10 R11 R12
      obtain ⟨q1, q2, q3, q4⟩ := Q.out
      clear Q HR
      generalize missN (optF s [] l).1 = b at *
      go_wp2_with fail
      refine (misses_any _ _ _ _ _ RA.out (by omega)).mono ?_; rintro e w' ⟨rfl, rfl⟩
      generalize missN (lruRun s l).1 = b1 at *
      go_wp2_with fail
      refine (misses_any _ _ _ _ _ RB.out (by omega)).mono ?_; rintro e w' ⟨rfl, rfl⟩
      generalize missN (fifoRun s l).1 = b2 at *
      go_wp2_with fail
      refine (misses_any _ _ _ _ _ RC.out (by omega)).mono ?_; rintro e w' ⟨rfl, rfl⟩
      generalize missN (clockRun s l).hits = b3 at *
      go_wp2_with fail
      refine (misses_any _ _ _ _ _ RD.out (by omega)).mono ?_; rintro e w' ⟨rfl, rfl⟩
      generalize missN (flushRun s l).1 = b4 at *
      go_wp2
      go_ret
      exact ⟨rfl, hB06⟩
    · clear hne HR
      go_wp2_with fail
      refine (lru_ok _ _ _ _ _ _ (h.below hB02) HG.out).mono ?_; rintro e w3 ⟨A5, c5, A6, n6, c6, rfl, R5, R6, hn6, hB3⟩
      have hB03 : Below w.heap.size w w3 := hB02.trans (hB3.mono hB02.size)
      go_wp2_with fail
      refine (fifo_ok _ _ _ _ _ _ (h.below hB03) HG.out).mono ?_; rintro e w4 ⟨A7, c7, A8, n8, c8, rfl, R7, R8, hn8, hB4⟩
      have hB04 : Below w.heap.size w w4 := hB03.trans (hB4.mono hB03.size)
      go_wp2_with fail
      refine (clock_ok _ _ _ _ _ _ (h.below hB04) HG.out).mono ?_; rintro e w5 ⟨A9, c9, A10, n10, c10, rfl, R9, R10, hn10, hB5⟩
      have hB05 : Below w.heap.size w w5 := hB04.trans (hB5.mono hB04.size)
      go_wp2_with fail
      refine (flush_ok _ _ _ _ _ _ (h.below hB05) HG.out).mono ?_; rintro e w6 ⟨A11, c11, A12, n12, c12, rfl, R11, R12, hn12, hB6⟩
      have hB06 : Below w.heap.size w w6 := hB05.trans (hB6.mono hB05.size)
      rw [Int.toNat_natCast] at R5 R7 R9 R11
      have RA := Lib.hid (Row.readsB (((R5.below hB4).below hB5).below hB6))
      have RB := Lib.hid (Row.readsB ((R7.below hB5).below hB6))
      have RC := Lib.hid (Row.readsB (R9.below hB6))
      have RD := Lib.hid (Row.readsB R11)
      clear R5 R6 R7 R8 R9 R10 R11 R12
      obtain ⟨q1, q2, q3, q4⟩ := Q.out
      clear Q
      generalize missN (optF s [] l).1 = b at *
      go_wp2_with fail
      refine (misses_any _ _ _ _ _ RA.out (by omega)).mono ?_; rintro e w' ⟨rfl, rfl⟩
      generalize missN (lruRun s l).1 = b1 at *
      go_wp2_with fail
      refine (misses_any _ _ _ _ _ RB.out (by omega)).mono ?_; rintro e w' ⟨rfl, rfl⟩
      generalize missN (fifoRun s l).1 = b2 at *
      go_wp2_with fail
      refine (misses_any _ _ _ _ _ RC.out (by omega)).mono ?_; rintro e w' ⟨rfl, rfl⟩
      generalize missN (clockRun s l).hits = b3 at *
      go_wp2_with fail
      refine (misses_any _ _ _ _ _ RD.out (by omega)).mono ?_; rintro e w' ⟨rfl, rfl⟩
      generalize missN (flushRun s l).1 = b4 at *
      go_wp2
      go_ret
      exact ⟨rfl, hB06⟩
  · have HG := Lib.hid hg
    clear hg
    go_enter Try.func8, Try.ntmps8
    go_wp2_with fail
    refine (optFact_ok _).mono ?_; rintro e w0 ⟨rfl, hB0⟩
    go_wp2_with fail
    refine (opt_no _ _ _ _ _ _ (h.below hB0) hn HG.out).mono ?_; rintro e w1 ⟨rfl, hB1⟩
    go_wp2
    go_ret
    exact ⟨rfl, hB0.trans (hB1.mono hB0.size)⟩
end Go.Proofs.Ytdlfinaklnegkaa
