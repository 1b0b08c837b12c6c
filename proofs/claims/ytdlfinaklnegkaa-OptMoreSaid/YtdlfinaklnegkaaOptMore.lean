/- The walk of the law OptMore: it returns true, for every input. -/
import Derived.Test.YtdlfinaklnegkaaOptFact
namespace Go.Proofs.Ytdlfinaklnegkaa
open Go.ChangeShapes Go.WideShapes Go.ChangeAt Go.RowKit

set_option maxHeartbeats 1000000 in
theorem law_OptMore (A : Option Addr) (n c : Nat) (l : List Int) (slots : Int) (w : World) (h : RI w A n l) (hnc : n ≤ c) (hn : n ≤ 9223372036854775807) :
    Calls Try.prog 4 #[.slice A n c, .int .i64 slots] w fun e w' => e = .returned (.bool true) ∧ Below w.heap.size w w' := by
  by_cases hg : GoodReqs l slots
  · obtain ⟨s, rfl⟩ : ∃ s : Nat, slots = s := ⟨slots.toNat, by have := hg.2.2.1; omega⟩
    have HL := Lib.hid h.len
    have HG := Lib.hid hg
    have hn4 : n ≤ 40 := by have := HL.out; have := hg.1; omega
    have hs1 : 1 ≤ s := by have := hg.2.2.1; omega
    have hs2 : s ≤ 8 := by have := hg.2.2.2; omega
    clear hn
    by_cases h8 : s = 8
    · have HN := Lib.hid (show ¬ GoodReqs l ((s : Int) + 1) from fun hh => by have := hh.2.2.2; omega)
      clear hg h8
      go_enter Try.func4, Try.ntmps4
      go_wp2_with fail
      refine (optFact_ok _).mono ?_; rintro e w0 ⟨rfl, hB0⟩
      go_wp2_with fail
      refine (opt_ok _ _ _ _ _ _ (h.below hB0) hnc HG.out).mono ?_; rintro e w1 ⟨A1, c1, A2, n2, c2, A3, n3, c3, rfl, R1, R2, R3, hn2, hn3, hB1⟩
      have hB01 : Below w.heap.size w w1 := hB0.trans (hB1.mono hB0.size)
      go_wp2_with fail
      refine (opt_no _ _ _ _ _ _ ((h.below hB0).below hB1) (by omega) HN.out).mono ?_; rintro e w2 ⟨rfl, hB2⟩
      go_wp2
      go_ret
      exact ⟨rfl, hB01.trans (hB2.mono hB01.size)⟩
    · have HG2 := Lib.hid (show GoodReqs l ((s : Int) + 1) from ⟨hg.1, hg.2.1, by omega, by omega⟩)
      have q1 : missN (optF (s + 1) [] l).1 ≤ missN (optF s [] l).1 := optN_more hs1 l
      have q2 : someN l ≤ missN (optF (s + 1) [] l).1 := optN_some (by omega) l
      have q3 : missN (optF s [] l).1 ≤ n := by have := missN_le (optF s [] l).1; rw [optF_len] at this; have := HL.out; omega
      clear hg h8
      go_enter Try.func4, Try.ntmps4
      go_wp2_with fail
      refine (optFact_ok _).mono ?_; rintro e w0 ⟨rfl, hB0⟩
      go_wp2_with fail
      refine (opt_ok _ _ _ _ _ _ (h.below hB0) hnc HG.out).mono ?_; rintro e w1 ⟨A1, c1, A2, n2, c2, A3, n3, c3, rfl, R1, R2, R3, hn2, hn3, hB1⟩
      have hB01 : Below w.heap.size w w1 := hB0.trans (hB1.mono hB0.size)
      go_wp2_with fail
      refine (opt_ok _ _ _ _ _ _ ((h.below hB0).below hB1) hnc HG2.out).mono ?_; rintro e w2 ⟨A4, c4, A5, n5, c5, A6, n6, c6, rfl, R4, R5, R6, hn5, hn6, hB2⟩
      have hB02 : Below w.heap.size w w2 := hB01.trans (hB2.mono hB01.size)
      rw [Int.toNat_natCast] at R1
      rw [show ((s : Int) + 1).toNat = s + 1 by omega] at R4
      have RA := Lib.hid (Row.readsB (R1.below hB2))
      have RB := Lib.hid (Row.readsB R4)
      have h2 := h.below hB02
      clear R1 R2 R3 R4 R5 R6
      go_wp2_with fail
      refine (misses_any _ _ _ _ _ RB.out (by omega)).mono ?_; rintro e w' ⟨rfl, rfl⟩
      go_wp2_with fail
      refine (misses_any _ _ _ _ _ RA.out (by omega)).mono ?_; rintro e w' ⟨rfl, rfl⟩
      generalize missN (optF s [] l).1 = a at *
      generalize hb : missN (optF (s + 1) [] l).1 = b at *
      have HB := Lib.hid hb
      clear hb
      go_wp2_with fail
      refine (misses_any _ _ _ _ _ RB.out (by omega)).mono ?_; rintro e w' ⟨rfl, rfl⟩
      rw [HB.out]
      go_wp2_with fail
      refine (some_any _ _ _ _ _ h2 (by omega)).mono ?_; rintro e w' ⟨rfl, d, rfl⟩
      generalize someN l = m at *
      go_wp2
      go_ret
      exact ⟨rfl, belowN hB02 _⟩
  · have HG := Lib.hid hg
    clear hg
    go_enter Try.func4, Try.ntmps4
    go_wp2_with fail
    refine (optFact_ok _).mono ?_; rintro e w0 ⟨rfl, hB0⟩
    go_wp2_with fail
    refine (opt_no _ _ _ _ _ _ (h.below hB0) hn HG.out).mono ?_; rintro e w1 ⟨rfl, hB1⟩
    have hB01 : Below w.heap.size w w1 := hB0.trans (hB1.mono hB0.size)
    go_wp2_with fail
    refine (opt_any _ _ _ _ _ _ ((h.below hB0).below hB1) hnc hn).mono ?_; rintro e w2 ⟨⟨x, y, z, q, rfl⟩, hB2⟩
    go_wp2
    go_ret
    exact ⟨rfl, hB01.trans (hB2.mono hB01.size)⟩

end Go.Proofs.Ytdlfinaklnegkaa
