/- The walk of the law OptBegin: it returns true, for every input. -/
import Derived.Test.YtdlfinaklnegkaaOptFact
namespace Go.Proofs.Ytdlfinaklnegkaa
open Go.ChangeShapes Go.WideShapes Go.ChangeAt Go.RowKit

theorem inO_ok (n lo hi : Int) (w : World) (h1 : lo ≤ n) (h2 : n ≤ hi) :
    Calls Try.prog 16 #[.int .i64 n, .int .i64 lo, .int .i64 hi] w fun e w' => e = .returned (.bool true) ∧ w = w' := by
  go_enter Try.func16, Try.ntmps16
  go_wp2
  go_ret
  exact ⟨rfl, rfl⟩
theorem inO_no (n lo hi : Int) (w : World) (h : n < lo ∨ hi < n) :
    Calls Try.prog 16 #[.int .i64 n, .int .i64 lo, .int .i64 hi] w fun e w' => e = .returned (.bool false) ∧ w = w' := by
  by_cases h1 : lo ≤ n
  · have h2 : ¬ n ≤ hi := by omega
    clear h
    go_enter Try.func16, Try.ntmps16
    go_wp2
    go_ret
    exact ⟨rfl, rfl⟩
  · clear h
    go_enter Try.func16, Try.ntmps16
    go_wp2
    go_ret
    exact ⟨rfl, rfl⟩

theorem begin_facts (s : Nat) (hs1 : 1 ≤ s) (l : List Int) (f : Nat) (hl : l.length ≤ 40) : missN (optF s [] (l.take f)).1 ≤ missN (optF s [] l).1 ∧ missN (optF s [] l).1 ≤ missN (optF s [] (l.take f)).1 + missN (optF s [] (l.drop f)).1 ∧ missN (optF s [] (l.take f)).1 ≤ 40 ∧ missN (optF s [] (l.drop f)).1 ≤ 40 ∧ missN (optF s [] l).1 ≤ 40 := by
  refine ⟨?_, ?_, ?_, ?_, ?_⟩
  · have := optN_begin hs1 (l.take f) (l.drop f)
    rwa [List.take_append_drop] at this
  · have := optN_append hs1 (l.take f) (l.drop f)
    rwa [List.take_append_drop] at this
  · have := missN_le (optF s [] (l.take f)).1; rw [optF_len, List.length_take] at this; omega
  · have := missN_le (optF s [] (l.drop f)).1; rw [optF_len, List.length_drop] at this; omega
  · have := missN_le (optF s [] l).1; rw [optF_len] at this; omega

set_option maxHeartbeats 2000000 in
theorem begin_part (A : Option Addr) (f g c : Nat) (l : List Int) (slots : Int) (w : World) (h : RI w A (f + g) l) (hnc : f + g ≤ c) (hn : f + g ≤ 9223372036854775807) (hcf : ¬ c = f) :
    Calls Try.prog 6 #[.slice A (f + g) c, .int .i64 slots, .int .i64 (f : Int)] w fun e w' => e = .returned (.bool true) ∧ Below w.heap.size w w' := by
  have hc1 : (f : Int) ≤ ((f + g : Nat) : Int) := by omega
  have hc2 : (f : Int) ≤ (f : Int) + g := by omega
  have hc3 : f ≤ c := by omega
  have hf0 : (0 : Int) ≤ f := by omega
  have hD := RI.cut h (k := f) (cap := c) (by omega) hnc
  rw [Nat.add_sub_cancel_left, if_neg hcf] at hD
  have HL := Lib.hid h.len
  by_cases hg : GoodReqs l slots
  · obtain ⟨s, rfl⟩ : ∃ s : Nat, slots = s := ⟨slots.toNat, by have := hg.2.2.1; omega⟩
    have HG := Lib.hid hg
    have hn4 : f + g ≤ 40 := by have := HL.out; have := hg.1; omega
    have hs1 : 1 ≤ s := by have := hg.2.2.1; omega
    have hs2 : s ≤ 8 := by have := hg.2.2.2; omega
    have Q := Lib.hid (begin_facts s hs1 l f (by have := HL.out; omega))
    have HT := Lib.hid (good_takeO hg f)
    have HD := Lib.hid (good_dropO hg f)
    clear hg hn
    go_enter Try.func6, Try.ntmps6
    go_wp2_with fail
    refine (optFact_ok _).mono ?_; rintro e w0 ⟨rfl, hB0⟩
    go_wp2_with fail
    refine (inO_ok _ _ _ _ hf0 (by omega)).mono ?_; rintro e w' ⟨rfl, rfl⟩
    go_wp2_with fail
    refine (opt_ok _ _ _ _ _ _ ((h.below hB0).take (by omega)) hc3 HT.out).mono ?_; rintro e w1 ⟨A1, c1, A2, n2, c2, A3, n3, c3, rfl, R1, R2, R3, hn2, hn3, hB1⟩
    have hB01 : Below w.heap.size w w1 := hB0.trans (hB1.mono hB0.size)
    go_wp2_with fail
    refine (opt_ok _ _ _ _ _ _ (hD.below hB01) (by omega) HD.out).mono ?_; rintro e w2 ⟨A4, c4, A5, n5, c5, A6, n6, c6, rfl, R4, R5, R6, hn5, hn6, hB2⟩
    have hB02 : Below w.heap.size w w2 := hB01.trans (hB2.mono hB01.size)
    go_wp2_with fail
    refine (opt_ok _ _ _ _ _ _ (h.below hB02) hnc HG.out).mono ?_; rintro e w3 ⟨A7, c7, A8, n8, c8, A9, n9, c9, rfl, R7, R8, R9, hn8, hn9, hB3⟩
    have hB03 : Below w.heap.size w w3 := hB02.trans (hB3.mono hB02.size)
    rw [Int.toNat_natCast] at R1 R4 R7
    have RA := Lib.hid (Row.readsB ((R1.below hB2).below hB3))
    have RB := Lib.hid (Row.readsB (R4.below hB3))
    have RC := Lib.hid (Row.readsB R7)
    clear R1 R2 R3 R4 R5 R6 R7 R8 R9
    obtain ⟨q1, q2, q3, q4, q5⟩ := Q.out
    clear Q
    go_wp2_with fail
    refine (misses_any _ _ _ _ _ RA.out (by omega)).mono ?_; rintro e w' ⟨rfl, rfl⟩
    generalize ha : missN (optF s [] (l.take f)).1 = a at *
    have HA := Lib.hid ha
    clear ha
    go_wp2_with fail
    refine (misses_any _ _ _ _ _ RC.out (by omega)).mono ?_; rintro e w' ⟨rfl, rfl⟩
    generalize hz : missN (optF s [] l).1 = z at *
    have HZ := Lib.hid hz
    clear hz
    go_wp2_with fail
    refine (misses_any _ _ _ _ _ RC.out (by omega)).mono ?_; rintro e w' ⟨rfl, rfl⟩
    rw [HZ.out]
    go_wp2_with fail
    refine (misses_any _ _ _ _ _ RA.out (by omega)).mono ?_; rintro e w' ⟨rfl, rfl⟩
    rw [HA.out]
    go_wp2_with fail
    refine (misses_any _ _ _ _ _ RB.out (by omega)).mono ?_; rintro e w' ⟨rfl, rfl⟩
    generalize missN (optF s [] (l.drop f)).1 = b at *
    have q6 : (z : Int) ≤ (a : Int) + b := by omega
    go_wp2
    go_ret
    exact ⟨rfl, hB03⟩
  · have HG := Lib.hid hg
    clear hg
    go_enter Try.func6, Try.ntmps6
    go_wp2_with fail
    refine (optFact_ok _).mono ?_; rintro e w0 ⟨rfl, hB0⟩
    go_wp2_with fail
    refine (inO_ok _ _ _ _ hf0 (by omega)).mono ?_; rintro e w' ⟨rfl, rfl⟩
    go_wp2_with fail
    refine (opt_any2 _ _ _ _ _ _ ((h.below hB0).take (by omega)) hc3 (by omega)).mono ?_; rintro e w1 ⟨⟨x1, x2, x3, q, rfl, hq⟩, hB1⟩
    have hB01 : Below w.heap.size w w1 := hB0.trans (hB1.mono hB0.size)
    go_wp2_with fail
    refine (opt_any2 _ _ _ _ _ _ (hD.below hB01) (by omega) (by omega)).mono ?_; rintro e w2 ⟨⟨y1, y2, y3, q2, rfl, hq2⟩, hB2⟩
    have hB02 : Below w.heap.size w w2 := hB01.trans (hB2.mono hB01.size)
    go_wp2_with fail
    refine (opt_no _ _ _ _ _ _ (h.below hB02) hn HG.out).mono ?_; rintro e w3 ⟨rfl, hB3⟩
    have hB03 : Below w.heap.size w w3 := hB02.trans (hB3.mono hB02.size)
    rcases hq with rfl | ⟨z1, rfl⟩
    · rcases hq2 with rfl | ⟨z2, rfl⟩
      · go_wp2
        go_ret
        exact ⟨rfl, hB03⟩
      · go_wp2
        go_ret
        exact ⟨rfl, hB03⟩
    · go_wp2
      go_ret
      exact ⟨rfl, hB03⟩

set_option maxHeartbeats 2000000 in
theorem begin_whole (A : Option Addr) (f : Nat) (l : List Int) (slots : Int) (w : World) (h : RI w A f l) (hn : f ≤ 9223372036854775807) :
    Calls Try.prog 6 #[.slice A f f, .int .i64 slots, .int .i64 (f : Int)] w fun e w' => e = .returned (.bool true) ∧ Below w.heap.size w w' := by
  have hnc : f ≤ f := Nat.le_refl _
  have hc3 : f ≤ f := Nat.le_refl _
  have hf0 : (0 : Int) ≤ f := by omega
  have hD : RI w A 0 (l.drop f) := by rw [List.drop_eq_nil_of_le (by rw [h.len]; exact Nat.le_refl _)]; exact RI.nil_
  have HL := Lib.hid h.len
  by_cases hg : GoodReqs l slots
  · obtain ⟨s, rfl⟩ : ∃ s : Nat, slots = s := ⟨slots.toNat, by have := hg.2.2.1; omega⟩
    have HG := Lib.hid hg
    have hn4 : f ≤ 40 := by have := HL.out; have := hg.1; omega
    have hs1 : 1 ≤ s := by have := hg.2.2.1; omega
    have hs2 : s ≤ 8 := by have := hg.2.2.2; omega
    have Q := Lib.hid (begin_facts s hs1 l f (by have := HL.out; omega))
    have HT := Lib.hid (good_takeO hg f)
    have HD := Lib.hid (good_dropO hg f)
    clear hg hn
    go_enter Try.func6, Try.ntmps6
    go_wp2_with fail
    refine (optFact_ok _).mono ?_; rintro e w0 ⟨rfl, hB0⟩
    go_wp2_with fail
    refine (inO_ok _ _ _ _ hf0 (by omega)).mono ?_; rintro e w' ⟨rfl, rfl⟩
    go_wp2_with fail
    refine (opt_ok _ _ _ _ _ _ ((h.below hB0).take (by omega)) hc3 HT.out).mono ?_; rintro e w1 ⟨A1, c1, A2, n2, c2, A3, n3, c3, rfl, R1, R2, R3, hn2, hn3, hB1⟩
    have hB01 : Below w.heap.size w w1 := hB0.trans (hB1.mono hB0.size)
    go_wp2_with fail
    refine (opt_ok _ _ _ _ _ _ (hD.below hB01) (by omega) HD.out).mono ?_; rintro e w2 ⟨A4, c4, A5, n5, c5, A6, n6, c6, rfl, R4, R5, R6, hn5, hn6, hB2⟩
    have hB02 : Below w.heap.size w w2 := hB01.trans (hB2.mono hB01.size)
    go_wp2_with fail
    refine (opt_ok _ _ _ _ _ _ (h.below hB02) hnc HG.out).mono ?_; rintro e w3 ⟨A7, c7, A8, n8, c8, A9, n9, c9, rfl, R7, R8, R9, hn8, hn9, hB3⟩
    have hB03 : Below w.heap.size w w3 := hB02.trans (hB3.mono hB02.size)
    rw [Int.toNat_natCast] at R1 R4 R7
    have RA := Lib.hid (Row.readsB ((R1.below hB2).below hB3))
    have RB := Lib.hid (Row.readsB (R4.below hB3))
    have RC := Lib.hid (Row.readsB R7)
    clear R1 R2 R3 R4 R5 R6 R7 R8 R9
    obtain ⟨q1, q2, q3, q4, q5⟩ := Q.out
    clear Q
    go_wp2_with fail
    refine (misses_any _ _ _ _ _ RA.out (by omega)).mono ?_; rintro e w' ⟨rfl, rfl⟩
    generalize ha : missN (optF s [] (l.take f)).1 = a at *
    have HA := Lib.hid ha
    clear ha
    go_wp2_with fail
    refine (misses_any _ _ _ _ _ RC.out (by omega)).mono ?_; rintro e w' ⟨rfl, rfl⟩
    generalize hz : missN (optF s [] l).1 = z at *
    have HZ := Lib.hid hz
    clear hz
    go_wp2_with fail
    refine (misses_any _ _ _ _ _ RC.out (by omega)).mono ?_; rintro e w' ⟨rfl, rfl⟩
    rw [HZ.out]
    go_wp2_with fail
    refine (misses_any _ _ _ _ _ RA.out (by omega)).mono ?_; rintro e w' ⟨rfl, rfl⟩
    rw [HA.out]
    go_wp2_with fail
    refine (misses_any _ _ _ _ _ RB.out (by omega)).mono ?_; rintro e w' ⟨rfl, rfl⟩
    generalize missN (optF s [] (l.drop f)).1 = b at *
    have q6 : (z : Int) ≤ (a : Int) + b := by omega
    go_wp2
    go_ret
    exact ⟨rfl, hB03⟩
  · have HG := Lib.hid hg
    clear hg
    go_enter Try.func6, Try.ntmps6
    go_wp2_with fail
    refine (optFact_ok _).mono ?_; rintro e w0 ⟨rfl, hB0⟩
    go_wp2_with fail
    refine (inO_ok _ _ _ _ hf0 (by omega)).mono ?_; rintro e w' ⟨rfl, rfl⟩
    go_wp2_with fail
    refine (opt_any2 _ _ _ _ _ _ ((h.below hB0).take (by omega)) hc3 (by omega)).mono ?_; rintro e w1 ⟨⟨x1, x2, x3, q, rfl, hq⟩, hB1⟩
    have hB01 : Below w.heap.size w w1 := hB0.trans (hB1.mono hB0.size)
    go_wp2_with fail
    refine (opt_any2 _ _ _ _ _ _ (hD.below hB01) (by omega) (by omega)).mono ?_; rintro e w2 ⟨⟨y1, y2, y3, q2, rfl, hq2⟩, hB2⟩
    have hB02 : Below w.heap.size w w2 := hB01.trans (hB2.mono hB01.size)
    go_wp2_with fail
    refine (opt_no _ _ _ _ _ _ (h.below hB02) hn HG.out).mono ?_; rintro e w3 ⟨rfl, hB3⟩
    have hB03 : Below w.heap.size w w3 := hB02.trans (hB3.mono hB02.size)
    rcases hq with rfl | ⟨z1, rfl⟩
    · rcases hq2 with rfl | ⟨z2, rfl⟩
      · go_wp2
        go_ret
        exact ⟨rfl, hB03⟩
      · go_wp2
        go_ret
        exact ⟨rfl, hB03⟩
    · go_wp2
      go_ret
      exact ⟨rfl, hB03⟩

set_option maxHeartbeats 2000000 in
theorem law_OptBegin (A : Option Addr) (n c : Nat) (l : List Int) (slots t : Int) (w : World) (h : RI w A n l) (hnc : n ≤ c) (hn : n ≤ 9223372036854775807) :
    Calls Try.prog 6 #[.slice A n c, .int .i64 slots, .int .i64 t] w fun e w' => e = .returned (.bool true) ∧ Below w.heap.size w w' := by
  by_cases ht : 0 ≤ t ∧ t ≤ n
  · obtain ⟨f, rfl⟩ : ∃ f : Nat, t = f := ⟨t.toNat, by omega⟩
    by_cases hcf : c = f
    · obtain rfl : c = n := by omega
      subst hcf
      exact begin_whole A c l slots w h hn
    · obtain ⟨g, rfl⟩ : ∃ g : Nat, n = f + g := ⟨n - f, by omega⟩
      exact begin_part A f g c l slots w h hnc hn hcf
  · have hin : t < 0 ∨ (n : Int) < t := by omega
    have HI := Lib.hid hin
    clear ht hin
    go_enter Try.func6, Try.ntmps6
    go_wp2_with fail
    refine (optFact_ok _).mono ?_; rintro e w0 ⟨rfl, hB0⟩
    go_wp2_with fail
    refine (inO_no _ _ _ _ HI.out).mono ?_; rintro e w' ⟨rfl, rfl⟩
    go_wp2
    go_ret
    exact ⟨rfl, hB0⟩
end Go.Proofs.Ytdlfinaklnegkaa
