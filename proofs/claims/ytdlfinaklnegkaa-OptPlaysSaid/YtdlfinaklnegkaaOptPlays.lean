/- The walk of the law OptPlays: it returns true, for every input. -/
import Derived.Test.YtdlfinaklnegkaaOptFact
import Derived.Test.YtdlfinaklnegkaaPlay
namespace Go.Proofs.Ytdlfinaklnegkaa
open Go.ChangeShapes Go.WideShapes Go.ChangeAt Go.RowKit

set_option maxHeartbeats 1000000 in
theorem law_OptPlays (A : Option Addr) (n c : Nat) (l : List Int) (slots : Int) (w : World) (h : RI w A n l) (hnc : n ≤ c) (hn : n ≤ 9223372036854775807) :
    Calls Try.prog 7 #[.slice A n c, .int .i64 slots] w fun e w' => e = .returned (.bool true) ∧ Below w.heap.size w w' := by
  by_cases hg : GoodReqs l slots
  · obtain ⟨s, rfl⟩ : ∃ s : Nat, slots = s := ⟨slots.toNat, by have := hg.2.2.1; omega⟩
    have HL := Lib.hid h.len
    have HG := Lib.hid hg
    have hn4 : n ≤ 40 := by have := HL.out; have := hg.1; omega
    have hs1 : 1 ≤ s := by have := hg.2.2.1; omega
    have hs2 : s ≤ 8 := by have := hg.2.2.2; omega
    clear hn hg
    obtain ⟨p1, p2⟩ := opt_plays hs1 l [] [] 0 (List.Perm.refl _) (by simp) (by simp)
    have HP1 := Lib.hid p1
    have q3 : missN (optF s [] l).1 ≤ n := by have := missN_le (optF s [] l).1; rw [optF_len] at this; have := HL.out; omega
    go_enter Try.func7, Try.ntmps7
    go_wp2_with fail
    refine (optFact_ok _).mono ?_; rintro e w0 ⟨rfl, hB0⟩
    go_wp2_with fail
    refine (opt_ok _ _ _ _ _ _ (h.below hB0) hnc HG.out).mono ?_; rintro e w1 ⟨A1, c1, A2, n2, c2, A3, n3, c3, rfl, R1, R2, R3, hn2, hn3, hB1⟩
    have hB01 : Below w.heap.size w w1 := hB0.trans (hB1.mono hB0.size)
    rw [Int.toNat_natCast] at R1 R2 R3
    have hl2 : (optF s [] l).2.1.length = n2 := by have := R2.len; simpa using this
    have hl3 : (optF s [] l).2.2.length = n3 := by have := R3.len; simpa using this
    rw [hl2, hl3, List.length_nil, Nat.zero_add] at p2
    clear p1 hl2 hl3
    go_wp2_with fail
    refine (play_ok _ _ _ _ _ _ _ _ _ _ ((h.below hB0).below hB1) (Row.reads R2) (by omega) HG.out).mono ?_; rintro e w2 ⟨hh, hB2⟩
    rw [Int.toNat_natCast, HP1.out] at hh
    have hB02 : Below w.heap.size w w2 := hB01.trans (hB2.mono hB01.size)
    rcases hh with ⟨A4, n4, c4, _, rfl, R4, hn4'⟩ | ⟨hh, _⟩
    · have RM := Lib.hid (Row.readsB (R1.below hB2))
      have RL := Lib.hid (Row.reads (R3.below hB2))
      have RK := Lib.hid (Row.reads R4)
      have HE : Hid (eqI (optF s [] l).2.2 (optF s [] l).2.2 = true) := by simp [Hid, eqI]
      rw [Nat.zero_add]
      clear R1 R2 R3 R4
      have zz : (n2 : Int) + (n3 : Int) = ((missN (optF s [] l).1 : Nat) : Int) := by omega
      go_wp2_with fail
      refine (misses_any _ _ _ _ _ RM.out (by omega)).mono ?_; rintro e w' ⟨rfl, rfl⟩
      generalize missN (optF s [] l).1 = a at *
      go_wp2_with fail
      refine (ints_any _ _ _ _ _ _ _ _ _ RL.out RK.out (by omega) (by omega)).mono ?_; rintro e w' ⟨rfl, d, rfl⟩
      rw [HE.out]
      go_wp2
      go_ret
      exact ⟨rfl, belowN hB02 _⟩
    · exact absurd rfl hh
  · have HG := Lib.hid hg
    clear hg
    go_enter Try.func7, Try.ntmps7
    go_wp2_with fail
    refine (optFact_ok _).mono ?_; rintro e w0 ⟨rfl, hB0⟩
    go_wp2_with fail
    refine (opt_no _ _ _ _ _ _ (h.below hB0) hn HG.out).mono ?_; rintro e w1 ⟨rfl, hB1⟩
    have hB01 : Below w.heap.size w w1 := hB0.trans (hB1.mono hB0.size)
    go_wp2_with fail
    refine (play_no _ _ _ _ _ _ _ _ _ ((h.below hB0).below hB1) hn HG.out).mono ?_; rintro e w2 ⟨rfl, rfl⟩
    go_wp2
    go_ret
    exact ⟨rfl, hB01⟩

end Go.Proofs.Ytdlfinaklnegkaa
