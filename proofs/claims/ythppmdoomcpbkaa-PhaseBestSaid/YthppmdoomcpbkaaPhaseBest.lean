/- The walk of the law PhaseBest: it returns true, for every input. -/
import Derived.Test.YthppmdoomcpbkaaOpt
import Derived.Test.YthppmdoomcpbkaaWays
import Derived.Test.YthppmdoomcpbkaaPhaseFew
import Derived.IntWalk
namespace Go.Proofs.Ythppmdoomcpbkaa
open Go.ChangeShapes Go.WideShapes Go.ChangeAt Go.RowKit

theorem faults_no (kd : Nat) (hkd : kd ≤ 3) (A : Option Addr) (n c : Nat) (l : List Int) (slots : Int) (w : World) (h : RI w A n l) (hn : n ≤ 9223372036854775807) (hg : ¬ GoodReqs l slots) :
    Calls Try.prog 20 #[.int .i64 ((kd : Nat) : Int), .slice A n c, .int .i64 slots] w fun e w' => e = .returned (.tuple #[.int .i64 0, .bool false]) ∧ Below w.heap.size w w' := by
  have HG := Lib.hid hg
  clear hg
  have hM : Hid (∀ d, Calls Try.prog 11 #[.slice none 0 0] (w.drewN d) fun e w' => e = .returned (.int .i64 ((missN ([] : List Bool) : Nat) : Int)) ∧ w' = w.drewN d) := Lib.hid (fun d =>
    misses_q none 0 0 [] _ ⟨rfl, fun h => absurd h (by omega)⟩ (by omega))
  have hk : kd = 0 ∨ kd = 1 ∨ kd = 2 ∨ kd = 3 := by omega
  rcases hk with rfl | rfl | rfl | rfl
  · go_enter Try.func20, Try.ntmps20
    go_wp2_with fail
    refine (lru_no _ _ _ _ _ _ h hn HG.out).mono ?_; rintro e w1 ⟨rfl, rfl⟩
    go_wp2
    go_quiet ((go_at_call 11; exact Calls.quiet_of_same (hM.out _)))
    go_wp2
    go_ret2
    exact ⟨rfl, belowN (Below.refl _ _) _⟩
  · go_enter Try.func20, Try.ntmps20
    go_wp2_with fail
    refine (fifo_no _ _ _ _ _ _ h hn HG.out).mono ?_; rintro e w1 ⟨rfl, rfl⟩
    go_wp2
    go_quiet ((go_at_call 11; exact Calls.quiet_of_same (hM.out _)))
    go_wp2
    go_ret2
    exact ⟨rfl, belowN (Below.refl _ _) _⟩
  · go_enter Try.func20, Try.ntmps20
    go_wp2_with fail
    refine (clock_no _ _ _ _ _ _ h hn HG.out).mono ?_; rintro e w1 ⟨rfl, rfl⟩
    go_wp2
    go_quiet ((go_at_call 11; exact Calls.quiet_of_same (hM.out _)))
    go_wp2
    go_ret2
    exact ⟨rfl, belowN (Below.refl _ _) _⟩
  · go_enter Try.func20, Try.ntmps20
    go_wp2_with fail
    refine (flush_no _ _ _ _ _ _ h hn HG.out).mono ?_; rintro e w1 ⟨rfl, rfl⟩
    go_wp2
    go_quiet ((go_at_call 11; exact Calls.quiet_of_same (hM.out _)))
    go_wp2
    go_ret2
    exact ⟨rfl, belowN (Below.refl _ _) _⟩

theorem best_int {k h m o : Nat} (h1 : 1 ≤ h) (h2 : h ≤ k) (hk : k ≤ 8) (hm : m ≤ 40) (ho : o ≤ 40) (hb : (k - h + 1) * m ≤ k * (o + h)) :
    (((k : Int) - h + 1) * m ≤ (k : Int) * ((o : Int) + h)) ∧ 0 ≤ ((k : Int) - h + 1) * m ∧ ((k : Int) - h + 1) * m ≤ 320 ∧ 0 ≤ (k : Int) * ((o : Int) + h) ∧ (k : Int) * ((o : Int) + h) ≤ 384 := by
  have e1 : ((k : Int) - h + 1) = ((k - h + 1 : Nat) : Int) := by omega
  have e2 : ((k : Int) - h + 1) * m = (((k - h + 1) * m : Nat) : Int) := by rw [e1]; norm_cast
  have e3 : (k : Int) * ((o : Int) + h) = ((k * (o + h) : Nat) : Int) := by norm_cast
  have b1 : (k - h + 1) * m ≤ 8 * 40 := Nat.mul_le_mul (by omega) hm
  have b2 : k * (o + h) ≤ 8 * 48 := Nat.mul_le_mul hk (by omega)
  rw [e2, e3]
  omega

set_option maxRecDepth 100000 in
set_option maxHeartbeats 4000000 in
theorem law_PhaseBest (A : Option Addr) (n c : Nat) (l : List Int) (k h' kind : Int) (w : World) (h : RI w A n l) (hnc : n ≤ c) (hn : n ≤ 9223372036854775807) :
    Calls Try.prog 5 #[.slice A n c, .int .i64 k, .int .i64 h', .int .i64 kind] w fun e w' => e = .returned (.bool true) ∧ Below w.heap.size w w' := by
  by_cases hk : 1 ≤ k ∧ k ≤ 8
  · obtain ⟨k1, k2⟩ := hk
    by_cases hh : 1 ≤ h' ∧ h' ≤ k
    · obtain ⟨h1, h2⟩ := hh
      by_cases hkd : 0 ≤ kind ∧ kind ≤ 3
      · obtain ⟨d1, d2⟩ := hkd
        obtain ⟨kk, rfl⟩ : ∃ x : Nat, k = x := ⟨k.toNat, by omega⟩
        obtain ⟨hs, rfl⟩ : ∃ x : Nat, h' = x := ⟨h'.toNat, by omega⟩
        obtain ⟨kd, rfl⟩ : ∃ x : Nat, kind = x := ⟨kind.toNat, by omega⟩
        have hkd3 : kd ≤ 3 := by omega
        by_cases hg : GoodReqs l (hs : Int)
        · have HL := Lib.hid h.len
          have HG := Lib.hid hg
          have HGK : Hid (GoodReqs l (kk : Int)) := Lib.hid ⟨hg.1, hg.2.1, k1, k2⟩
          have hn4 : n ≤ 40 := by have := HL.out; have := hg.1; omega
          have m1 : missN (hitsK kd kk l) ≤ 40 := by have := missN_le (hitsK kd kk l); rw [hitsK_len] at this; have := HL.out; omega
          have m2 : missN (optF hs [] l).1 ≤ 40 := by have := missN_le (optF hs [] l).1; rw [optF_len] at this; have := HL.out; omega
          have Q := Lib.hid (best_int (k := kk) (h := hs) (by omega) (by omega) (by omega) m1 m2 (phase_best kd kk hs (by omega) (by omega) l))
          clear hg hn
          go_enter Try.func5, Try.ntmps5
          go_wp2_with fail
          refine (phaseFact_ok _).mono ?_; rintro e w0 ⟨rfl, hB0⟩
          go_wp2_with fail
          refine (in1_ok _ _ _ _ k1 k2).mono ?_; rintro e w' ⟨rfl, rfl⟩
          go_wp2_with fail
          refine (in1_ok _ _ _ _ h1 h2).mono ?_; rintro e w' ⟨rfl, rfl⟩
          go_wp2_with fail
          refine (in1_ok _ _ _ _ d1 d2).mono ?_; rintro e w' ⟨rfl, rfl⟩
          go_wp2_with fail
          refine (opt_ok _ _ _ _ _ _ (h.below hB0) hnc HG.out).mono ?_; rintro e w1 ⟨A1, c1, A2, n2, c2, A3, n3, c3, rfl, R1, R2, R3, hn2, hn3, hB1⟩
          have hB01 : Below w.heap.size w w1 := hB0.trans (hB1.mono hB0.size)
          rw [Int.toNat_natCast] at R1
          clear R2 R3
          go_wp2_with fail
          refine (faults_ok kd hkd3 _ _ _ _ _ _ (h.below hB01) HGK.out).mono ?_; rintro e w2 ⟨rfl, hB2⟩
          have hB02 : Below w.heap.size w w2 := hB01.trans (hB2.mono hB01.size)
          have RA := Lib.hid (Row.readsB (R1.below hB2))
          clear R1
          go_wp2_with fail
          refine (misses_any _ _ _ _ _ RA.out (by omega)).mono ?_; rintro e w' ⟨rfl, rfl⟩
          generalize missN (hitsK kd kk l) = m at *
          generalize missN (optF hs [] l).1 = o at *
          obtain ⟨q1, q2, q3, q4, q5⟩ := Q.out
          clear Q
          have e1 : wrap64 (((kk : Int) - hs + 1) * m) = ((kk : Int) - hs + 1) * m := IntWalk.wrap64_in _ (by omega)
          have e2 : wrap64 ((kk : Int) * ((o : Int) + hs)) = (kk : Int) * ((o : Int) + hs) := IntWalk.wrap64_in _ (by omega)
          go_wp2
          go_ret
          exact ⟨rfl, hB02⟩
        · have HG := Lib.hid hg
          have HGK : Hid (¬ GoodReqs l (kk : Int)) := Lib.hid (fun hh => hg ⟨hh.1, hh.2.1, h1, by omega⟩)
          clear hg
          go_enter Try.func5, Try.ntmps5
          go_wp2_with fail
          refine (phaseFact_ok _).mono ?_; rintro e w0 ⟨rfl, hB0⟩
          go_wp2_with fail
          refine (in1_ok _ _ _ _ k1 k2).mono ?_; rintro e w' ⟨rfl, rfl⟩
          go_wp2_with fail
          refine (in1_ok _ _ _ _ h1 h2).mono ?_; rintro e w' ⟨rfl, rfl⟩
          go_wp2_with fail
          refine (in1_ok _ _ _ _ d1 d2).mono ?_; rintro e w' ⟨rfl, rfl⟩
          go_wp2_with fail
          refine (opt_no _ _ _ _ _ _ (h.below hB0) hn HG.out).mono ?_; rintro e w1 ⟨rfl, hB1⟩
          have hB01 : Below w.heap.size w w1 := hB0.trans (hB1.mono hB0.size)
          go_wp2_with fail
          refine (faults_no kd hkd3 _ _ _ _ _ _ (h.below hB01) hn HGK.out).mono ?_; rintro e w2 ⟨rfl, hB2⟩
          go_wp2
          go_ret
          exact ⟨rfl, hB01.trans (hB2.mono hB01.size)⟩
      · have HK := Lib.hid (show kind < 0 ∨ 3 < kind by omega)
        clear hkd
        go_enter Try.func5, Try.ntmps5
        go_wp2_with fail
        refine (phaseFact_ok _).mono ?_; rintro e w0 ⟨rfl, hB0⟩
        go_wp2_with fail
        refine (in1_ok _ _ _ _ k1 k2).mono ?_; rintro e w' ⟨rfl, rfl⟩
        go_wp2_with fail
        refine (in1_ok _ _ _ _ h1 h2).mono ?_; rintro e w' ⟨rfl, rfl⟩
        go_wp2_with fail
        refine (in1_no _ _ _ _ HK.out).mono ?_; rintro e w' ⟨rfl, rfl⟩
        go_wp2
        go_ret
        exact ⟨rfl, hB0⟩
    · have HK := Lib.hid (show h' < 1 ∨ k < h' by omega)
      clear hh
      go_enter Try.func5, Try.ntmps5
      go_wp2_with fail
      refine (phaseFact_ok _).mono ?_; rintro e w0 ⟨rfl, hB0⟩
      go_wp2_with fail
      refine (in1_ok _ _ _ _ k1 k2).mono ?_; rintro e w' ⟨rfl, rfl⟩
      go_wp2_with fail
      refine (in1_no _ _ _ _ HK.out).mono ?_; rintro e w' ⟨rfl, rfl⟩
      go_wp2
      go_ret
      exact ⟨rfl, hB0⟩
  · have HK := Lib.hid (show k < 1 ∨ 8 < k by omega)
    clear hk
    go_enter Try.func5, Try.ntmps5
    go_wp2_with fail
    refine (phaseFact_ok _).mono ?_; rintro e w0 ⟨rfl, hB0⟩
    go_wp2_with fail
    refine (in1_no _ _ _ _ HK.out).mono ?_; rintro e w' ⟨rfl, rfl⟩
    go_wp2
    go_ret
    exact ⟨rfl, hB0⟩
end Go.Proofs.Ythppmdoomcpbkaa
