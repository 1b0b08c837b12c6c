/- The walk of the law FlushPhase: it returns true, for every input. -/
import Derived.Test.YtoeoennocdpblaaFlush
import Derived.Test.YtoeoennocdpblaaPhase
import Derived.Test.YtoeoennocdpblaaSame
namespace Go.Proofs.Ytoeoennocdpblaa
open Go.ChangeShapes Go.WideShapes Go.ChangeAt Go.RowKit

set_option maxHeartbeats 400000 in
theorem flushFact_ok (w : World) : Calls Try.prog 18 #[] w fun e w' => e = .returned (.bool true) ∧ Below w.heap.size w w' := by
  go_enter Try.func18, Try.ntmps18
  go_wp2_with fail
  have h0 := RI.lit w #[.int .i64 1, .int .i64 2, .int .i64 3, .int .i64 1] 3 [1, 2, 3, 1] 4 rfl rfl
  have hB0 := (Below.refl w.heap.size w).alloc (Nat.le_refl _) (.cells #[.int .i64 1, .int .i64 2, .int .i64 3, .int .i64 1] 3)
  refine (flush_ok _ _ _ _ _ _ h0 (by simp [GoodReqs, AllIn])).mono ?_; rintro e w1 ⟨A1, c1, A2, n2, c2, rfl, R1, R2, hn2, hB1⟩
  have hB01 := hB0.trans (hB1.mono hB0.size)
  have e1 : (flushRun (Int.toNat 2) [1, 2, 3, 1]).1 = [false, false, false, false] := by decide
  have e2 : (flushRun (Int.toNat 2) [1, 2, 3, 1]).2 = [3, 1] := by decide
  rw [e1] at R1
  rw [e2] at R2
  clear e1 e2
  have hw1 := hB01.size
  have M1 : Hid (missN [false, false, false, false] = 4) := by simp [Hid, missN]
  have M2 : Hid (eqI [3, 1] [3, 1] = true) := by simp [Hid, eqI]
  go_wp2_with fail
  refine (misses_any _ _ _ _ _ (Row.readsB R1) (by omega)).mono ?_; rintro e w' ⟨rfl, rfl⟩
  rw [M1.out]
  go_wp2_with fail
  have h2 := RI.lit w1 #[.int .i64 3, .int .i64 1] 3 [3, 1] 2 rfl rfl
  refine (ints_any _ _ _ _ _ _ _ _ _ ((Row.reads R2).below ((Below.refl w1.heap.size w1).alloc (Nat.le_refl _) _)) h2 (by omega) (by omega)).mono ?_; rintro e w' ⟨rfl, d, rfl⟩
  rw [M2.out]
  go_wp2
  go_ret
  exact ⟨rfl, belowN (hB01.alloc hw1 _) _⟩

set_option maxHeartbeats 1000000 in
theorem law_FlushPhase (A : Option Addr) (n c : Nat) (l : List Int) (slots : Int) (w : World) (h : RI w A n l) (hnc : n ≤ c) (hn : n ≤ 9223372036854775807) :
    Calls Try.prog 5 #[.slice A n c, .int .i64 slots] w fun e w' => e = .returned (.bool true) ∧ Below w.heap.size w w' := by
  by_cases hg : GoodReqs l slots
  · obtain ⟨s, rfl⟩ : ∃ s : Nat, slots = s := ⟨slots.toNat, by have := hg.2.2.1; omega⟩
    have HL := Lib.hid h.len
    have HG := Lib.hid hg
    have hn4 : n ≤ 40 := by have := HL.out; have := hg.1; omega
    have hs1 : 1 ≤ s := by have := hg.2.2.1; omega
    clear hn hg
    go_enter Try.func5, Try.ntmps5
    go_wp2_with fail
    refine (flushFact_ok _).mono ?_; rintro e w0 ⟨rfl, hB0⟩
    go_wp2_with fail
    refine (flush_ok _ _ _ _ _ _ (h.below hB0) HG.out).mono ?_; rintro e w1 ⟨A1, c1, A2, n2, c2, rfl, R1, R2, hn2, hB1⟩
    have hB01 : Below w.heap.size w w1 := hB0.trans (hB1.mono hB0.size)
    go_wp2_with fail
    refine (starts_ok _ _ _ _ _ _ ((h.below hB0).below hB1) HG.out).mono ?_; rintro e w2 ⟨A3, n3, c3, rfl, R3, hn3, hB2⟩
    rw [Int.toNat_natCast] at R1 R2 R3
    have hB02 : Below w.heap.size w w2 := hB01.trans (hB2.mono hB01.size)
    have R1' := R1.below hB2
    have h2 := ((h.below hB0).below hB1).below hB2
    go_wp2
    go_loopw [11, 12] (fun v11 i wr => ∃ k f : Nat, k ≤ n ∧ f ≤ k ∧ i = .int .i64 k ∧ v11 = .int .i64 f ∧ Below w2.heap.size w2 wr ∧ Hid (FromInv s l k f)) (fun _ i _ => n - (intOf i).toNat)
    case atStart => exact ⟨0, 0, by omega, by omega, by go_num, by go_num, Below.refl _ _, Lib.hid (from_zero s l)⟩
    case round =>
      obtain ⟨k, f, hk, hf, rfl, rfl, hB, HF⟩ := hrel
      have h3 := h2.below hB
      have R1r := R1'.below hB
      have R3r := R3.below hB
      have hBr : Below w.heap.size w wr := hB02.trans (hB.mono hB02.size)
      by_cases hlt : k < n
      · have h2k := h3.take (k := k) (by omega)
        obtain ⟨ad, y, rfl, HY, hc⟩ := h3.at_ hlt
        obtain ⟨ad1, b, rfl, HB, hcb⟩ := (Row.readsB R1r).at_ hlt
        have HS := Lib.hid (has_starts s l l.length k (by have := HL.out; omega))
        cases hst : isStart s l k
        · have hx := RI.cut h2k (k := f) (cap := c) hf (by omega)
          have hcf : ¬ c = f := by omega
          rw [if_neg hcf] at hx
          have HX := Lib.hid hx
          clear hx
          rw [hst] at HS
          have HH := Lib.hid (flush_from s l k f y HY.out hst HF.out)
          have HN := Lib.hid (from_in s l k f y HY.out hst HF.out)
          have HB2 : Hid (hasB ((l.take k).drop f) y = b) := Lib.hid (by
            have e1 := HH.out; have e2 := HB.out; rw [e1] at e2; injection e2)
          clear hst
          go_wp2_with fail
          refine (has_any _ _ _ _ _ _ (Row.reads R3r) (by omega)).mono ?_; rintro e w' ⟨rfl, rfl⟩
          rw [HS.out]
          have hi0 : (0 : Int) ≤ f := by omega
          have hi1 : (f : Int) ≤ k := by omega
          have hi2 : (k : Int) ≤ c := by omega
          have hi3 : k ≤ c := by omega
          go_wp2
          go_quiet ((go_at_call 13; exact Calls.quiet_of_same (has_q _ _ _ _ _ _ (RI.drewN HX.out _) (by omega))))
          rw [HB2.out]
          cases b
          all_goals
            go_wp2
            go_roundw
            case rel => exact ⟨k + 1, f, by omega, by omega, by go_num, rfl, belowN hB _, HN⟩
            case measure => simp [intOf]; omega
        · have hx := RI.cut h2k (k := k) (cap := c) (by omega) (by omega)
          rw [Nat.sub_self, if_neg (by omega)] at hx
          have hd : (l.take k).drop k = [] := by rw [List.drop_eq_nil_of_le]; simp; omega
          rw [hd] at hx
          have HX := Lib.hid hx
          clear hx
          rw [hst] at HS
          have HH := Lib.hid (flush_start s l k y HY.out hst)
          have HN := Lib.hid (from_start s l k y hs1 HY.out hst)
          have hb2 : b = false := by have e1 := HH.out; have e2 := HB.out; rw [e1] at e2; injection e2 with e2; exact e2.symm
          subst hb2
          clear hst hd
          have hcf : ¬ c = k := by omega
          have hi0 : (0 : Int) ≤ k := by omega
          have hi2 : (k : Int) ≤ c := by omega
          have hi3 : k ≤ c := by omega
          have HE : Hid (hasB [] y = false) := Lib.hid rfl
          go_wp2_with fail
          refine (has_any _ _ _ _ _ _ (Row.reads R3r) (by omega)).mono ?_; rintro e w' ⟨rfl, rfl⟩
          rw [HS.out]
          go_wp2
          go_quiet ((go_at_call 13; exact Calls.quiet_of_same (has_q _ _ _ _ _ _ (RI.drewN HX.out _) (by omega))))
          rw [HE.out]
          go_wp2
          go_roundw
          case rel => exact ⟨k + 1, k, by omega, by omega, by go_num, rfl, belowN hB _, HN⟩
          case measure => simp [intOf]; omega
      · go_wp2
        go_ret
        exact ⟨rfl, hBr⟩
  · have HG := Lib.hid hg
    clear hg
    go_enter Try.func5, Try.ntmps5
    go_wp2_with fail
    refine (flushFact_ok _).mono ?_; rintro e w0 ⟨rfl, hB0⟩
    go_wp2_with fail
    refine (flush_no _ _ _ _ _ _ (h.below hB0) hn HG.out).mono ?_; rintro e w1 ⟨rfl, rfl⟩
    go_wp2_with fail
    refine (starts_no _ _ _ _ _ _ (h.below hB0) hn HG.out).mono ?_; rintro e w1 ⟨rfl, rfl⟩
    go_wp2
    go_ret
    exact ⟨rfl, hB0⟩
end Go.Proofs.Ytoeoennocdpblaa
