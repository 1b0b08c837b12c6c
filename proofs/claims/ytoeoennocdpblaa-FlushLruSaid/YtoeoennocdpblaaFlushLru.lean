/- The walk of the law FlushLru: it returns true, for every input. -/
import Derived.Test.YtoeoennocdpblaaFlushLaw
import Derived.Test.YtoeoennocdpblaaLruLaw
import Derived.Test.YtoeoennocdpblaaFlushLruPlain
namespace Go.Proofs.Ytoeoennocdpblaa
open Go.ChangeShapes Go.WideShapes Go.ChangeAt Go.RowKit

set_option maxHeartbeats 1000000 in
theorem law_FlushLru (A : Option Addr) (n c : Nat) (l : List Int) (slots : Int) (w : World) (h : RI w A n l) (hn : n ≤ 9223372036854775807) :
    Calls Try.prog 9 #[.slice A n c, .int .i64 slots] w fun e w' => e = .returned (.bool true) ∧ Below w.heap.size w w' := by
  by_cases hg : GoodReqs l slots
  · obtain ⟨s, rfl⟩ : ∃ s : Nat, slots = s := ⟨slots.toNat, by have := hg.2.2.1; omega⟩
    have HL := Lib.hid h.len
    have HG := Lib.hid hg
    have hn4 : n ≤ 40 := by have := HL.out; have := hg.1; omega
    have hs1 : 1 ≤ s := by have := hg.2.2.1; omega
    clear hn hg
    go_enter Try.func9, Try.ntmps9
    go_wp2_with fail
    refine (flushFact_ok _).mono ?_; rintro e w0 ⟨rfl, hB0⟩
    have h0 := h.below hB0
    go_wp2_with fail
    refine (flush_ok _ _ _ _ _ _ h0 HG.out).mono ?_; rintro e w1 ⟨A1, c1, A2, n2, c2, rfl, R1, R2, hn2, hB1⟩
    have hB01 : Below w.heap.size w w1 := hB0.trans (hB1.mono hB0.size)
    go_wp2_with fail
    refine (lru_ok _ _ _ _ _ _ (h0.below hB1) HG.out).mono ?_; rintro e w2 ⟨A3, c3, A4, n4, c4, rfl, R3, R4, hn4', hB2⟩
    rw [Int.toNat_natCast] at R1 R2 R3 R4
    have hB02 : Below w.heap.size w w2 := hB01.trans (hB2.mono hB01.size)
    have RF := Lib.hid (Row.readsB (R1.below hB2))
    have RP := Lib.hid (Row.reads (R2.below hB2))
    have RL := Lib.hid (Row.readsB R3)
    have RQ := Lib.hid (Row.reads R4)
    clear R1 R2 R3 R4
    go_wp2
    go_loop [12] (fun i => ∃ k : Nat, k ≤ n ∧ i = .int .i64 k) (fun i => n - (intOf i).toNat)
    case atStart => exact ⟨0, by omega, by go_num⟩
    case round =>
      obtain ⟨k, hk, rfl⟩ := hrel
      by_cases hlt : k < n
      · obtain ⟨ad, a, rfl, HA, hca⟩ := RF.out.at_ hlt
        obtain ⟨ad', b, rfl, HB, hcb⟩ := RL.out.at_ hlt
        have hab : a = true → b = true := fun hh => by
          have h1 := HA.out
          rw [hh] at h1
          have h2 := flush_lru_at s hs1 l k h1
          rw [HB.out] at h2
          injection h2
        cases a
        · clear hab
          go_wp2
          go_round
          case rel => exact ⟨k + 1, by omega, by go_num⟩
          case measure => simp [intOf]; omega
        · have hb := hab rfl
          subst hb
          clear hab
          go_wp2
          go_round
          case rel => exact ⟨k + 1, by omega, by go_num⟩
          case measure => simp [intOf]; omega
      · go_wp2
        go_loop [13] (fun i => ∃ j : Nat, j ≤ n2 ∧ i = .int .i64 j) (fun i => n2 - (intOf i).toNat)
        case atStart => exact ⟨0, by omega, by go_num⟩
        case round =>
          obtain ⟨j, hj, rfl⟩ := hrel
          by_cases hlj : j < n2
          · obtain ⟨ad, x, rfl, HX, hcx⟩ := RP.out.at_ hlj
            have HH := Lib.hid (show hasB (lruRun s l).2 x = true from (hasB_iff _ _).2 (flush_lru_held s hs1 l x (mem_of_at HX.out)))
            go_wp2_with fail
            refine (has_any _ _ _ _ _ _ RQ.out (by omega)).mono ?_; rintro e w' ⟨rfl, rfl⟩
            rw [HH.out]
            go_wp2
            go_round
            case rel => exact ⟨j + 1, by omega, by go_num⟩
            case measure => simp [intOf]; omega
          · go_wp2
            go_ret
            exact ⟨rfl, hB02⟩
  · have HG := Lib.hid hg
    clear hg
    go_enter Try.func9, Try.ntmps9
    go_wp2_with fail
    refine (flushFact_ok _).mono ?_; rintro e w0 ⟨rfl, hB0⟩
    go_wp2_with fail
    refine (flush_no _ _ _ _ _ _ (h.below hB0) hn HG.out).mono ?_; rintro e w1 ⟨rfl, rfl⟩
    go_wp2_with fail
    refine (lru_no _ _ _ _ _ _ (h.below hB0) hn HG.out).mono ?_; rintro e w1 ⟨rfl, rfl⟩
    go_wp2
    go_ret
    exact ⟨rfl, hB0⟩
end Go.Proofs.Ytoeoennocdpblaa
