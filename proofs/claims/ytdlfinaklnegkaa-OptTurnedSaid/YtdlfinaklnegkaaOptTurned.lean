/- The walk of the law OptTurned: it returns true, for every input. -/
import Derived.Test.YtdlfinaklnegkaaOptFact
namespace Go.Proofs.Ytdlfinaklnegkaa
open Go.ChangeShapes Go.WideShapes Go.ChangeAt Go.RowKit

set_option maxHeartbeats 1000000 in
/-- larderwicksame.Turned: a list the other way round, in new memory. -/
theorem turned_ok (A : Option Addr) (n c : Nat) (l : List Int) (w : World) (h : RI w A n l) (hnc : n ≤ c) (hcap : c * 8 ≤ 140737488351232) :
    Calls Try.prog 15 #[.slice A n c] w fun e w' => ∃ A1 c1, e = .returned (.slice A1 n c1) ∧ n ≤ c1 ∧ Row w' w.heap.size 3 (.slice A1 n c1) n (l.reverse.map (Value.int .i64)) ∧ Below w.heap.size w w' := by
  have HL := Lib.hid h.len
  go_enter Try.func15, Try.ntmps15
  go_wp2
  go_loopw [3, 4] (fun v3 i wr => ∃ j : Nat, j ≤ n ∧ i = .int .i64 ((j : Int) - 1) ∧ Row wr w.heap.size 3 v3 (n - j) ((l.drop j).reverse.map (Value.int .i64)) ∧ Below w.heap.size w wr) (fun _ i _ => (intOf i + 1).toNat)
  case atStart => exact ⟨n, by omega, by go_num, by rw [List.drop_eq_nil_of_le (by have := HL.out; omega), Nat.sub_self]; simpa using Row.nil_ _ _ _, Below.refl _ _⟩
  case round =>
    obtain ⟨j, hj, rfl, R3, hB⟩ := hrel
    rcases j with _ | j
    · have F3 := Lib.hid R3.form
      go_wp2
      go_ret
      obtain ⟨A1, c1, hv, hc1, _⟩ := F3.out
      rw [hv] at R3
      exact ⟨A1, c1, by rw [hv]; rfl, by simpa using hc1, by simpa using R3, hB⟩
    · have e1 : (((j + 1 : Nat) : Int) - 1) = j := by omega
      rw [e1]
      have hbs := hB.size
      obtain ⟨ad, y, rfl, HY, hc⟩ := (h.below hB).at_ (show j < n by omega)
      have HD : Hid (l.drop j = y :: l.drop (j + 1)) := Lib.hid (drop_atO HY.out)
      have hjn : j < n := by omega
      clear e1
      go_wp2_with (at_builtin; refine wpList_push8 _ rfl (.tmp 12) (.tmp 17) _ rfl w.heap.size 3 _ _ Try.underlying22 infoI rfl _ _ _ rfl R3 (.int .i64 y) rfl rfl (by simp only [maxLen]; omega) (by omega) hbs ?_; intro v' w1 R3' g3)
      go_roundw
      case rel =>
        refine ⟨j, by omega, by go_num, ?_, hB.grown g3 hbs (fun b hb => (R3.lt b hb).1)⟩
        rw [HD.out, List.reverse_cons, List.map_append, show n - j = n - (j + 1) + 1 by omega]
        exact R3'
      case measure => simp [intOf] <;> omega

theorem good_rev {l : List Int} {s : Int} : GoodReqs l.reverse s ↔ GoodReqs l s := by
  unfold GoodReqs AllIn
  simp

set_option maxHeartbeats 1000000 in
theorem law_OptTurned (A : Option Addr) (n c : Nat) (l : List Int) (slots : Int) (w : World) (h : RI w A n l) (hnc : n ≤ c) (hn : n ≤ 9223372036854775807) (hcap : c * 8 ≤ 140737488351232) :
    Calls Try.prog 5 #[.slice A n c, .int .i64 slots] w fun e w' => e = .returned (.bool true) ∧ Below w.heap.size w w' := by
  by_cases hg : GoodReqs l slots
  · obtain ⟨s, rfl⟩ : ∃ s : Nat, slots = s := ⟨slots.toNat, by have := hg.2.2.1; omega⟩
    have HL := Lib.hid h.len
    have HG := Lib.hid hg
    have HG2 := Lib.hid (good_rev.2 hg)
    have hn4 : n ≤ 40 := by have := HL.out; have := hg.1; omega
    have hs1 : 1 ≤ s := by have := hg.2.2.1; omega
    have HT : Hid (missN (optF s [] l.reverse).1 = missN (optF s [] l).1) := Lib.hid (optN_turned hs1 l).symm
    clear hg hn
    go_enter Try.func5, Try.ntmps5
    go_wp2_with fail
    refine (optFact_ok _).mono ?_; rintro e w0 ⟨rfl, hB0⟩
    go_wp2_with fail
    refine (opt_ok _ _ _ _ _ _ (h.below hB0) hnc HG.out).mono ?_; rintro e w1 ⟨A1, c1, A2, n2, c2, A3, n3, c3, rfl, R1, R2, R3, hn2, hn3, hB1⟩
    have hB01 : Below w.heap.size w w1 := hB0.trans (hB1.mono hB0.size)
    rw [Int.toNat_natCast] at R1
    clear R2 R3
    go_wp2_with fail
    refine (turned_ok _ _ _ _ _ ((h.below hB0).below hB1) hnc hcap).mono ?_; rintro e w2 ⟨A4, c4, rfl, hc4, R4, hB2⟩
    have hB02 : Below w.heap.size w w2 := hB01.trans (hB2.mono hB01.size)
    go_wp2_with fail
    refine (opt_ok _ _ _ _ _ _ (Row.reads R4) hc4 HG2.out).mono ?_; rintro e w3 ⟨A5, c5, A6, n6, c6, A7, n7, c7, rfl, R5, R6, R7, hn6, hn7, hB3⟩
    have hB03 : Below w.heap.size w w3 := hB02.trans (hB3.mono hB02.size)
    rw [Int.toNat_natCast] at R5
    have RA := Lib.hid (Row.readsB ((R1.below hB2).below hB3))
    have RB := Lib.hid (Row.readsB R5)
    clear R1 R4 R5 R6 R7
    go_wp2_with fail
    refine (misses_any _ _ _ _ _ RA.out (by omega)).mono ?_; rintro e w' ⟨rfl, rfl⟩
    go_wp2_with fail
    refine (misses_any _ _ _ _ _ RB.out (by omega)).mono ?_; rintro e w' ⟨rfl, rfl⟩
    rw [HT.out]
    generalize missN (optF s [] l).1 = a at *
    go_wp2
    go_ret
    exact ⟨by simp, hB03⟩
  · have HG := Lib.hid hg
    have HG2 := Lib.hid (fun hh => hg (good_rev.1 hh))
    have hcn : n ≤ 1000000000000000 := by omega
    clear hg
    go_enter Try.func5, Try.ntmps5
    go_wp2_with fail
    refine (optFact_ok _).mono ?_; rintro e w0 ⟨rfl, hB0⟩
    go_wp2_with fail
    refine (opt_no _ _ _ _ _ _ (h.below hB0) hn HG.out).mono ?_; rintro e w1 ⟨rfl, hB1⟩
    have hB01 : Below w.heap.size w w1 := hB0.trans (hB1.mono hB0.size)
    go_wp2_with fail
    refine (turned_ok _ _ _ _ _ ((h.below hB0).below hB1) hnc hcap).mono ?_; rintro e w2 ⟨A4, c4, rfl, hc4, R4, hB2⟩
    have hB02 : Below w.heap.size w w2 := hB01.trans (hB2.mono hB01.size)
    go_wp2_with fail
    refine (opt_no _ _ _ _ _ _ (Row.reads R4) hn HG2.out).mono ?_; rintro e w3 ⟨rfl, hB3⟩
    go_wp2
    go_ret
    exact ⟨rfl, hB02.trans (hB3.mono hB02.size)⟩
end Go.Proofs.Ytdlfinaklnegkaa
