/- The walk of ListOne: it returns true, for every input. -/
import Derived.Test.YtccbeggkdfjalaaListLaw
namespace Go.Proofs.Ytccbeggkdfjalaa
open Go.ChangeShapes Go.WideShapes Go.ChangeAt Go.RowKit

theorem lin_ok (n lo hi : Int) (w : World) (h1 : lo ≤ n) (h2 : n ≤ hi) :
    Calls Try.prog 12 #[.int .i64 n, .int .i64 lo, .int .i64 hi] w fun e w' => e = .returned (.bool true) ∧ w = w' := by
  go_enter Try.func12, Try.ntmps12
  go_wp2
  go_ret
  exact ⟨rfl, rfl⟩
theorem lin_no (n lo hi : Int) (w : World) (h : n < lo ∨ hi < n) :
    Calls Try.prog 12 #[.int .i64 n, .int .i64 lo, .int .i64 hi] w fun e w' => e = .returned (.bool false) ∧ w = w' := by
  by_cases h1 : lo ≤ n
  · have h2 : ¬ n ≤ hi := by omega
    go_enter Try.func12, Try.ntmps12
    go_wp2
    go_ret
    exact ⟨rfl, rfl⟩
  · go_enter Try.func12, Try.ntmps12
    go_wp2
    go_ret
    exact ⟨rfl, rfl⟩
theorem none_best {n : Nat} {v : Int} (h : Best (NxW n) (startW n) (stepsW []) v) : v = 0 := by
  obtain ⟨⟨k', rfl, rfl⟩, _⟩ := h
  rfl

set_option maxRecDepth 100000 in
set_option maxHeartbeats 2000000 in
theorem law_ListOne (n0 x many : Int) (w : World) :
    Calls Try.prog 5 #[.int .i64 n0, .int .i64 x, .int .i64 many] w fun e w' => e = .returned (.bool true) ∧ Below w.heap.size w w' := by
  go_enter Try.func5, Try.ntmps5
  go_wp2_with fail
  refine (listFact_ok _).mono ?_; rintro e w0 ⟨rfl, hB0⟩
  have hs0 := hB0.size
  by_cases hin : 0 ≤ many ∧ many ≤ 40
  · obtain ⟨M, rfl⟩ : ∃ M : Nat, many = M := ⟨many.toNat, by omega⟩
    have hM : M ≤ 40 := by omega
    go_wp2_with fail
    refine (lin_ok _ _ _ _ hin.1 hin.2).mono ?_; rintro e w' ⟨rfl, rfl⟩
    clear hin
    go_wp2
    go_loopw [8, 9] (fun v8 i wr => ∃ (k : Nat) (A : Option Addr) (c : Nat), k ≤ M ∧ i = .int .i64 k ∧ v8 = .slice A k c ∧ Row wr w0.heap.size 3 (.slice A k c) k ((List.replicate k x).map (Value.int .i64)) ∧ Below w0.heap.size w0 wr) (fun _ i _ => M - (intOf i).toNat)
    case atStart => exact ⟨0, none, 0, by omega, by go_num, rfl, Row.nil_ _ _ _, Below.refl _ _⟩
    case round =>
      obtain ⟨k, A, c, hk, rfl, rfl, R, hB⟩ := hrel
      have hbs := hB.size
      by_cases hlt : k < M
      · go_wp2_with (at_builtin; refine wpList_push _ rfl (.tmp 26) (.tmp 28) _ rfl w0.heap.size 3 _ _ Try.underlying22 infoI rfl (by decide) _ _ _ rfl R (.int .i64 x) rfl rfl (by omega) hbs ?_; intro v' w2 R' g8)
        have FV := Lib.hid R'.form
        go_roundw
        case rel =>
          obtain ⟨A', c', hv, _, _⟩ := FV.out
          refine ⟨k + 1, A', c', by omega, by go_num, hv, ?_, hB.grown g8 hbs (fun b hb => (R.lt b hb).1)⟩
          rw [List.replicate_succ', List.map_append, ← hv]; exact R'
        case measure => simp [intOf]; omega
      · obtain rfl : k = M := by omega
        have hri := Row.reads R
        have hBt : Below w.heap.size w wr := hB0.trans (hB.mono hs0)
        by_cases hg : GoodT n0 (List.replicate k x)
        · obtain ⟨n, rfl⟩ : ∃ n : Nat, n0 = n := ⟨n0.toNat, by have := hg.2.1; omega⟩
          have hn4 : n ≤ 4 := by have := hg.2.2.1; omega
          have HG := Lib.hid hg
          clear hg
          go_wp2_with fail
          refine (lfront_ok n _ _ _ _ _ hri HG.out).mono ?_; rintro e w1 ⟨A1, c1, rfl, R1, hB1⟩
          have hB01 := hBt.trans (hB1.mono hBt.size)
          go_wp2_with fail
          refine (lleast_ok n _ _ _ _ _ (hri.below hB1) HG.out).mono ?_; rintro e w2 ⟨v, rfl, hv, hB2⟩
          have hB02 := hB01.trans (hB2.mono hB01.size)
          clear R1
          rcases k with _ | m
          · obtain rfl := none_best hv
            have e0 : (runL toF n (List.replicate 0 x)).1 = 0 := rfl
            rw [e0]
            clear hv
            go_wp2
            go_ret
            exact ⟨by simp, hB02⟩
          · have hx : 0 ≤ x ∧ x < n := by have := HG.out.2.2.2 x (by simp); omega
            obtain ⟨e1, e2⟩ := same_best hn4 hx hv
            rw [e2]
            clear hv e2
            subst e1
            have hk0 : ¬ ((m + 1 : Nat) : Int) = 0 := by omega
            go_wp2
            go_ret
            exact ⟨by simp, hB02⟩
        · have HG := Lib.hid hg
          clear hg
          go_wp2_with fail
          refine (lfront_no _ _ _ _ _ _ hri (by omega) HG.out).mono ?_; rintro e w1 ⟨rfl, rfl⟩
          go_wp2_with fail
          refine (lleast_no _ _ _ _ _ _ hri (by omega) HG.out).mono ?_; rintro e w2 ⟨rfl, hB2⟩
          go_wp2
          go_ret
          exact ⟨rfl, hBt.trans (hB2.mono hBt.size)⟩
  · go_wp2_with fail
    refine (lin_no _ _ _ _ (by omega)).mono ?_; rintro e w' ⟨rfl, rfl⟩
    go_wp2
    go_ret
    exact ⟨rfl, hB0⟩
end Go.Proofs.Ytccbeggkdfjalaa
