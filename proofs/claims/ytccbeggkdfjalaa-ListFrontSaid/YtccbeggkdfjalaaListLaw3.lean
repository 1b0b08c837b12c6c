/- The walk of ListFront: it returns true, for every input. -/
import Derived.Test.YtccbeggkdfjalaaListLaw
namespace Go.Proofs.Ytccbeggkdfjalaa
open Go.ChangeShapes Go.WideShapes Go.ChangeAt Go.RowKit

set_option maxRecDepth 100000 in
set_option maxHeartbeats 2000000 in
theorem law_ListFront (n0 : Int) (Ac : Option Addr) (m cc : Nat) (a : List Int) (w : World) (hc : RI w Ac m a) (hm : m ≤ 9223372036854775807) :
    Calls Try.prog 4 #[.int .i64 n0, .slice Ac m cc] w fun e w' => e = .returned (.bool true) ∧ Below w.heap.size w w' := by
  go_enter Try.func4, Try.ntmps4
  go_wp2_with fail
  refine (listFact_ok _).mono ?_; rintro e w0 ⟨rfl, hB0⟩
  have hc0 := hc.below hB0
  by_cases hg : GoodT n0 a
  · obtain ⟨n, rfl⟩ : ∃ n : Nat, n0 = n := ⟨n0.toNat, by have := hg.2.1; omega⟩
    have HG := Lib.hid hg
    have hm40 : m ≤ 40 := by have := hc.len; have := hg.1; omega
    have hn4 : n ≤ 4 := by have := hg.2.2.1; omega
    have HM := Lib.hid hc.len
    clear hg
    go_wp2_with fail
    refine (lfront_ok n _ _ _ _ _ hc0 HG.out).mono ?_; rintro e w1 ⟨A1, c1, rfl, R1, hB1⟩
    have hB01 := hB0.trans (hB1.mono hB0.size)
    have hc1 := hc0.below hB1
    rw [front_order a HG.out.2.2.2] at R1
    have hr1 := Row.reads R1
    go_wp2
    go_loopw [9, 10] (fun v9 v10 wr => ∃ (k : Nat) (z : Int) (A9 : Option Addr) (n9 c9 : Nat), k ≤ m ∧ z = (k : Int) - 1 ∧ v10 = .int .i64 z ∧ v9 = .slice A9 n9 c9 ∧ n9 ≤ 40 ∧ Row wr w1.heap.size 3 (.slice A9 n9 c9) n9 ((dd (a.drop k).reverse).map (Value.int .i64)) ∧ Below w1.heap.size w1 wr) (fun _ v10 _ => (intOf v10 + 1).toNat)
    case atStart => exact ⟨m, (m : Int) - 1, none, 0, 0, by omega, rfl, by go_num, rfl, by omega, by rw [List.drop_of_length_le (by rw [HM.out]; omega)]; exact Row.nil_ _ _ _, Below.refl _ _⟩
    case round =>
      obtain ⟨k, z, A9, n9, c9, hk, hz, rfl, rfl, hn9, R9, hB9⟩ := hrel
      have hs9 := hB9.size
      rcases k with _ | j
      · have hzn : ¬ (0 : Int) ≤ z := by omega
        clear hz
        go_wp2
        go_loopw [9, 11] (fun v9 v11 wr => ∃ (x : Nat) (A9 : Option Addr) (n9 c9 : Nat), x ≤ n ∧ v11 = .int .i64 x ∧ v9 = .slice A9 n9 c9 ∧ n9 ≤ 50 ∧ Row wr w1.heap.size 3 (.slice A9 n9 c9) n9 ((dd (a.reverse ++ risingI x)).map (Value.int .i64)) ∧ Below w1.heap.size w1 wr) (fun _ v11 _ => n - (intOf v11).toNat)
        case atStart => exact ⟨0, A9, n9, c9, by omega, by go_num, rfl, by omega, by simpa [risingI] using R9, hB9⟩
        case round =>
          clear R9 hB9 hs9
          obtain ⟨x, A8, n8, c8, hx, rfl, rfl, hn8, R8, hB8⟩ := hrel
          have hs8 := hB8.size
          by_cases hlt : x < n
          · have hsn := Lib.hid (show dd (a.reverse ++ risingI (x + 1)) = if (x : Int) ∈ dd (a.reverse ++ risingI x) then dd (a.reverse ++ risingI x) else dd (a.reverse ++ risingI x) ++ [(x : Int)] by rw [risingI_succ, ← List.append_assoc, dd_snoc])
            have hh := has_any A8 n8 c8 _ (x : Int) wr (Row.reads R8) (by omega)
            have hl8 : (dd (a.reverse ++ risingI x)).length ≤ 44 := by
              have := someN_le (a.reverse ++ risingI x)
              unfold someN at this
              rw [List.length_append, List.length_reverse, HM.out, risingI_len] at this; omega
            have hn8' : n8 ≤ 44 := by have := R8.len; simp at this; omega
            by_cases hx8 : (x : Int) ∈ dd (a.reverse ++ risingI x)
            · rw [(hasB_iff _ _).2 hx8] at hh
              have H8 := Lib.hid hx8
              clear hx8 hl8
              go_wp2_with fail
              refine hh.mono ?_; rintro e w' ⟨rfl, rfl⟩
              go_wp2
              go_roundw
              case rel => exact ⟨x + 1, A8, n8, c8, by omega, by go_num, rfl, by omega, by rw [hsn.out, if_pos H8.out]; exact R8, hB8⟩
              case measure => simp [intOf]; omega
            · rw [(hasB_false _ _).2 hx8] at hh
              have H8 := Lib.hid hx8
              clear hx8 hl8
              go_wp2_with fail
              refine hh.mono ?_; rintro e w' ⟨rfl, rfl⟩
              go_wp2_with (at_builtin; refine wpList_push _ rfl (.tmp 57) (.tmp 59) _ rfl w1.heap.size 3 _ _ Try.underlying22 infoI rfl (by decide) _ _ _ rfl R8 (.int .i64 (x : Int)) rfl rfl (by omega) hs8 ?_; intro v' w2 R' g8)
              have FV := Lib.hid R'.form
              go_roundw
              case rel =>
                obtain ⟨A', c', hv, _, _⟩ := FV.out
                refine ⟨x + 1, A', n8 + 1, c', by omega, by go_num, hv, by omega, ?_, hB8.grown g8 hs8 (fun b hb => (R8.lt b hb).1)⟩
                rw [hsn.out, if_neg H8.out, List.map_append, ← hv]; exact R'
              case measure => simp [intOf]; omega
          · obtain rfl : x = n := by omega
            have P1 := hr1.below hB8
            have E1 : Hid (eqI (dd (a.reverse ++ risingI x)) (dd (a.reverse ++ risingI x)) = true) := by simp [Hid, eqI]
            go_wp2_with fail
            refine (ints_any _ _ _ _ _ _ _ _ _ P1 (Row.reads R8) (by omega) (by omega)).mono ?_; rintro e w' ⟨rfl, d, rfl⟩
            rw [E1.out]
            go_wp2
            go_ret
            exact ⟨rfl, belowN (hB01.trans (hB8.mono hB01.size)) d⟩
      · obtain rfl : z = (j : Int) := by omega
        obtain ⟨ad, x, rfl, hx, hcx⟩ := (hc1.below hB9).at_ (show j < m by omega)
        have hsn := Lib.hid (show dd (a.drop j).reverse = if x ∈ dd (a.drop (j + 1)).reverse then dd (a.drop (j + 1)).reverse else dd (a.drop (j + 1)).reverse ++ [x] by
          obtain ⟨h1, h2⟩ := List.getElem?_eq_some_iff.1 hx.out
          rw [List.drop_eq_getElem_cons h1, h2, List.reverse_cons, dd_snoc])
        have hh := has_any A9 n9 c9 _ x wr (Row.reads R9) (by omega)
        have hl9 : (dd (a.drop (j + 1)).reverse).length + 1 ≤ 40 := by
          have := someN_le (a.drop (j + 1)).reverse
          unfold someN at this
          rw [List.length_reverse, List.length_drop, HM.out] at this; omega
        have hn9' : n9 + 1 ≤ 40 := by have := R9.len; simp at this; omega
        have hjm : (j : Int) < m := by omega
        by_cases hx9 : x ∈ dd (a.drop (j + 1)).reverse
        · rw [(hasB_iff _ _).2 hx9] at hh
          have H9 := Lib.hid hx9
          clear hx9 hl9 hz
          go_wp2_with fail
          refine hh.mono ?_; rintro e w' ⟨rfl, rfl⟩
          go_wp2
          go_roundw
          case rel => exact ⟨j, (j : Int) - 1, A9, n9, c9, by omega, rfl, by go_num, rfl, by omega, by rw [hsn.out, if_pos H9.out]; exact R9, hB9⟩
          case measure => simp [intOf]
        · rw [(hasB_false _ _).2 hx9] at hh
          have H9 := Lib.hid hx9
          clear hx9 hl9 hz
          go_wp2_with fail
          refine hh.mono ?_; rintro e w' ⟨rfl, rfl⟩
          go_wp2_with (at_builtin; refine wpList_push _ rfl (.tmp 41) (.tmp 46) _ rfl w1.heap.size 3 _ _ Try.underlying22 infoI rfl (by decide) _ _ _ rfl R9 (.int .i64 x) rfl rfl (by omega) hs9 ?_; intro v' w2 R' g9)
          have FV := Lib.hid R'.form
          go_roundw
          case rel =>
            obtain ⟨A', c', hv, _, _⟩ := FV.out
            refine ⟨j, (j : Int) - 1, A', n9 + 1, c', by omega, rfl, by go_num, hv, by omega, ?_, hB9.grown g9 hs9 (fun b hb => (R9.lt b hb).1)⟩
            rw [hsn.out, if_neg H9.out, List.map_append, ← hv]; exact R'
          case measure => simp [intOf]
  · have HG := Lib.hid hg
    clear hg
    go_wp2_with fail
    refine (lfront_no _ _ _ _ _ _ hc0 hm HG.out).mono ?_; rintro e w1 ⟨rfl, rfl⟩
    go_wp2
    go_ret
    exact ⟨rfl, hB0⟩
end Go.Proofs.Ytccbeggkdfjalaa
