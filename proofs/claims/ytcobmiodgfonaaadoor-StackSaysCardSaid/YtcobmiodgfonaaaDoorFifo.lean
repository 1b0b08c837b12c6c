/- The walk of fifo.Run: what it returns, for every input. -/
import Derived.Test.YtcobmiodgfonaaaDoorInts
import Derived.Test.YtcobmiodgfonaaaDoorLib
import Derived.Test.YtcobmiodgfonaaaDoorFifoPlain
import Derived.Outline
namespace Go.Proofs.YtcobmiodgfonaaaDoor
open Go.ChangeShapes Go.WideShapes Go.ChangeAt Go.RowKit

theorem fifo_no (A : Option Addr) (n c : Nat) (l : List Int) (slots : Int) (w : World) (h : RI w A n l) (hn : n ≤ 9223372036854775807) (hg : ¬ GoodReqs l slots) :
    Calls Tryd.prog 20 #[.slice A n c, .int .i64 slots] w fun e w' =>
      e = .returned (.tuple #[.slice none 0 0, .slice none 0 0, .iface 57 (.int .i64 (reqsE l slots))]) ∧ w = w' := by
  have HG := Lib.hid hg
  clear hg
  go_enter Tryd.func20, Tryd.ntmps20
  go_wp2_with fail
  refine (reqs_no _ _ _ _ _ _ h hn HG.out).mono ?_; rintro e w' ⟨rfl, rfl⟩
  go_wp2
  go_ret3
  exact ⟨rfl, rfl⟩

def FifoInv (slots n : Nat) (l : List Int) (B : Nat) (w wr : World) (v8 : Value) (A9 : Option Addr) (n9 c9 k : Nat) : Prop :=
  ∃ hits held, fifoRun slots (l.take k) = (hits, held) ∧ Row wr B 4 v8 k (hits.map Value.bool) ∧ Row wr B 3 (.slice A9 n9 c9) n9 (held.map (Value.int .i64)) ∧ n9 ≤ slots ∧ Below w.heap.size w wr

set_option maxHeartbeats 1000000 in
theorem fifo_ok (A : Option Addr) (n c : Nat) (l : List Int) (slots : Int) (w : World) (h : RI w A n l) (hg : GoodReqs l slots) :
    Calls Tryd.prog 20 #[.slice A n c, .int .i64 slots] w fun e w' =>
      Res2 w w' e n (fifoRun slots.toNat l).1 (fifoRun slots.toNat l).2 := by
  obtain ⟨s, rfl⟩ : ∃ s : Nat, slots = s := ⟨slots.toNat, by have := hg.2.2.1; omega⟩
  have HL := Lib.hid h.len
  have HG := Lib.hid hg
  have hn : n ≤ 40 := by have := HL.out; have := hg.1; omega
  have hs1 : 1 ≤ s := by have := hg.2.2.1; omega
  have hs2 : s ≤ 8 := by have := hg.2.2.2; omega
  clear hg
  go_enter Tryd.func20, Tryd.ntmps20
  go_wp2_with fail
  refine (reqs_ok _ _ _ _ _ _ h HG.out).mono ?_; rintro e w' ⟨rfl, rfl⟩
  go_wp2
  go_loopw [8, 9, 11, 12, 21] (fun v8 v9 _ _ i wr => ∃ k : Nat, ∃ A9 n9 c9, k ≤ n ∧ i = .int .i64 k ∧ v9 = .slice A9 n9 c9 ∧ FifoInv s n l w.heap.size w wr v8 A9 n9 c9 k) (fun _ _ _ _ i _ => n - (intOf i).toNat)
  case atStart => exact ⟨0, none, 0, 0, by omega, by go_num, rfl, [], [], rfl, Row.nil_ _ _ _, Row.nil_ _ _ _, by omega, Below.refl _ _⟩
  case round =>
    obtain ⟨k, A9, n9, c9, hk, rfl, rfl, hits, held, HF, R8, R9, hn9, hB⟩ := hrel
    have HF' := Lib.hid HF
    clear HF
    by_cases hlt : k < n
    · obtain ⟨ad, y, rfl, HY, hc⟩ := (h.below hB).at_ hlt
      have hbs := hB.size
      by_cases hm : y ∈ held
      · have HB := Lib.hid ((hasB_iff held y).2 hm)
        have HN := Lib.hid (show fifoRun s (l.take (k + 1)) = (hits ++ [true], held) by unfold fifoRun at HF' ⊢; rw [foldl_take_succ _ _ _ _ _ HY.out, HF'.out]; simp [fifoStep, hm])
        clear hm
        go_wp2_with fail
        refine (contains_any _ _ _ _ _ _ (Row.reads R9) (by omega)).mono ?_; rintro e w' ⟨rfl, rfl⟩
        rw [HB.out]
        go_wp2_with (at_builtin; refine wpList_push _ rfl (.tmp 28) (.tmp 30) _ rfl w.heap.size 4 _ _ Tryd.underlying24 infoB rfl (by decide) _ _ _ rfl R8 (.bool true) rfl rfl (by omega) hbs ?_; intro v' w1 R8' g8)
        have R9' := Row.kept R9 g8 R8 (by decide)
        have hB' := hB.grown g8 hbs (fun b hb => (R8.lt b hb).1)
        go_roundw
        case rel => exact ⟨k + 1, A9, n9, c9, by omega, by go_num, rfl, hits ++ [true], held, HN.out, by simpa using R8', R9', hn9, hB'⟩
        case measure => simp [intOf]; omega
      · have HB := Lib.hid ((hasB_false held y).2 hm)
        have hl9 : held.length = n9 := by have := R9.len; simpa using this
        by_cases hfull : n9 = s
        · subst hfull
          have HN := Lib.hid (show fifoRun n9 (l.take (k + 1)) = (hits ++ [false], held.drop 1 ++ [y]) by unfold fifoRun at HF' ⊢; rw [foldl_take_succ _ _ _ _ _ HY.out, HF'.out]; simp [fifoStep, hm, hl9])
          clear hm hl9
          go_wp2_with fail
          refine (contains_any _ _ _ _ _ _ (Row.reads R9) (by omega)).mono ?_; rintro e w' ⟨rfl, rfl⟩
          rw [HB.out]
          go_wp2_with (at_builtin; refine wpList_push _ rfl (.tmp 28) (.tmp 30) _ rfl w.heap.size 4 _ _ Tryd.underlying24 infoB rfl (by decide) _ _ _ rfl R8 (.bool false) rfl rfl (by omega) hbs ?_; intro v' w1 R8' g8)
          have R9' := Row.kept R9 g8 R8 (by decide)
          have hB1 := hB.grown g8 hbs (fun b hb => (R8.lt b hb).1)
          have hbs1 := hB1.size
          refine (delete_own _ _ _ _ held 0 1 _ R9' (by omega) (by omega) (by omega)).mono ?_; rintro e w2 ⟨v2, rfl, R9a, g9, hv2⟩
          have R8a := Row.kept R8' g9 R9' (by decide)
          have hB2 := hB1.grown g9 hbs1 (fun b hb => (R9'.lt b hb).1)
          have hbs2 := hB2.size
          have HV2 := Lib.hid hv2
          clear hv2
          simp only [List.take_zero, List.nil_append] at R9a
          go_wp2_with (at_builtin; refine wpList_push _ rfl (.tmp 39) (.tmp 41) _ rfl w.heap.size 3 _ _ Tryd.underlying22 infoI rfl (by decide) _ _ _ rfl R9a (.int .i64 y) rfl rfl (by omega) hbs2 ?_; intro v3 w3 R9b g10)
          have HV3 := Lib.hid (R9b.form)
          go_roundw
          case rel =>
            obtain ⟨A', c', hv3, _, _⟩ := HV3.out
            have hB3 := hB2.grown g10 hbs2 (fun b hb => (R9a.lt b hb).1)
            have R8b := Row.kept R8a g10 R9a (by decide)
            refine ⟨k + 1, A', _, c', by omega, by go_num, hv3, hits ++ [false], held.drop 1 ++ [y], HN.out, by simpa using R8b, ?_, by omega, hB3⟩
            rw [hv3] at R9b
            simpa using R9b
          case measure => simp [intOf]; omega
        · have HN := Lib.hid (show fifoRun s (l.take (k + 1)) = (hits ++ [false], held ++ [y]) by unfold fifoRun at HF' ⊢; rw [foldl_take_succ _ _ _ _ _ HY.out, HF'.out]; simp [fifoStep, hm, hl9, hfull])
          clear hm hl9
          go_wp2_with fail
          refine (contains_any _ _ _ _ _ _ (Row.reads R9) (by omega)).mono ?_; rintro e w' ⟨rfl, rfl⟩
          rw [HB.out]
          go_wp2_with (first
            | (at_builtin; refine wpList_push _ rfl (.tmp 28) (.tmp 30) _ rfl w.heap.size 4 _ _ Tryd.underlying24 infoB rfl (by decide) _ _ _ rfl R8 (.bool false) rfl rfl (by omega) hbs ?_; intro v' w1 R8' g8
               have R9' := Row.kept R9 g8 R8 (by decide)
               have hB1 := hB.grown g8 hbs (fun b hb => (R8.lt b hb).1)
               have hbs1 := hB1.size)
            | (at_builtin; refine wpList_push _ rfl (.tmp 39) (.tmp 41) _ rfl w.heap.size 3 _ _ Tryd.underlying22 infoI rfl (by decide) _ _ _ rfl R9' (.int .i64 y) rfl rfl (by omega) hbs1 ?_; intro v3 w3 R9b g10
               have HV3 := Lib.hid (R9b.form)))
          go_roundw
          case rel =>
            obtain ⟨A', c', hv3, _, _⟩ := HV3.out
            have hB3 := hB1.grown g10 hbs1 (fun b hb => (R9'.lt b hb).1)
            have R8b := Row.kept R8' g10 R9' (by decide)
            refine ⟨k + 1, A', _, c', by omega, by go_num, hv3, hits ++ [false], held ++ [y], HN.out, by simpa using R8b, ?_, by omega, hB3⟩
            rw [hv3] at R9b
            simpa using R9b
          case measure => simp [intOf]; omega
    · have HE := Lib.hid (show k = n by omega)
      have hl9 : held.length = n9 := by have := R9.len; simpa using this
      have HL9 := Lib.hid hl9
      clear hl9
      have F8 := Lib.hid R8.form
      go_wp2
      go_ret3
      have e1 : fifoRun s l = (hits, held) := by have := HF'.out; rwa [List.take_of_length_le (by have := HL.out; have := HE.out; omega)] at this
      have e2 := HE.out
      obtain ⟨A1, c1, hv8, _, _⟩ := F8.out
      rw [Int.toNat_natCast, e1]
      refine ⟨A1, c1, A9, n9, c9, ?_, ?_, R9, by omega, hB⟩
      · rw [← e2, ← hv8]; rfl
      · rw [← e2, ← hv8]; exact R8
end Go.Proofs.YtcobmiodgfonaaaDoor
