/- The walks of larderwickref1.Flush and .Fifo: what each returns. -/
import Derived.Test.YtcobmiodgfonaaaDoorRefStarts
import Derived.Test.YtcobmiodgfonaaaDoorFifoLaw
import Derived.Test.YtcobmiodgfonaaaDoorFlushPlain
import Derived.Deep.QuietTactic
import Derived.BigQuiet
namespace Go.Proofs.YtcobmiodgfonaaaDoor
open Go.ChangeShapes Go.WideShapes Go.ChangeAt Go.RowKit

/-- Two lists to be read, in new memory. -/
def ReadRes (w w' : World) (e : Ending) (n : Nat) (hits : List Bool) (held : List Int) : Prop :=
  ∃ A1 c1 A2 n2 c2, e = .returned (.tuple #[.slice A1 n c1, .slice A2 n2 c2]) ∧ RB w' A1 n hits ∧ RI w' A2 n2 held ∧ n2 ≤ 1048576 ∧ Below w.heap.size w w'

theorem flush_fst_succ (s : Nat) (l : List Int) (k : Nat) (y : Int) (h : l[k]? = some y) : (flushRun s (l.take (k + 1))).1 = (flushRun s (l.take k)).1 ++ [hasB (phSet s (l.take k)) y] := by
  rw [take_succ_of h]
  unfold flushRun phSet
  rw [simG_snoc, simG_snd]

set_option maxHeartbeats 2000000 in
theorem rflush_ok (A : Option Addr) (n c : Nat) (l : List Int) (s : Nat) (w0 : World) (hI : RI w0 A n l) (hn : n ≤ 40) (hs1 : 1 ≤ s) (hs2 : s ≤ 8) :
    Calls Tryd.prog 12 #[.slice A n c, .int .i64 (s : Int)] w0 fun e w' => ReadRes w0 w' e n (flushRun s l).1 (flushRun s l).2 := by
  have HL := Lib.hid hI.len
  go_enter Tryd.func12, Tryd.ntmps12
  go_wp2_with fail
  refine (rstarts_ok _ _ _ _ _ _ hI hn hs1 hs2).mono ?_; rintro e w ⟨AS, ms, cs, rfl, RS, hms, hcs, hB0⟩
  have h := hI.below hB0
  have RSr := Lib.hid (Row.reads RS)
  clear RS
  go_wp2
  go_loopw [7, 8, 9, 10] (fun v7 v8 i _ wr => ∃ k n8 c8 : Nat, ∃ A8, k ≤ n ∧ i = .int .i64 k ∧ v8 = .slice A8 n8 c8 ∧ n8 ≤ 8 ∧ Row wr w.heap.size 4 v7 k ((flushRun s (l.take k)).1.map Value.bool) ∧ Row wr w.heap.size 3 (.slice A8 n8 c8) n8 ((phSet s (l.take k)).map (Value.int .i64)) ∧ Below w.heap.size w wr) (fun _ _ i _ _ => n - (intOf i).toNat)
  case atStart => exact ⟨0, 0, 0, none, by omega, by go_num, rfl, by omega, by simpa [flushRun, simG] using Row.nil_ _ _ _, by simpa [phSet] using Row.nil_ _ _ _, Below.refl _ _⟩
  case round =>
    obtain ⟨k, n8, c8, A8, hk, rfl, rfl, hn8, R7, R8, hB⟩ := hrel
    have hbs := hB.size
    by_cases hlt : k < n
    · obtain ⟨ad, y, rfl, HY, hc⟩ := (h.below hB).at_ hlt
      have HST := Lib.hid (has_starts s l n k hlt)
      have HF := Lib.hid (flush_fst_succ s l k y HY.out)
      have hl8 : (phSet s (l.take k)).length = n8 := by have := R8.len; simpa using this
      have hle := phSet_le s hs1 (l.take (k + 1))
      have HIS := Lib.hid (isStart_cases s l k y HY.out)
      have HPS := Lib.hid (phSet_take_succ s l k y HY.out)
      have hbb : Hid (∀ d, Calls Tryd.prog 35 #[.slice none 0 0, .int .i64 y] d fun e w' => e = .returned (.bool (hasB [] y)) ∧ d = w') := Lib.hid (fun d => has_any none 0 0 [] y d RI.nil_ (by omega))
      cases hst : isStart s l k
      · have hIS : ¬ (k = 0 ∨ (y ∉ phSet s (l.take k) ∧ (phSet s (l.take k)).length = s)) := fun hh => by have := HIS.out.2 hh; rw [hst] at this; cases this
        rw [hst] at HST
        by_cases hm : y ∈ phSet s (l.take k)
        · have HB := Lib.hid ((hasB_iff _ _).2 hm)
          have e2 : Hid (phSet s (l.take (k + 1)) = phSet s (l.take k)) := Lib.hid (by rw [HPS.out, flushG, if_pos hm])
          clear hm hIS hle hl8 hst
          go_wp2_with fail
          refine (has_any _ _ _ _ _ _ (RSr.out.below hB) (by omega)).mono ?_; rintro e w' ⟨rfl, rfl⟩
          rw [HST.out]
          go_wp2_with fail
          refine (has_any _ _ _ _ _ _ (Row.reads R8) (by omega)).mono ?_; rintro e w' ⟨rfl, rfl⟩
          rw [HB.out]
          rw [HB.out] at HF
          go_wp2_with (at_builtin; refine wpList_push _ rfl (.tmp 29) (.tmp 31) _ rfl w.heap.size 4 _ _ Tryd.underlying24 infoB rfl (by decide) _ _ _ rfl R7 (.bool true) rfl rfl (by omega) hbs ?_; intro v' w1 R7' g7)
          go_roundw
          case rel => exact ⟨k + 1, n8, c8, A8, by omega, by go_num, rfl, hn8, by rw [HF.out, List.map_append]; exact R7', by rw [e2.out]; exact Row.kept R8 g7 R7 (by decide), hB.grown g7 hbs (fun b hb => (R7.lt b hb).1)⟩
          case measure => simp [intOf]; omega
        · have HB := Lib.hid ((hasB_false _ _).2 hm)
          have hns : (phSet s (l.take k)).length ≠ s := fun e => hIS (.inr ⟨hm, e⟩)
          have e2 : Hid (phSet s (l.take (k + 1)) = phSet s (l.take k) ++ [y]) := Lib.hid (by rw [HPS.out, flushG, if_neg hm, if_neg hns])
          have hn8' : n8 + 1 ≤ 8 := by rw [e2.out, List.length_append, List.length_singleton] at hle; omega
          clear hm hIS hle hl8 hst hns
          go_wp2_with fail
          refine (has_any _ _ _ _ _ _ (RSr.out.below hB) (by omega)).mono ?_; rintro e w' ⟨rfl, rfl⟩
          rw [HST.out]
          go_wp2_with fail
          refine (has_any _ _ _ _ _ _ (Row.reads R8) (by omega)).mono ?_; rintro e w' ⟨rfl, rfl⟩
          rw [HB.out]
          rw [HB.out] at HF
          go_wp2_with (first
            | (at_builtin; refine wpList_push _ rfl (.tmp 29) (.tmp 31) _ rfl w.heap.size 4 _ _ Tryd.underlying24 infoB rfl (by decide) _ _ _ rfl R7 (.bool false) rfl rfl (by omega) hbs ?_; intro v' w1 R7' g7; have hB1 := hB.grown g7 hbs (fun b hb => (R7.lt b hb).1); have hb1 := hB1.size; have R8' := Row.kept R8 g7 R7 (by decide); have hc1 := RI.cellAt (h.below hB1) HY.out)
            | (at_builtin; refine wpList_push _ rfl (.tmp 35) (.tmp 40) _ rfl w.heap.size 3 _ _ Tryd.underlying22 infoI rfl (by decide) _ _ _ rfl R8' (.int .i64 y) rfl rfl (by omega) hb1 ?_; intro v'' w2 R8'' g8))
          have F8 := Lib.hid R8''.form
          go_roundw
          case rel =>
            obtain ⟨A', c', hv, _, _⟩ := F8.out
            refine ⟨k + 1, n8 + 1, c', A', by omega, by go_num, hv, hn8', by rw [HF.out, List.map_append]; exact Row.kept R7' g8 R8' (by decide), ?_, hB1.grown g8 hb1 (fun b hb => (R8'.lt b hb).1)⟩
            rw [e2.out, ← hv, List.map_append]; exact R8''
          case measure => simp [intOf]; omega
      · have hIS := HIS.out.1 hst
        rw [hst] at HST
        have hm : y ∉ phSet s (l.take k) := by
          rcases hIS with h0 | h0
          · subst h0; simp [phSet]
          · exact h0.1
        have HB := Lib.hid ((hasB_false _ _).2 hm)
        have e2 : Hid (phSet s (l.take (k + 1)) = [y]) := Lib.hid (step_start s l k y hs1 HY.out hIS).2
        have HN : Hid (hasB [] y = false) := by simp [Hid, hasB]
        clear hm hIS hle hl8 hst
        go_wp2_with fail
        refine (has_any _ _ _ _ _ _ (RSr.out.below hB) (by omega)).mono ?_; rintro e w' ⟨rfl, rfl⟩
        rw [HST.out]
        go_wp2_with fail
        refine (hbb.out _).mono ?_; rintro e w' ⟨rfl, rfl⟩
        rw [HN.out]
        rw [HB.out] at HF
        go_wp2_with (first
          | (at_builtin; refine wpList_push _ rfl (.tmp 29) (.tmp 31) _ rfl w.heap.size 4 _ _ Tryd.underlying24 infoB rfl (by decide) _ _ _ rfl R7 (.bool false) rfl rfl (by omega) hbs ?_; intro v' w1 R7' g7; have hB1 := hB.grown g7 hbs (fun b hb => (R7.lt b hb).1); have hb1 := hB1.size; have R8' := Row.nil_ w1 w.heap.size 3; have hc1 := RI.cellAt (h.below hB1) HY.out)
          | (at_builtin; refine wpList_push _ rfl (.tmp 35) (.tmp 40) _ rfl w.heap.size 3 _ _ Tryd.underlying22 infoI rfl (by decide) (.slice none 0 0) 0 [] rfl R8' (.int .i64 y) rfl rfl (by omega) hb1 ?_; intro v'' w2 R8'' g8))
        have F8 := Lib.hid R8''.form
        go_roundw
        case rel =>
          obtain ⟨A', c', hv, _, _⟩ := F8.out
          refine ⟨k + 1, 0 + 1, c', A', by omega, by go_num, hv, by omega, by rw [HF.out, List.map_append]; exact Row.kept R7' g8 R8' (by decide), ?_, hB1.grown g8 hb1 (fun b hb => (R8'.lt b hb).1)⟩
          rw [e2.out, ← hv]; simpa using R8''
        case measure => simp [intOf]; omega
    · have HE := Lib.hid (show k = n by omega)
      have F7 := Lib.hid R7.form
      have HT : Hid (l.take k = l) := Lib.hid (List.take_of_length_le (by have := HL.out; omega))
      go_wp2
      obtain ⟨A1, c1, hv, _, _⟩ := F7.out
      refine bodyPost_ret (v := .tuple #[u7, .slice A8 n8 c8]) (by simp [results, Tryd.results12, go_sem]) rfl ?_
      rw [hv] at R7
      rw [HT.out] at R7 R8
      refine ⟨A1, c1, A8, n8, c8, by rw [hv, HE.out], ?_, ?_, by omega, hB0.trans (hB.mono hB0.size)⟩
      · rw [← HE.out]; exact Row.readsB R7
      · rw [flush_snd]; exact Row.reads R8

set_option maxHeartbeats 2000000 in
theorem rfifo_ok (A : Option Addr) (n c : Nat) (l : List Int) (s : Nat) (w : World) (h : RI w A n l) (hn : n ≤ 40) (hs1 : 1 ≤ s) (hs2 : s ≤ 8) :
    Calls Tryd.prog 19 #[.slice A n c, .int .i64 (s : Int)] w fun e w' => ReadRes w w' e n (fifoRun s l).1 (fifoRun s l).2 := by
  have HL := Lib.hid h.len
  go_enter Tryd.func19, Tryd.ntmps19
  go_wp2
  go_loopw [6, 7, 8, 9, 10] (fun v6 v7 i _ _ wr => ∃ k n7 c7 : Nat, ∃ A7, k ≤ n ∧ i = .int .i64 k ∧ v7 = .slice A7 n7 c7 ∧ n7 ≤ k ∧ Row wr w.heap.size 4 v6 k ((fifoRun s (l.take k)).1.map Value.bool) ∧ Row wr w.heap.size 3 (.slice A7 n7 c7) n7 ((fifoCame s (l.take k)).map (Value.int .i64)) ∧ Below w.heap.size w wr) (fun _ _ i _ _ _ => n - (intOf i).toNat)
  case atStart => exact ⟨0, 0, 0, none, by omega, by go_num, rfl, by omega, by simpa [fifoRun] using Row.nil_ _ _ _, by simpa [fifoCame] using Row.nil_ _ _ _, Below.refl _ _⟩
  case round =>
    obtain ⟨k, n7, c7, A7, hk, rfl, rfl, hn7, R6, R7, hB⟩ := hrel
    have hbs := hB.size
    have hlc : (fifoCame s (l.take k)).length = n7 := by have := R7.len; simpa using this
    have HLC := Lib.hid hlc
    have HHeld := Lib.hid (fifo_held s hs1 (l.take k))
    obtain ⟨A', c', hcc, hcap, _⟩ := R7.form
    have hc7 : n7 ≤ c7 := by injection hcc with _ _ h3; omega
    clear hcc hlc
    by_cases hlt : k < n
    · obtain ⟨ad, y, rfl, HY, hc⟩ := (h.below hB).at_ hlt
      have HF : Hid ((fifoRun s (l.take (k + 1))).1 = (fifoRun s (l.take k)).1 ++ [hasB (fifoRun s (l.take k)).2 y]) := Lib.hid (by
        rw [take_succ_of HY.out, fifoRun_snoc, fifoStep]
        by_cases hm : y ∈ (fifoRun s (l.take k)).2
        · rw [if_pos hm, (hasB_iff _ _).2 hm]
        · rw [if_neg hm, (hasB_false _ _).2 hm])
      have HC : Hid (fifoCame s (l.take (k + 1)) = if y ∈ (fifoRun s (l.take k)).2 then fifoCame s (l.take k) else fifoCame s (l.take k) ++ [y]) := Lib.hid (by rw [take_succ_of HY.out, fifoCame_snoc])
      by_cases hsc : s ≤ n7
      · obtain ⟨f, rfl⟩ : ∃ f, n7 = f + s := ⟨n7 - s, by omega⟩
        have hcf : ¬ c7 = f := by omega
        have hx := RI.cut (Row.reads R7) (k := f) (cap := c7) (by omega) hc7
        rw [if_neg hcf, Nat.add_sub_cancel_left] at hx
        have HX := Lib.hid hx
        clear hx
        have hf0 : (0 : Int) ≤ f := by omega
        have hf1 : (f : Int) ≤ (f : Int) + s := by omega
        have HQ : Hid ((fifoCame s (l.take k)).drop f = (fifoRun s (l.take k)).2) := Lib.hid (by rw [HHeld.out, HLC.out, Nat.add_sub_cancel])
        go_wp2
        go_quiet ((go_at_call 35; exact Calls.quiet_of_same (has_q _ _ _ _ _ _ (RI.drewN HX.out _) (by omega))))
        rw [HQ.out]
        by_cases hm : y ∈ (fifoRun s (l.take k)).2
        · have HB := Lib.hid ((hasB_iff _ _).2 hm)
          rw [if_pos hm] at HC
          clear hm
          rw [HB.out]
          rw [HB.out] at HF
          go_wp2_with (at_builtin; refine wpList_push _ rfl (.tmp 31) (.tmp 33) _ rfl w.heap.size 4 _ _ Tryd.underlying24 infoB rfl (by decide) _ _ _ rfl (R6.drewN _) (.bool true) rfl rfl (by omega) hbs ?_; intro v' w1 R6' g6)
          go_roundw
          case rel => exact ⟨k + 1, f + s, c7, A7, by omega, by go_num, rfl, by omega, by rw [HF.out, List.map_append]; exact R6', by rw [HC.out]; exact Row.kept (R7.drewN _) g6 (R6.drewN _) (by decide), (belowN hB _).grown g6 hbs (fun b hb => (R6.lt b hb).1)⟩
          case measure => simp [intOf]; omega
        · have HB := Lib.hid ((hasB_false _ _).2 hm)
          rw [if_neg hm] at HC
          clear hm
          rw [HB.out]
          rw [HB.out] at HF
          have hBd := fun d => belowN hB d
          go_wp2_with (first
            | (at_builtin; refine wpList_push _ rfl (.tmp 31) (.tmp 33) _ rfl w.heap.size 4 _ _ Tryd.underlying24 infoB rfl (by decide) _ _ _ rfl (R6.drewN _) (.bool false) rfl rfl (by omega) hbs ?_; intro v' w1 R6' g6; have hB1 := (hBd _).grown g6 hbs (fun b hb => (R6.lt b hb).1); have hb1 := hB1.size; have R7' := Row.kept (R7.drewN _) g6 (R6.drewN _) (by decide); have hc1 := RI.cellAt (h.below hB1) HY.out)
            | (at_builtin; refine wpList_push _ rfl (.tmp 37) (.tmp 42) _ rfl w.heap.size 3 _ _ Tryd.underlying22 infoI rfl (by decide) _ _ _ rfl R7' (.int .i64 y) rfl rfl (by omega) hb1 ?_; intro v'' w2 R7'' g7))
          have F7 := Lib.hid R7''.form
          go_roundw
          case rel =>
            obtain ⟨A', c', hv, _, _⟩ := F7.out
            refine ⟨k + 1, f + s + 1, c', A', by omega, by go_num, hv, by omega, by rw [HF.out, List.map_append]; exact Row.kept R6' g7 R7' (by decide), ?_, hB1.grown g7 hb1 (fun b hb => (R7'.lt b hb).1)⟩
            rw [HC.out, ← hv, List.map_append]; exact R7''
          case measure => simp [intOf]; omega
      · have hlt0 : (n7 : Int) - s < 0 := by omega
        have HQ : Hid (fifoCame s (l.take k) = (fifoRun s (l.take k)).2) := Lib.hid (by rw [HHeld.out, HLC.out, show n7 - s = 0 by omega, List.drop_zero])
        have HX := Lib.hid (Row.reads R7)
        go_wp2
        go_quiet ((go_at_call 35; exact Calls.quiet_of_same (has_q _ _ _ _ _ _ (RI.drewN HX.out _) (by omega))))
        rw [HQ.out]
        by_cases hm : y ∈ (fifoRun s (l.take k)).2
        · have HB := Lib.hid ((hasB_iff _ _).2 hm)
          rw [if_pos hm] at HC
          clear hm
          rw [HB.out]
          rw [HB.out] at HF
          go_wp2_with (at_builtin; refine wpList_push _ rfl (.tmp 31) (.tmp 33) _ rfl w.heap.size 4 _ _ Tryd.underlying24 infoB rfl (by decide) _ _ _ rfl (R6.drewN _) (.bool true) rfl rfl (by omega) hbs ?_; intro v' w1 R6' g6)
          go_roundw
          case rel => exact ⟨k + 1, n7, c7, A7, by omega, by go_num, rfl, by omega, by rw [HF.out, List.map_append]; exact R6', by rw [HC.out]; exact Row.kept (R7.drewN _) g6 (R6.drewN _) (by decide), (belowN hB _).grown g6 hbs (fun b hb => (R6.lt b hb).1)⟩
          case measure => simp [intOf]; omega
        · have HB := Lib.hid ((hasB_false _ _).2 hm)
          rw [if_neg hm] at HC
          clear hm
          rw [HB.out]
          rw [HB.out] at HF
          have hBd := fun d => belowN hB d
          go_wp2_with (first
            | (at_builtin; refine wpList_push _ rfl (.tmp 31) (.tmp 33) _ rfl w.heap.size 4 _ _ Tryd.underlying24 infoB rfl (by decide) _ _ _ rfl (R6.drewN _) (.bool false) rfl rfl (by omega) hbs ?_; intro v' w1 R6' g6; have hB1 := (hBd _).grown g6 hbs (fun b hb => (R6.lt b hb).1); have hb1 := hB1.size; have R7' := Row.kept (R7.drewN _) g6 (R6.drewN _) (by decide); have hc1 := RI.cellAt (h.below hB1) HY.out)
            | (at_builtin; refine wpList_push _ rfl (.tmp 37) (.tmp 42) _ rfl w.heap.size 3 _ _ Tryd.underlying22 infoI rfl (by decide) _ _ _ rfl R7' (.int .i64 y) rfl rfl (by omega) hb1 ?_; intro v'' w2 R7'' g7))
          have F7 := Lib.hid R7''.form
          go_roundw
          case rel =>
            obtain ⟨A', c', hv, _, _⟩ := F7.out
            refine ⟨k + 1, n7 + 1, c', A', by omega, by go_num, hv, by omega, by rw [HF.out, List.map_append]; exact Row.kept R6' g7 R7' (by decide), ?_, hB1.grown g7 hb1 (fun b hb => (R7'.lt b hb).1)⟩
            rw [HC.out, ← hv, List.map_append]; exact R7''
          case measure => simp [intOf]; omega
    · have HE := Lib.hid (show k = n by omega)
      have F6 := Lib.hid R6.form
      have HT : Hid (l.take k = l) := Lib.hid (List.take_of_length_le (by have := HL.out; omega))
      by_cases hsc : s < n7
      · obtain ⟨f, rfl⟩ : ∃ f, n7 = f + s := ⟨n7 - s, by omega⟩
        have hcf : ¬ c7 = f := by omega
        have hx := RI.cut (Row.reads R7) (k := f) (cap := c7) (by omega) hc7
        rw [if_neg hcf, Nat.add_sub_cancel_left] at hx
        have HX := Lib.hid hx
        clear hx
        have hf0 : (0 : Int) ≤ f := by omega
        have hf1 : (f : Int) ≤ (f : Int) + s := by omega
        have hgt : (s : Int) < (f : Int) + s := by omega
        go_wp2
        go_quiet (fail)
        go_wp2
        obtain ⟨A1, c1, hv, _, _⟩ := F6.out
        refine bodyPost_ret (v := .tuple #[u6, .slice (A7.map (·.add f)) s (c7 - f)]) (by simp [results, Tryd.results19, go_sem]) rfl ?_
        rw [hv] at R6
        rw [HT.out] at R6
        have e3 := HHeld.out
        rw [HLC.out, Nat.add_sub_cancel, HT.out] at e3
        refine ⟨A1, c1, _, s, _, by rw [hv, HE.out], ?_, ?_, by omega, belowN hB _⟩
        · rw [← HE.out]; exact (Row.readsB R6).drewN _
        · rw [e3, ← HT.out]; exact HX.out.drewN _
      · have hle : ¬ (s : Int) < (n7 : Int) := by omega
        go_wp2
        obtain ⟨A1, c1, hv, _, _⟩ := F6.out
        refine bodyPost_ret (v := .tuple #[u6, .slice A7 n7 c7]) (by simp [results, Tryd.results19, go_sem]) rfl ?_
        rw [hv] at R6
        rw [HT.out] at R6
        have e3 := HHeld.out
        rw [HLC.out, show n7 - s = 0 by omega, List.drop_zero, HT.out] at e3
        refine ⟨A1, c1, A7, n7, c7, by rw [hv, HE.out], ?_, ?_, by omega, hB⟩
        · rw [← HE.out]; exact Row.readsB R6
        · rw [e3]; have := Row.reads R7; rwa [HT.out] at this
end Go.Proofs.YtcobmiodgfonaaaDoor
