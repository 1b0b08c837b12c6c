/- The walks of larderwickref1.Starts and .Flush: what each returns. -/
import Derived.Test.YtcobmiodgfonaaaDoorInts
import Derived.Test.YtcobmiodgfonaaaDoorRefPages
import Derived.Test.YtcobmiodgfonaaaDoorInfo
import Derived.Test.YtcobmiodgfonaaaDoorPhasePlain
import Derived.Outline
namespace Go.Proofs.YtcobmiodgfonaaaDoor
open Go.ChangeShapes Go.WideShapes Go.ChangeAt Go.RowKit

def RowRes (w w' : World) (e : Ending) (out : List Int) : Prop :=
  ∃ A1 m c1, e = .returned (.slice A1 m c1) ∧ Row w' w.heap.size 3 (.slice A1 m c1) m (out.map (Value.int .i64)) ∧ m ≤ 1048576 ∧ m ≤ c1 ∧ Below w.heap.size w w'

def RStartInv (s : Nat) (l : List Int) (w wr : World) (v5 : Value) (m5 : Nat) (A6 : Option Addr) (n6 c6 k : Nat) : Prop :=
  Row wr w.heap.size 3 v5 m5 ((startsL s l k).map (Value.int .i64)) ∧ Row wr w.heap.size 3 (.slice A6 n6 c6) n6 ((phSet s (l.take k)).map (Value.int .i64)) ∧ Apart v5.ownBlock (Value.slice A6 n6 c6).ownBlock ∧ Below w.heap.size w wr

set_option maxHeartbeats 2000000 in
theorem rstarts_ok (A : Option Addr) (n c : Nat) (l : List Int) (s : Nat) (w : World) (h : RI w A n l) (hn : n ≤ 40) (hs1 : 1 ≤ s) (hs2 : s ≤ 8) :
    Calls Tryd.prog 21 #[.slice A n c, .int .i64 (s : Int)] w fun e w' => RowRes w w' e (startsL s l n) := by
  have HL := Lib.hid h.len
  go_enter Tryd.func21, Tryd.ntmps21
  go_wp2
  go_loopw [5, 6, 7] (fun v5 v6 i wr => ∃ k m5 n6 c6 : Nat, ∃ A6, k ≤ n ∧ i = .int .i64 k ∧ v6 = .slice A6 n6 c6 ∧ m5 ≤ k ∧ n6 ≤ 8 ∧ RStartInv s l w wr v5 m5 A6 n6 c6 k) (fun _ _ i _ => n - (intOf i).toNat)
  case atStart => exact ⟨0, 0, 0, 0, none, by omega, by go_num, rfl, by omega, by omega, by simpa [startsL] using Row.nil_ _ _ _, by simpa [phSet] using Row.nil_ _ _ _, .inl rfl, Below.refl _ _⟩
  case round =>
    obtain ⟨k, m5, n6, c6, A6, hk, rfl, rfl, hm5, hn6, R5, R6, hap, hB⟩ := hrel
    have HAP := Lib.hid hap
    clear hap
    have hbs := hB.size
    by_cases hlt : k < n
    · obtain ⟨ad, y, rfl, HY, hc⟩ := (h.below hB).at_ hlt
      have hl6 : (phSet s (l.take k)).length = n6 := by have := R6.len; simpa using this
      have hle := phSet_le s hs1 (l.take (k + 1))
      have hSS := startsL_succ s l k
      have hPS := phSet_take_succ s l k y HY.out
      have hIS := isStart_cases s l k y HY.out
      by_cases hk0 : k = 0
      · have hst : isStart s l k = true := hIS.2 (.inl hk0)
        have e1 : Hid (startsL s l (k + 1) = startsL s l k ++ [(k : Int)]) := Lib.hid (by rw [hSS, if_pos hst])
        have e2 : Hid (phSet s (l.take (k + 1)) = [y]) := Lib.hid (by rw [hPS, hk0]; simp only [phSet, flushG, List.take_zero, List.foldl_nil, List.not_mem_nil, if_false]; exact congrArg (· ++ [y]) (ite_self ([] : List Int)))
        clear hSS hPS hIS hst hle
        subst hk0
        go_wp2_with (first
          | (at_builtin; refine wpList_push_at _ rfl (.tmp 32) (.tmp 34) _ rfl w.heap.size 3 _ _ Tryd.underlying22 infoI rfl (by decide) _ _ _ rfl R5 (.int .i64 0) rfl rfl (by omega) hbs ?_; intro v' w1 R5' g5 far5; have hB1 := hB.grown g5 hbs (fun b hb => (R5.lt b hb).1); have hb1 := hB1.size; have RN := Row.nil_ w1 w.heap.size 3; have hc1 := RI.cell0 (h.below hB1) HY.out)
          | (at_builtin; refine wpList_push_at _ rfl (.tmp 36) (.tmp 41) _ rfl w.heap.size 3 _ _ Tryd.underlying22 infoI rfl (by decide) (.slice none 0 0) 0 [] rfl RN (.int .i64 y) rfl rfl (by omega) hb1 ?_; intro v'' w2 R6' g6 far6))
        have F6 := Lib.hid R6'.form
        go_roundw
        case rel =>
          obtain ⟨A', c', hv, _, _⟩ := F6.out
          refine ⟨0 + 1, m5 + 1, 0 + 1, c', A', by omega, by go_num, hv, by omega, by omega, ?_, ?_, ?_, hB1.grown g6 hb1 (fun b hb => by cases hb)⟩
          · rw [e1.out, List.map_append]; exact R5'.apart g6 (Apart.symm (.inl rfl))
          · rw [e2.out, ← hv]; simpa using R6'
          · rw [← hv]
            exact (Apart.symm (Apart.far (r := v'.ownBlock) (r' := none) (Apart.symm (.inl rfl)) far6 (fun b hb => (R5'.lt b hb).2)).symm)
        case measure => simp [intOf]; omega
      · have hk1 : (0 : Int) < k := by omega
        have hkb : ((k : Int) == 0) = false := by simp; omega
        by_cases hm : y ∈ phSet s (l.take k)
        · have HB := Lib.hid ((hasB_iff _ _).2 hm)
          have hst : isStart s l k = false := by
            cases hh : isStart s l k
            · rfl
            · rcases hIS.1 hh with a | a
              · exact absurd a hk0
              · exact absurd hm a.1
          have e1 : Hid (startsL s l (k + 1) = startsL s l k) := Lib.hid (by rw [hSS, hst]; simp)
          have e2 : Hid (phSet s (l.take (k + 1)) = phSet s (l.take k)) := Lib.hid (by rw [hPS, flushG, if_pos hm])
          clear hSS hPS hIS hst hle hm hl6
          go_wp2_with fail
          refine (has_any _ _ _ _ _ _ (Row.reads R6) (by omega)).mono ?_; rintro e w' ⟨rfl, rfl⟩
          rw [HB.out]
          go_wp2
          go_roundw
          case rel => exact ⟨k + 1, m5, n6, c6, A6, by omega, by go_num, rfl, by omega, by omega, by rw [e1.out]; exact R5, by rw [e2.out]; exact R6, HAP.out, hB⟩
          case measure => simp [intOf]; omega
        · have HB := Lib.hid ((hasB_false _ _).2 hm)
          by_cases hf : n6 = s
          · have hst : isStart s l k = true := hIS.2 (.inr ⟨hm, hl6.trans hf⟩)
            have e1 : Hid (startsL s l (k + 1) = startsL s l k ++ [(k : Int)]) := Lib.hid (by rw [hSS, if_pos hst])
            have e2 : Hid (phSet s (l.take (k + 1)) = [y]) := Lib.hid (by rw [hPS, flushG, if_neg hm, if_pos (hl6.trans hf), List.nil_append])
            clear hSS hPS hIS hst hle hm hl6
            subst hf
            go_wp2_with fail
            refine (has_any _ _ _ _ _ _ (Row.reads R6) (by omega)).mono ?_; rintro e w' ⟨rfl, rfl⟩
            rw [HB.out]
            go_wp2_with (first
              | (at_builtin; refine wpList_push_at _ rfl (.tmp 32) (.tmp 34) _ rfl w.heap.size 3 _ _ Tryd.underlying22 infoI rfl (by decide) _ _ _ rfl R5 (.int .i64 k) rfl rfl (by omega) hbs ?_; intro v' w1 R5' g5 far5; have hB1 := hB.grown g5 hbs (fun b hb => (R5.lt b hb).1); have hb1 := hB1.size; have RN := Row.nil_ w1 w.heap.size 3; have hc1 := RI.cellAt (h.below hB1) HY.out)
              | (at_builtin; refine wpList_push_at _ rfl (.tmp 36) (.tmp 41) _ rfl w.heap.size 3 _ _ Tryd.underlying22 infoI rfl (by decide) (.slice none 0 0) 0 [] rfl RN (.int .i64 y) rfl rfl (by omega) hb1 ?_; intro v'' w2 R6' g6 far6))
            have F6 := Lib.hid R6'.form
            go_roundw
            case rel =>
              obtain ⟨A', c', hv, _, _⟩ := F6.out
              refine ⟨k + 1, m5 + 1, 0 + 1, c', A', by omega, by go_num, hv, by omega, by omega, ?_, ?_, ?_, hB1.grown g6 hb1 (fun b hb => by cases hb)⟩
              · rw [e1.out, List.map_append]; exact R5'.apart g6 (Apart.symm (.inl rfl))
              · rw [e2.out, ← hv]; simpa using R6'
              · rw [← hv]
                exact (Apart.symm (Apart.far (r := v'.ownBlock) (r' := none) (Apart.symm (.inl rfl)) far6 (fun b hb => (R5'.lt b hb).2)).symm)
            case measure => simp [intOf]; omega
          · have hst : isStart s l k = false := by
              cases hh : isStart s l k
              · rfl
              · rcases hIS.1 hh with a | a
                · exact absurd a hk0
                · exact absurd (hl6.symm.trans a.2) hf
            have e1 : Hid (startsL s l (k + 1) = startsL s l k) := Lib.hid (by rw [hSS, hst]; simp)
            have e2 : Hid (phSet s (l.take (k + 1)) = phSet s (l.take k) ++ [y]) := Lib.hid (by rw [hPS, flushG, if_neg hm, if_neg (by omega)])
            have hn6' : n6 + 1 ≤ 8 := by rw [e2.out, List.length_append, List.length_singleton] at hle; omega
            have hfb : ((n6 : Int) == (s : Int)) = false := by simp; omega
            clear hSS hPS hIS hst hle hm hl6
            go_wp2_with fail
            refine (has_any _ _ _ _ _ _ (Row.reads R6) (by omega)).mono ?_; rintro e w' ⟨rfl, rfl⟩
            rw [HB.out]
            go_wp2_with (at_builtin; refine wpList_push_at _ rfl (.tmp 36) (.tmp 41) _ rfl w.heap.size 3 _ _ Tryd.underlying22 infoI rfl (by decide) _ _ _ rfl R6 (.int .i64 y) rfl rfl (by omega) hbs ?_; intro v'' w2 R6' g6 far6)
            have F6 := Lib.hid R6'.form
            go_roundw
            case rel =>
              obtain ⟨A', c', hv, _, _⟩ := F6.out
              refine ⟨k + 1, m5, n6 + 1, c', A', by omega, by go_num, hv, by omega, by omega, ?_, ?_, ?_, hB.grown g6 hbs (fun b hb => (R6.lt b hb).1)⟩
              · rw [e1.out]; exact R5.apart g6 HAP.out
              · rw [e2.out, ← hv, List.map_append]; exact R6'
              · rw [← hv]; exact HAP.out.far far6 (fun b hb => (R5.lt b hb).2)
            case measure => simp [intOf]; omega
    · have HE := Lib.hid (show k = n by omega)
      have F5 := Lib.hid R5.form
      go_wp2
      go_ret
      have e2 := HE.out
      obtain ⟨A1, c1, hv5, hc1, _⟩ := F5.out
      refine ⟨A1, m5, c1, ?_, ?_, by omega, by omega, hB⟩
      · rw [← hv5]; rfl
      · rw [← hv5, ← e2]; exact R5
end Go.Proofs.YtcobmiodgfonaaaDoor
