/- The walk of the law ServeLeast: it returns true, for every input. -/
import Derived.Test.YtibefbboilpfmaaServeLaw
import Derived.Test.YtibefbboilpfmaaServeLaws2
namespace Go.Proofs.Ytibefbboilpfmaa
open Go.ChangeShapes Go.WideShapes Go.ChangeAt Go.RowKit

set_option maxRecDepth 100000 in
set_option maxHeartbeats 4000000 in
theorem law_ServeLeast (A Ac Aw : Option Addr) (n c m cc o co : Nat) (s a who : List Int) (w : World) (hs : RI w A n s) (hc : RI w Ac m a) (hwo : RI w Aw o who) (hn : n ≤ 9223372036854775807) (hm : m ≤ 9223372036854775807) (ho : o ≤ 9223372036854775807) (hnc : A = none → c = 0) :
    Calls Try.prog 5 #[.slice A n c, .slice Ac m cc, .slice Aw o co] w fun e w' => e = .returned (.bool true) ∧ Below w.heap.size w w' := by
  have HL := Lib.hid hs.len
  have HM := Lib.hid hc.len
  go_enter Try.func5, Try.ntmps5
  go_wp2_with fail
  refine (serveFact_ok _).mono ?_; rintro e w0 ⟨rfl, hB0⟩
  have hs0 := hs.below hB0
  have hc0 := hc.below hB0
  by_cases hg : GoodS s a
  · have HG := Lib.hid hg
    have hn0 : 0 < n := by
      have h0 := hs.len
      rcases Nat.eq_zero_or_pos n with e | e
      · exact absurd (List.eq_nil_of_length_eq_zero (by omega)) hg.1
      · exact e
    have hn3 : n ≤ 3 := by have := hs.len; have := hg.2.1; omega
    have hm20 : m ≤ 20 := by have := hc.len; have := hg.2.2.1; omega
    have HON := Lib.hid (show onL n s from ⟨hs.len, hg.2.2.2.1⟩)
    clear hg
    go_wp2_with fail
    refine (sleast_ok _ _ _ _ _ _ _ _ _ hs0 hc0 HG.out).mono ?_; rintro e w1 ⟨v, rfl, hv, hB1⟩
    have hB01 := hB0.trans (hB1.mono hB0.size)
    have HV := Lib.hid (best_pad HL.out hv)
    have hle1 := best_le hn0 (fair_d hn0) HON.out HG.out.2.2.2.2 HV.out
    have hle2 := best_le hn0 (fair_n hn0) HON.out HG.out.2.2.2.2 HV.out
    clear hv
    go_wp2_with fail
    refine (double_ok _ _ _ _ _ _ _ _ _ (hs.below hB01) (hc.below hB01) HG.out).mono ?_; rintro e w2 ⟨A1, c1, rfl, _, hB2⟩
    have hB02 := hB01.trans (hB2.mono hB01.size)
    obtain ⟨D, hD⟩ : ∃ D, (runS dstep s a).1 = D := ⟨_, rfl⟩
    rw [hD] at hle1 ⊢
    go_wp2_with fail
    refine (near_ok _ _ _ _ _ _ _ _ _ (hs.below hB02) (hc.below hB02) HG.out).mono ?_; rintro e w3 ⟨A2, c2, rfl, _, hB3⟩
    have hB03 := hB02.trans (hB3.mono hB02.size)
    obtain ⟨E, hE⟩ : ∃ E, (runS nstep s a).1 = E := ⟨_, rfl⟩
    rw [hE] at hle2 ⊢
    clear hD hE hs0 hc0 hB0 hB01 hB02 hB1 hB2 hB3
    have hs3 := hs.below hB03
    have hsz3 := hB03.size
    have hq1 : ¬ D < v := by omega
    have hq2 : ¬ E < v := by omega
    go_wp2_with (at_builtin; refine wpList_appendI _ rfl (.tmp 71) (.tmp 72) _ rfl w.heap.size 3 _ _ Try.underlying22 infoI rfl _ 0 [] rfl (Row.nil_ _ _ _) A n c s rfl hs3 hnc (by simp only [maxLen]; omega) (by omega) hsz3 ?_; intro v1 w4 R4 g4)
    have R4' : Row w4 w.heap.size 3 v1 n (s.map (Value.int .i64)) := by simpa using R4
    have hB4 : Below w.heap.size w w4 := hB03.grown g4 hsz3 (fun b hb => ((Row.nil_ w3 w.heap.size 3).lt b hb).1)
    obtain ⟨g, c4, rfl, hgb⟩ : ∃ g c4, v1 = .slice (some ⟨g, 0, none⟩) n c4 ∧ w.heap.size ≤ g := by
      rcases R4'.2 with ⟨e, h0⟩ | ⟨g, cap, cur, e, hb, hh, _⟩
      · omega
      · exact ⟨g, cap, e, hb⟩
    clear R4 g4 hs3 hB03 hle1 hle2
    go_wp2
    go_loopw [17, 18] (fun v17 i wr => ∃ (j : Nat) (sm : Int) (q : List Int), j ≤ m ∧ i = .int .i64 j ∧ v17 = .int .i64 sm ∧ Hid (RunTo (NxS n) s (a.take j) q sm) ∧ Row wr w.heap.size 3 (.slice (some ⟨g, 0, none⟩) n c4) n (q.map (Value.int .i64)) ∧ Below w.heap.size w wr) (fun _ i _ => m - (intOf i).toNat)
    case atStart => exact ⟨0, 0, s, by omega, by go_num, by go_num, Lib.hid ⟨rfl, rfl⟩, R4', hB4⟩
    case round =>
      obtain ⟨j, sm, q, hj, rfl, rfl, hq, R, hBr⟩ := hrel
      by_cases hlt : j < m
      · obtain ⟨adc, x, rfl, hx, hcx⟩ := (hc.below hBr).at_ hlt
        have hxin := HG.out.2.2.2.2 x (List.mem_of_getElem? hx.out)
        have hjl : (a.take j).length ≤ 20 := by rw [List.length_take]; have := HG.out.2.2.1; omega
        have hrn := runS_on HON.out (fun y hy => HG.out.2.2.2.2 y (List.mem_of_mem_take hy)) hq.out
        have hqn : onL n q := hrn.1
        have hsm : 0 ≤ sm ∧ sm ≤ 240 := ⟨hrn.2.1, by have := hrn.2.2; omega⟩
        have hql : q.length = n := hqn.1
        have HCE : Hid (∀ k, k < n → wr.cell? ⟨g, k, none⟩ = some (.int .i64 (q.getD k 0))) := Lib.hid (fun k hk => by
          rw [World.ownsRow.cellAt R k (by omega), List.getElem?_map, List.getD_eq_getElem?_getD, List.getElem?_eq_getElem (by omega)]; rfl)
        have HFR : Hid (∀ k, wr.frozen? ⟨g, k, none⟩ = false) := Lib.hid (fun k => World.ownsRow.frozenAt R k)
        have HSR : Hid (∀ k d, Row ((wr.drewN d).setCell ⟨g, k, none⟩ (.int .i64 x)) w.heap.size 3 (.slice (some ⟨g, 0, none⟩) n c4) n ((q.set k x).map (Value.int .i64)) ∧ Below w.heap.size w ((wr.drewN d).setCell ⟨g, k, none⟩ (.int .i64 x))) := Lib.hid (fun k d => by
          obtain ⟨y1, y2⟩ := World.ownsRow.stored (R.drewN d) k (.int .i64 x)
          exact ⟨by rw [List.map_set]; exact y1, (belowN hBr d).grown y2 (by have := hBr.size; exact this) (fun b hb => by cases hb; exact hgb)⟩)
        have hwr := hwo.below hBr
        have hjm : (j : Int) < m := by omega
        clear hrn hjl R
        by_cases hjo : j < o
        · obtain ⟨adw, z, rfl, hz, hcz⟩ := hwr.at_ hjo
          obtain ⟨n1, hn1⟩ : ∃ n1, n - 1 = n1 := ⟨_, rfl⟩
          have hz1 : ((n : Int) - 1) = n1 := by omega
          have hw1 : IntKind.i64.wrap (n1 : Int) = n1 := IntWalk.i64_in _ (by omega)
          clear hn1
          by_cases hzin : 0 ≤ z ∧ z ≤ n1
          · obtain ⟨z0, z1⟩ := hzin
            obtain ⟨k, rfl⟩ : ∃ k : Nat, z = k := ⟨z.toNat, by omega⟩
            have HI : Hid (∀ W, Calls Try.prog 12 #[.int .i64 (k : Int), .int .i64 0, .int .i64 n1] W fun e w' => e = .returned (.bool true) ∧ W = w') := Lib.hid (fun W => sin_ok _ _ _ W z0 z1)
            go_wp2_with fail
            refine (HI.out _).mono ?_; rintro e w' ⟨rfl, rfl⟩
            have hkn : k < n := by omega
            obtain ⟨y, hy⟩ : ∃ y, q.getD k 0 = y := ⟨_, rfl⟩
            have hyin := onL_getD hqn k
            have cy := HCE.out k hkn
            rw [hy] at hyin cy
            have hfr := HFR.out k
            have hab := absI_in hyin hxin
            obtain ⟨ab, hab2⟩ : ∃ ab, absI y x = ab := ⟨_, rfl⟩
            have HA : Hid (∀ W, Calls Try.prog 11 #[.int .i64 y, .int .i64 x] W fun e w' => e = .returned (.int .i64 ab) ∧ w' = W) := Lib.hid (fun W => (abs_any y x W hyin hxin).mono fun _ _ ⟨x1, x2⟩ => ⟨by rw [x1, hab2], x2.symm⟩)
            have HRun : Hid (RunTo (NxS n) s (a.take (j + 1)) (q.set k x) (sm + ab)) := Lib.hid (by rw [take_succ_of hx.out]; exact (runTo_snoc _).2 ⟨q, sm, ab, hq.out, ⟨k, hkn, rfl, by rw [hy, hab2]⟩, rfl⟩)
            rw [hab2] at hab
            have hws : wrap64 (sm + ab) = sm + ab := IntWalk.wrap64_in _ (by omega)
            have HST := Lib.hid (HSR.out k)
            have hki : (k : Int) < n := by omega
            clear hy hab2
            go_wp2
            go_quiet ((go_at_call 11; exact (HA.out _).mono (fun _ _ ⟨h1, h2⟩ => ⟨h1, _, h2⟩)))
            go_wp2
            go_roundw
            case rel => exact ⟨j + 1, sm + ab, q.set k x, by omega, by go_num, by go_num, HRun, (HST.out _).1, (HST.out _).2⟩
            case measure => simp [intOf]; omega
          · have hzo : z < 0 ∨ (n1 : Int) < z := by omega
            have HI : Hid (∀ W, Calls Try.prog 12 #[.int .i64 z, .int .i64 0, .int .i64 n1] W fun e w' => e = .returned (.bool false) ∧ W = w') := Lib.hid (fun W => sin_no _ _ _ W hzo)
            clear hzo hzin
            go_wp2_with fail
            refine (HI.out _).mono ?_; rintro e w' ⟨rfl, rfl⟩
            have hkn : 0 < n := by omega
            obtain ⟨y, hy⟩ : ∃ y, q.getD 0 0 = y := ⟨_, rfl⟩
            have hyin := onL_getD hqn 0
            have cy := HCE.out 0 hkn
            rw [hy] at hyin cy
            have hfr := HFR.out 0
            have hab := absI_in hyin hxin
            obtain ⟨ab, hab2⟩ : ∃ ab, absI y x = ab := ⟨_, rfl⟩
            have HA : Hid (∀ W, Calls Try.prog 11 #[.int .i64 y, .int .i64 x] W fun e w' => e = .returned (.int .i64 ab) ∧ w' = W) := Lib.hid (fun W => (abs_any y x W hyin hxin).mono fun _ _ ⟨x1, x2⟩ => ⟨by rw [x1, hab2], x2.symm⟩)
            have HRun : Hid (RunTo (NxS n) s (a.take (j + 1)) (q.set 0 x) (sm + ab)) := Lib.hid (by rw [take_succ_of hx.out]; exact (runTo_snoc _).2 ⟨q, sm, ab, hq.out, ⟨0, hkn, rfl, by rw [hy, hab2]⟩, rfl⟩)
            rw [hab2] at hab
            have hws : wrap64 (sm + ab) = sm + ab := IntWalk.wrap64_in _ (by omega)
            have HST := Lib.hid (HSR.out 0)
            have hki : (0 : Int) < n := by omega
            clear hy hab2
            go_wp2
            go_quiet ((go_at_call 11; exact (HA.out _).mono (fun _ _ ⟨h1, h2⟩ => ⟨h1, _, h2⟩)))
            go_wp2
            go_roundw
            case rel => exact ⟨j + 1, sm + ab, q.set 0 x, by omega, by go_num, by go_num, HRun, (HST.out _).1, (HST.out _).2⟩
            case measure => simp [intOf]; omega
        · have hjo2 : ¬ (j : Int) < o := by omega
          have hkn : 0 < n := by omega
          obtain ⟨y, hy⟩ : ∃ y, q.getD 0 0 = y := ⟨_, rfl⟩
          have hyin := onL_getD hqn 0
          have cy := HCE.out 0 hkn
          rw [hy] at hyin cy
          have hfr := HFR.out 0
          have hab := absI_in hyin hxin
          obtain ⟨ab, hab2⟩ : ∃ ab, absI y x = ab := ⟨_, rfl⟩
          have HA : Hid (∀ W, Calls Try.prog 11 #[.int .i64 y, .int .i64 x] W fun e w' => e = .returned (.int .i64 ab) ∧ w' = W) := Lib.hid (fun W => (abs_any y x W hyin hxin).mono fun _ _ ⟨x1, x2⟩ => ⟨by rw [x1, hab2], x2.symm⟩)
          have HRun : Hid (RunTo (NxS n) s (a.take (j + 1)) (q.set 0 x) (sm + ab)) := Lib.hid (by rw [take_succ_of hx.out]; exact (runTo_snoc _).2 ⟨q, sm, ab, hq.out, ⟨0, hkn, rfl, by rw [hy, hab2]⟩, rfl⟩)
          rw [hab2] at hab
          have hws : wrap64 (sm + ab) = sm + ab := IntWalk.wrap64_in _ (by omega)
          have HST := Lib.hid (HSR.out 0)
          have hki : (0 : Int) < n := by omega
          clear hy hab2
          go_wp2
          go_quiet ((go_at_call 11; exact (HA.out _).mono (fun _ _ ⟨h1, h2⟩ => ⟨h1, _, h2⟩)))
          go_wp2
          go_roundw
          case rel => exact ⟨j + 1, sm + ab, q.set 0 x, by omega, by go_num, by go_num, HRun, (HST.out _).1, (HST.out _).2⟩
          case measure => simp [intOf]; omega
      · obtain rfl : j = m := by omega
        have hr := hq.out
        rw [List.take_of_length_le (by rw [HM.out]; omega)] at hr
        have hfin := who_le HV.out hr
        clear hr
        go_wp2
        go_ret
        exact ⟨rfl, hBr⟩
  · have HG := Lib.hid hg
    clear hg
    go_wp2_with fail
    refine (sleast_no _ _ _ _ _ _ _ _ _ hs0 hc0 hn hm HG.out).mono ?_; rintro e w1 ⟨rfl, hB1⟩
    have hB01 := hB0.trans (hB1.mono hB0.size)
    go_wp2_with fail
    refine (double_no _ _ _ _ _ _ _ _ _ (hs.below hB01) (hc.below hB01) hn hm HG.out).mono ?_; rintro e w' ⟨rfl, rfl⟩
    go_wp2_with fail
    refine (near_no _ _ _ _ _ _ _ _ _ (hs.below hB01) (hc.below hB01) hn hm HG.out).mono ?_; rintro e w' ⟨rfl, rfl⟩
    go_wp2
    go_ret
    exact ⟨rfl, hB01⟩
end Go.Proofs.Ytibefbboilpfmaa
