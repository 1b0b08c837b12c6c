/- The walk of the law StackSays: it returns true, for every input. -/
import Derived.Test.YtcobmiodgfonaaaDoorDoor
import Derived.Test.YtcobmiodgfonaaaDoorRefPages
import Derived.Test.YtcobmiodgfonaaaDoorRefLru
import Derived.Test.YtcobmiodgfonaaaDoorStack
import Derived.Test.YtcobmiodgfonaaaDoorSame
namespace Go.Proofs.YtcobmiodgfonaaaDoor
open Go.ChangeShapes Go.WideShapes Go.ChangeAt Go.RowKit

theorem cntD_nat (ds : List Int) (j : Nat) (d : Int) (k : Nat) (h : ds[j]? = some d) : cntD (ds.take (j + 1)) k = cntD (ds.take j) k + if d = 0 ∨ (k : Int) + 1 < d then 1 else 0 := cntD_succ k h
theorem curve_take_succ (ds : List Int) (k : Nat) (hk : k < 8) : (curveL ds).take (k + 1) = (curveL ds).take k ++ [((cntD ds k : Nat) : Int)] := take_succ_of (curve_at ds k hk)

set_option maxRecDepth 100000 in
set_option maxHeartbeats 4000000 in
theorem law_StackSays (A : Option Addr) (n c : Nat) (l : List Int) (w : World) (hh : HErr w) (h : RI w A n l) (hnc : n ≤ c) (hn : n ≤ 9223372036854775807) :
    Calls Tryd.prog 8 #[.slice A n c] w fun e w' => e = .returned (.bool true) ∧ Below w.heap.size w w' := by
  by_cases hg : GoodReqs l 1
  · have HL := Lib.hid h.len
    have HG := Lib.hid hg
    have hn4 : n ≤ 40 := by have := HL.out; have := hg.1; omega
    have HDL : Hid ((depthRun l).1.length = n) := Lib.hid (by rw [depth_len]; exact HL.out)
    clear hn hg
    go_enter Tryd.func8, Tryd.ntmps8
    go_wp2_with fail
    refine (pages_ok _ _ _ _ _ _ h HG.out).mono ?_; rintro e w' ⟨rfl, rfl⟩
    go_wp2_with fail
    refine (rdepths_ok _ _ _ _ _ h hn4).mono ?_; rintro e w1 ⟨A1, c1, rfl, I1, hB1⟩
    have HI1 := Lib.hid I1
    clear I1
    have h1 := h.below hB1
    go_wp2
    go_loopw [5, 6, 7, 8] (fun v4 kk _ _ wr => ∃ k : Nat, k ≤ 8 ∧ kk = .int .i64 ((k : Int) + 1) ∧ Row wr w1.heap.size 3 v4 k (((curveL (depthRun l).1).take k).map (Value.int .i64)) ∧ Below w1.heap.size w1 wr) (fun _ kk _ _ _ => 9 - (intOf kk).toNat)
    case atStart => exact ⟨0, by omega, by go_num, by simpa using Row.nil_ _ _ _, Below.refl _ _⟩
    case round =>
      obtain ⟨k, hk, rfl, R4, hB⟩ := hrel
      have hbs := hB.size
      by_cases hlt : k < 8
      · have HC := Lib.hid (curve_take_succ (depthRun l).1 k hlt)
        have hIw := HI1.out.below hB
        have HIW := Lib.hid hIw
        clear hIw
        go_wp2
        go_loopw [7, 8] (fun nn i wj => ∃ j m : Nat, j ≤ n ∧ m ≤ j ∧ i = .int .i64 j ∧ nn = .int .i64 m ∧ wj = wr ∧ Hid (cntD ((depthRun l).1.take j) k = m)) (fun _ i _ => n - (intOf i).toNat)
        case atStart => exact ⟨0, 0, by omega, by omega, by go_num, by go_num, rfl, by simp [Hid, cntD]⟩
        case round =>
          obtain ⟨j, m, hj, hm, rfl, rfl, rfl, HM⟩ := hrel
          by_cases hlt' : j < n
          · obtain ⟨ad, d, rfl, HD, hc⟩ := HIW.out.at_ hlt'
            have HN := Lib.hid (cntD_nat _ j d k HD.out)
            rw [HM.out] at HN
            by_cases h0 : d = 0
            · have hd0 : (d == 0) = true := by simp [h0]
              have HN' : Hid (cntD ((depthRun l).1.take (j + 1)) k = m + 1) := Lib.hid (by rw [HN.out, if_pos (.inl h0)])
              subst h0
              go_wp2
              go_roundw
              case rel => exact ⟨j + 1, m + 1, by omega, by omega, by go_num, by go_num, trivial, HN'⟩
              case measure => simp [intOf]; omega
            · have hd0 : (d == 0) = false := by simp [h0]
              by_cases h1' : (k : Int) + 1 < d
              · have HN' : Hid (cntD ((depthRun l).1.take (j + 1)) k = m + 1) := Lib.hid (by rw [HN.out, if_pos (.inr h1')])
                go_wp2
                go_roundw
                case rel => exact ⟨j + 1, m + 1, by omega, by omega, by go_num, by go_num, trivial, HN'⟩
                case measure => simp [intOf]; omega
              · have HN' : Hid (cntD ((depthRun l).1.take (j + 1)) k = m) := Lib.hid (by rw [HN.out, if_neg (by rintro (a | a); exact h0 a; exact h1' a)]; rfl)
                go_wp2
                go_roundw
                case rel => exact ⟨j + 1, m, by omega, by omega, by go_num, by go_num, trivial, HN'⟩
                case measure => simp [intOf]; omega
          · have HE : Hid (cntD (depthRun l).1 k = m) := Lib.hid (by
              have := HM.out
              rwa [List.take_of_length_le (by have := HDL.out; omega)] at this)
            go_wp2_with (at_builtin; refine wpList_push _ rfl (.tmp 44) (.tmp 46) _ rfl w1.heap.size 3 _ _ Tryd.underlying22 infoI rfl (by decide) _ _ _ rfl R4 (.int .i64 (m : Int)) rfl rfl (by omega) hbs ?_; intro v' w2 R4' g4)
            go_roundw
            case rel => exact ⟨k + 1, by omega, by go_num, by rw [HC.out, HE.out, List.map_append]; exact R4', hB.grown g4 hbs (fun b hb => (R4.lt b hb).1)⟩
            case measure => simp [intOf]; omega
      · have hk8 : k = 8 := by omega
        subst hk8
        have HT : Hid ((curveL (depthRun l).1).take 8 = curveL (depthRun l).1) := Lib.hid (List.take_of_length_le (by simp [curveL]))
        obtain ⟨A4, c4, hv4, _, _⟩ := R4.form
        subst hv4
        have R4r := Row.reads R4
        rw [HT.out] at R4r
        have hBw := hB1.trans (hB.mono hB1.size)
        go_wp2_with fail
        refine (depths_ok _ _ _ _ _ (h.below hBw) HG.out).mono ?_; rintro e w2 ⟨A2, c2, rfl, R2, hc2, hB2⟩
        have hB02 := hBw.trans (hB2.mono hBw.size)
        have HE : Hid (eqI (depthRun l).1 (depthRun l).1 = true) := by simp [Hid, eqI]
        have HF : Hid (eqI (curveL (depthRun l).1) (curveL (depthRun l).1) = true) := by simp [Hid, eqI]
        have RW := Lib.hid ((HI1.out.below hB).below hB2)
        have RC := Lib.hid (R4r.below hB2)
        have RD := Lib.hid (Row.reads R2)
        have RH := Lib.hid (h.below hB02)
        clear R2 R4 R4r
        go_wp2_with fail
        refine (err_nil _).mono ?_; rintro e w' ⟨rfl, rfl⟩
        go_wp2_with fail
        refine (ints_any _ _ _ _ _ _ _ _ _ RD.out RW.out (by omega) (by omega)).mono ?_; rintro e w' ⟨rfl, d, rfl⟩
        rw [HE.out]
        have hB3 := belowN hB02 d
        have RC3 := Lib.hid (RC.out.drewN d)
        have RH3 := Lib.hid (RH.out.drewN d)
        generalize w2.drewN d = w3 at *
        go_wp2_with fail
        refine (curve_ok _ _ _ _ _ RH3.out HG.out).mono ?_; rintro e w4 ⟨A5, c5, rfl, R5, hc5, hB4⟩
        have hB04 := hB3.trans (hB4.mono hB3.size)
        have RE := Lib.hid (Row.reads R5)
        have RG := Lib.hid (RC3.out.below hB4)
        clear R5
        go_wp2_with fail
        refine (err_nil _).mono ?_; rintro e w' ⟨rfl, rfl⟩
        go_wp2_with fail
        refine (ints_any _ _ _ _ _ _ _ _ _ RE.out RG.out (by omega) (by omega)).mono ?_; rintro e w' ⟨rfl, d2, rfl⟩
        rw [HF.out]
        go_wp2
        go_ret
        exact ⟨rfl, belowN hB04 _⟩
  · have HG := Lib.hid hg
    have hne := reqsE_ne l 1 hg
    have HE : Hid (eqI [] [] = true) := by simp [Hid, eqI]
    clear hg
    go_enter Tryd.func8, Tryd.ntmps8
    go_wp2_with fail
    refine (pages_no _ _ _ _ _ _ h hn HG.out).mono ?_; rintro e w' ⟨rfl, rfl⟩
    go_wp2_with fail
    refine (depths_no _ _ _ _ _ h hn HG.out).mono ?_; rintro e w' ⟨rfl, rfl⟩
    have HER : Hid (∀ w1, RI w1 A n l → Calls Tryd.prog 27 #[.slice A n c] w1 fun e w' => e = .returned (.tuple #[.slice none 0 0, .iface 57 (.int .i64 (reqsE l 1))]) ∧ w1 = w') := Lib.hid (fun w1 h1 => curve_no A n c l w1 h1 hn HG.out)
    generalize reqsE l 1 = er at *
    go_wp2_with fail
    refine (err_errno er _ hh).mono ?_; rintro e w1 ⟨rfl, hB1⟩
    go_wp2_with fail
    refine (ints_any _ _ _ _ _ _ _ _ _ RI.nil_ RI.nil_ (by omega) (by omega)).mono ?_; rintro e w' ⟨rfl, d, rfl⟩
    rw [HE.out]
    have hB2 := belowN hB1 d
    have hh2 : HErr (w1.drewN d) := (hh.below hB1).drewN d
    generalize w1.drewN d = w2 at *
    go_wp2_with fail
    refine (HER.out _ (h.below hB2)).mono ?_; rintro e w' ⟨rfl, rfl⟩
    go_wp2_with fail
    refine (err_errno er _ hh2).mono ?_; rintro e w3 ⟨rfl, hB3⟩
    go_wp2_with fail
    refine (ints_any _ _ _ _ _ _ _ _ _ RI.nil_ RI.nil_ (by omega) (by omega)).mono ?_; rintro e w' ⟨rfl, d2, rfl⟩
    rw [HE.out]
    go_wp2
    go_ret
    exact ⟨rfl, belowN (hB2.trans (hB3.mono hB2.size)) _⟩
end Go.Proofs.YtcobmiodgfonaaaDoor
