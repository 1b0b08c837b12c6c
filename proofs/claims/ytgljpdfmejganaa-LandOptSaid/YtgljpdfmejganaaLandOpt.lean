/- The walk of the law LandOpt: it returns true, for every input. -/
import Derived.Test.YtgljpdfmejganaaTopRent
import Derived.Test.YtgljpdfmejganaaLandLaw
namespace Go.Proofs.Ytgljpdfmejganaa
open Go.ChangeShapes Go.WideShapes Go.ChangeAt Go.RowKit

theorem least_opt {each : Int} {m s : Nat} (h0 : 0 ≤ each) (hs : 1 ≤ s) {l : List Int} (hl : AllIn l 0 ((m : Int) - 1)) {v : Int} (h : LeastC (costF (List.replicate m each)) s l v) : v = each * optN s l := by
  have h2 := sched_const each l [] _ (optN_sched hs l)
  have h3 : SchedC (costF (List.replicate m each)) s [] l (each * optN s l) := schedC_congr l _ _ (fun p hp => (costF_rep (hl p hp).1 (hl p hp).2).symm) h2
  have h4 := h.2 _ h3
  have h5 : SchedC (fun _ => each) s [] l v := schedC_congr l _ _ (fun p hp => costF_rep (hl p hp).1 (hl p hp).2) h.1
  obtain ⟨k, hk, e⟩ := schedC_const _ _ _ h5
  have h6 : each * (optN s l : Int) ≤ each * (k : Int) := Int.mul_le_mul_of_nonneg_left (by have := optN_best hs (Nat.le_refl s) hk; omega) h0
  omega

set_option maxRecDepth 100000 in
set_option maxHeartbeats 4000000 in
theorem law_LandOpt (A : Option Addr) (n c : Nat) (l : List Int) (m each slots : Int) (w : World) (h : RI w A n l) (hnc : n ≤ c) (hn : n ≤ 9223372036854775807) :
    Calls Try.prog 4 #[.slice A n c, .int .i64 m, .int .i64 each, .int .i64 slots] w fun e w' => e = .returned (.bool true) ∧ Below w.heap.size w w' := by
  have HL := Lib.hid h.len
  go_enter Try.func4, Try.ntmps4
  go_wp2_with fail
  refine (landFact_ok _).mono ?_; rintro e w1 ⟨rfl, hB01⟩
  by_cases hm : 1 ≤ m ∧ m ≤ 6
  · obtain ⟨m0, m1⟩ := hm
    go_wp2_with fail
    refine (linL_ok _ _ _ _ m0 m1).mono ?_; rintro e w' ⟨rfl, rfl⟩
    by_cases he : 0 ≤ each ∧ each ≤ 20
    · obtain ⟨e0, e1⟩ := he
      go_wp2_with fail
      refine (linL_ok _ _ _ _ e0 e1).mono ?_; rintro e w' ⟨rfl, rfl⟩
      obtain ⟨q, rfl⟩ : ∃ q : Nat, m = q := ⟨m.toNat, by omega⟩
      go_wp2
      go_loopw [10, 11] (fun v13 i wr => ∃ k : Nat, k ≤ q ∧ i = .int .i64 k ∧ Row wr w.heap.size 3 v13 k ((List.replicate k each).map (Value.int .i64)) ∧ Below w.heap.size w wr) (fun _ i _ => q - (intOf i).toNat)
      case atStart => exact ⟨0, by omega, by go_num, Row.nil_ _ _ _, hB01⟩
      case round =>
        obtain ⟨k, hk, rfl, R13, hB⟩ := hrel
        have hbs := hB.size
        by_cases hlt : k < q
        · go_wp2_with (at_builtin; refine wpList_push _ rfl (.tmp 34) (.tmp 36) _ rfl w.heap.size 3 _ _ Try.underlying22 infoI rfl (by decide) _ _ _ rfl R13 (.int .i64 each) rfl rfl (by omega) hbs ?_; intro v' w2 R13' g8)
          go_roundw
          case rel =>
            refine ⟨k + 1, by omega, by go_num, ?_, hB.grown g8 hbs (fun b hb => (R13.lt b hb).1)⟩
            rw [List.replicate_succ', List.map_append]; exact R13'
          case measure => simp [intOf]; omega
        · obtain rfl : k = q := by omega
          obtain ⟨A13, c13, hv13, hc13, _⟩ := R13.form
          subst hv13
          have hM := Lib.hid (Row.reads R13)
          clear R13
          have hr := h.below hB
          by_cases hg : GoodL l (List.replicate k each) slots
          · have HG := Lib.hid hg
            have HGO : Hid (GoodReqs l slots) := Lib.hid ⟨hg.1, fun x hx => by have := hg.2.2.2.1 x hx; simp at this; omega, hg.2.2.2.2⟩
            obtain ⟨s, rfl⟩ : ∃ s : Nat, slots = s := ⟨slots.toNat, by have := hg.2.2.2.2.1; omega⟩
            have hs1 : 1 ≤ s := by have := hg.2.2.2.2.1; omega
            have hn4 : n ≤ 40 := by have := HL.out; have := hg.1; omega
            have HAL := Lib.hid (show AllIn l 0 ((k : Int) - 1) from fun x hx => by have := hg.2.2.2.1 x hx; simp at this; omega)
            clear hg
            go_wp2_with fail
            refine (ldleast_ok _ _ _ _ _ _ _ _ _ _ hr hM.out HG.out).mono ?_; rintro e w3 ⟨v, rfl, hv, hB3⟩
            have hB03 := hB.trans (hB3.mono hbs)
            have HVQ := Lib.hid (least_opt e0 hs1 HAL.out hv)
            clear hv
            go_wp2_with fail
            refine (opt_ok _ _ _ _ _ _ (h.below hB03) hnc HGO.out).mono ?_; rintro e w4 ⟨A5, c5, A6, n6, c6, A7, n7, c7, rfl, R5, R6, R7, hn6, hn7, hB4⟩
            have hB04 := hB03.trans (hB4.mono hB03.size)
            rw [Int.toNat_natCast] at R5
            have RA := Lib.hid (Row.readsB R5)
            clear R5 R6 R7
            have hmn : missN (optF s [] l).1 ≤ 40 := by have := missN_le (optF s [] l).1; have := RA.out.len; omega
            have hvq := HVQ.out
            clear HVQ
            unfold optN at hvq
            have HX : Hid (RB w4 A5 n (optF s [] l).1) := RA
            clear RA
            obtain ⟨b, hb⟩ : ∃ b, missN (optF s [] l).1 = b := ⟨_, rfl⟩
            have HMA : Hid (∀ d, Calls Try.prog 9 #[.slice A5 n c5] (w4.drewN d) fun e w' => e = .returned (.int .i64 b) ∧ w4.drewN d = w') := Lib.hid (fun d => (misses_any _ _ c5 _ _ (HX.out.drewN d) (by omega)).mono fun _ _ ⟨x1, x2⟩ => ⟨by rw [x1, hb], x2⟩)
            rw [hb] at hvq hmn
            clear hb HX
            obtain ⟨u, rfl⟩ : ∃ u : Nat, each = u := ⟨each.toNat, by omega⟩
            have b3 : u * b ≤ 20 * 40 := Nat.mul_le_mul (by omega) hmn
            have em3 : ((u : Int) * b) = ((u * b : Nat) : Int) := by norm_cast
            have f3 : wrap64 ((u : Int) * b) = (u : Int) * b := by rw [em3]; exact IntWalk.wrap64_in _ (by omega)
            clear em3 b3
            subst hvq
            go_wp2_with fail
            refine (HMA.out 0).mono ?_; rintro e w' ⟨rfl, rfl⟩
            go_wp2
            go_ret
            exact ⟨by simp, hB04⟩
          · have HG := Lib.hid hg
            clear hg
            go_wp2_with fail
            refine (ldleast_no _ _ _ _ _ _ _ _ _ _ hr hM.out hn (by omega) HG.out).mono ?_; rintro e w3 ⟨rfl, hB3⟩
            go_wp2
            go_ret
            exact ⟨rfl, hB.trans (hB3.mono hbs)⟩
    · have he2 : each < 0 ∨ 20 < each := by omega
      have HE2 := Lib.hid he2
      clear he he2
      go_wp2_with fail
      refine (linL_no _ _ _ _ HE2.out).mono ?_; rintro e w' ⟨rfl, rfl⟩
      go_wp2
      go_ret
      exact ⟨rfl, hB01⟩
  · have hm2 : m < 1 ∨ 6 < m := by omega
    have HM2 := Lib.hid hm2
    clear hm hm2
    go_wp2_with fail
    refine (linL_no _ _ _ _ HM2.out).mono ?_; rintro e w' ⟨rfl, rfl⟩
    go_wp2
    go_ret
    exact ⟨rfl, hB01⟩
end Go.Proofs.Ytgljpdfmejganaa
