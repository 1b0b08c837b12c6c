/- The walk of the law LruLast: it returns true, for every input. -/
import Derived.Test.YtoeoennocdpblaaLruLaw
import Derived.Test.YtoeoennocdpblaaLastPlain
import Derived.IntWalk
namespace Go.Proofs.Ytoeoennocdpblaa
open Go.ChangeShapes Go.WideShapes Go.ChangeAt Go.RowKit

set_option maxRecDepth 100000 in
set_option maxHeartbeats 4000000 in
theorem law_LruLast (A : Option Addr) (n c : Nat) (l : List Int) (slots : Int) (w : World) (h : RI w A n l) (hn : n ≤ 9223372036854775807) :
    Calls Try.prog 8 #[.slice A n c, .int .i64 slots] w fun e w' => e = .returned (.bool true) ∧ Below w.heap.size w w' := by
  by_cases hg : GoodReqs l slots
  · obtain ⟨s, rfl⟩ : ∃ s : Nat, slots = s := ⟨slots.toNat, by have := hg.2.2.1; omega⟩
    have HL := Lib.hid h.len
    have HG := Lib.hid hg
    have hn4 : n ≤ 40 := by have := HL.out; have := hg.1; omega
    have hs1 : 1 ≤ s := by have := hg.2.2.1; omega
    have hs2 : s ≤ 8 := by have := hg.2.2.2; omega
    clear hn hg
    have hsl := someN_le l
    have hl40 : l.length ≤ 40 := HG.out.1
    obtain ⟨k1, k2, k3⟩ := lru_held_len s hs1 l
    have K1 := Lib.hid k1
    have K2 := Lib.hid k2
    have K3 := Lib.hid k3
    clear k1 k2 k3
    go_enter Try.func8, Try.ntmps8
    go_wp2_with fail
    refine (lruFact_ok _).mono ?_; rintro e w0 ⟨rfl, hB0⟩
    have h0 := h.below hB0
    go_wp2_with fail
    refine (lru_ok _ _ _ _ _ _ h0 HG.out).mono ?_; rintro e w1 ⟨A1, c1, A2, m, c2, rfl, R1, R2, hm2, hB1⟩
    have hB01 : Below w.heap.size w w1 := hB0.trans (hB1.mono hB0.size)
    have h1 := h0.below hB1
    rw [Int.toNat_natCast] at R2
    have hml : (lruRun s l).2.length = m := by have := R2.len; simpa using this
    have hmc : m ≤ c2 := Row.cap R2
    have RQ := Lib.hid (Row.reads R2)
    have HML := Lib.hid hml
    clear R1 R2 hml
    have hlow : m ≤ 8 := by
      have a1 := K2.out
      have a2 := HML.out
      by_cases hf : someN l < s
      · rw [if_pos hf] at a1; omega
      · rw [if_neg hf] at a1; omega
    by_cases hf : someN l < s
    · have HS3 : Hid (someN (lruRun s l).2 = m) := Lib.hid (K3.out.trans HML.out)
      have hme : m = someN l := by have := K2.out; rw [if_pos hf] at this; exact HML.out.symm.trans this
      have hfi : (someN l : Int) < s := by omega
      have HME := Lib.hid hme
      clear hme
      have gx : ∀ x : Int, (x != x) = false := by simp
      go_wp2_with fail
      refine (some_any _ _ _ _ _ h1 (by omega)).mono ?_; rintro e w' ⟨rfl, d, rfl⟩
      have hB2 := belowN hB01 d
      have h2 : RI (w1.drewN d) A n l := h1.drewN d
      have RQ2 := Lib.hid (RQ.out.drewN d)
      clear RQ h1
      generalize w1.drewN d = w2 at *
      go_wp2_with fail
      refine (some_any _ _ _ _ _ h2 (by omega)).mono ?_; rintro e w' ⟨rfl, d2, rfl⟩
      have hB3 := belowN hB2 d2
      have h3 : RI (w2.drewN d2) A n l := h2.drewN d2
      have RQ3 := Lib.hid (RQ2.out.drewN d2)
      clear RQ2 h2
      generalize w2.drewN d2 = w3 at *
      rw [← HME.out]
      go_wp2_with fail
      refine (some_any _ _ _ _ _ RQ3.out (by omega)).mono ?_; rintro e w' ⟨rfl, d3, rfl⟩
      rw [HS3.out]
      have hB4 := belowN hB3 d3
      have h4 : RI (w3.drewN d3) A n l := h3.drewN d3
      have RQ4 := Lib.hid (RQ3.out.drewN d3)
      clear RQ3 h3
      generalize w3.drewN d3 = w4 at *
      go_wp2
      clear gx
      go_loopw [10, 11] (fun v10 v11 wr => ∃ a i : Nat, a ≤ n ∧ i ≤ m ∧ v10 = .int .i64 a ∧ v11 = .int .i64 i ∧ Below w4.heap.size w4 wr ∧ Hid (dd (l.reverse.take (l.length - a)) = (recL l).take i)) (fun _ v11 _ => m - (intOf v11).toNat)
      case atStart => exact ⟨n, 0, by omega, by omega, rfl, by go_num, Below.refl _ _, Lib.hid (by rw [show l.length - n = 0 by have := HL.out; omega]; rfl)⟩
      case round =>
        obtain ⟨a, i, ha, hi, rfl, rfl, hB, HI⟩ := hrel
        by_cases hlt : i < m
        · go_wp2
          go_loopw [10] (fun v10 wr => ∃ b : Nat, b ≤ a ∧ v10 = .int .i64 ((b : Int) - 1) ∧ Below w4.heap.size w4 wr ∧ Hid (dd (l.reverse.take (l.length - b)) = (recL l).take i)) (fun v10 _ => (intOf v10 + 1).toNat)
          case atStart => exact ⟨a, by omega, rfl, hB, HI⟩
          case round =>
            obtain ⟨b, hba, rfl, hB, HB⟩ := hrel
            rcases b with _ | b
            · exfalso
              refine last_none HB.out ?_
              have := K1.out
              have h5 := HML.out
              rw [this, List.length_take] at h5
              omega
            · have hr := h4.below hB
              have hq := RQ4.out.below hB
              obtain ⟨ad, x, rfl, HX, hcx⟩ := hr.at_ (show b < n by omega)
              obtain ⟨HY1, HY2⟩ := last_next (by have := HL.out; omega) HB.out HX.out
              have HIN := Lib.hid HY1
              have HNI := Lib.hid HY2
              clear HY1 HY2
              have hz : (((b + 1 : Nat) : Int) - 1) = b := by omega
              rw [hz]
              clear hz
              have hb0 : (0 : Int) ≤ b := by omega
              have hi1 : (0 : Int) ≤ i := by omega
              have hi2 : (i : Int) ≤ c2 := by omega
              have hi3 : i ≤ c2 := by omega
              have HTK : Hid (∀ d, RI (wr.drewN d) A2 i ((recL l).take i)) := Lib.hid (fun d => by
                have h6 := (hq.take (k := i) (by omega)).drewN d
                rw [K1.out, List.take_take, Nat.min_eq_left (by have := K1.out; have h5 := HML.out; rw [this, List.length_take] at h5; omega)] at h6
                exact h6)
              by_cases hin : x ∈ (recL l).take i
              · have HH := Lib.hid ((hasB_iff _ _).2 hin)
                have HN := Lib.hid (HIN.out hin)
                clear hin
                go_wp2
                go_quiet ((go_at_call 13; exact Calls.quiet_of_same (has_q _ _ _ _ _ _ (HTK.out _) (by omega))))
                rw [HH.out]
                go_wp2
                go_roundw
                case rel => exact ⟨b, by omega, rfl, belowN hB _, HN⟩
                case measure => simp [intOf]
              · have HH := Lib.hid ((hasB_false _ _).2 hin)
                obtain ⟨hn1, hn2⟩ := HNI.out hin
                have HN := Lib.hid hn2
                have hxi : (lruRun s l).2[i]? = some x := by rw [K1.out, List.getElem?_take, if_pos (by have := K1.out; have h5 := HML.out; rw [this, List.length_take] at h5; omega)]; exact hn1
                obtain ⟨ad2, x', rfl, HX2, hcx2⟩ := hq.at_ hlt
                have hxx : x' = x := by have := HX2.out; rw [hxi] at this; injection this with this; exact this.symm
                subst hxx
                clear hin hn1 hn2 hxi
                have gy : (x' != x') = false := by simp
                go_wp2
                go_quiet ((go_at_call 13; exact Calls.quiet_of_same (has_q _ _ _ _ _ _ (HTK.out _) (by omega))))
                rw [HH.out]
                have hb1 : decide ((b : Int) < 0) = false := by simp
                go_wp2
                go_quiet (fail)
                go_wp2
                clear gy
                go_roundw
                case rel => exact ⟨b, i + 1, by omega, by omega, rfl, by go_num, belowN hB _, HN⟩
                case measure => simp [intOf]; omega
        · go_wp2
          go_ret
          exact ⟨rfl, hB4.trans (hB.mono hB4.size)⟩
    · have HS3 : Hid (someN (lruRun s l).2 = m) := Lib.hid (K3.out.trans HML.out)
      have hme : m = s := by have := K2.out; rw [if_neg hf] at this; exact HML.out.symm.trans this
      have hfi : ¬ (someN l : Int) < s := by omega
      have gx : ∀ x : Int, (x != x) = false := by simp
      subst hme
      go_wp2_with fail
      refine (some_any _ _ _ _ _ h1 (by omega)).mono ?_; rintro e w' ⟨rfl, d, rfl⟩
      have hB3 := belowN hB01 d
      have h3 : RI (w1.drewN d) A n l := h1.drewN d
      have RQ3 := Lib.hid (RQ.out.drewN d)
      clear RQ h1
      generalize w1.drewN d = w3 at *
      go_wp2_with fail
      refine (some_any _ _ _ _ _ RQ3.out (by omega)).mono ?_; rintro e w' ⟨rfl, d3, rfl⟩
      rw [HS3.out]
      have hB4 := belowN hB3 d3
      have h4 : RI (w3.drewN d3) A n l := h3.drewN d3
      have RQ4 := Lib.hid (RQ3.out.drewN d3)
      clear RQ3 h3
      generalize w3.drewN d3 = w4 at *
      go_wp2
      clear gx
      go_loopw [10, 11] (fun v10 v11 wr => ∃ a i : Nat, a ≤ n ∧ i ≤ m ∧ v10 = .int .i64 a ∧ v11 = .int .i64 i ∧ Below w4.heap.size w4 wr ∧ Hid (dd (l.reverse.take (l.length - a)) = (recL l).take i)) (fun _ v11 _ => m - (intOf v11).toNat)
      case atStart => exact ⟨n, 0, by omega, by omega, rfl, by go_num, Below.refl _ _, Lib.hid (by rw [show l.length - n = 0 by have := HL.out; omega]; rfl)⟩
      case round =>
        obtain ⟨a, i, ha, hi, rfl, rfl, hB, HI⟩ := hrel
        by_cases hlt : i < m
        · go_wp2
          go_loopw [10] (fun v10 wr => ∃ b : Nat, b ≤ a ∧ v10 = .int .i64 ((b : Int) - 1) ∧ Below w4.heap.size w4 wr ∧ Hid (dd (l.reverse.take (l.length - b)) = (recL l).take i)) (fun v10 _ => (intOf v10 + 1).toNat)
          case atStart => exact ⟨a, by omega, rfl, hB, HI⟩
          case round =>
            obtain ⟨b, hba, rfl, hB, HB⟩ := hrel
            rcases b with _ | b
            · exfalso
              refine last_none HB.out ?_
              have := K1.out
              have h5 := HML.out
              rw [this, List.length_take] at h5
              omega
            · have hr := h4.below hB
              have hq := RQ4.out.below hB
              obtain ⟨ad, x, rfl, HX, hcx⟩ := hr.at_ (show b < n by omega)
              obtain ⟨HY1, HY2⟩ := last_next (by have := HL.out; omega) HB.out HX.out
              have HIN := Lib.hid HY1
              have HNI := Lib.hid HY2
              clear HY1 HY2
              have hz : (((b + 1 : Nat) : Int) - 1) = b := by omega
              rw [hz]
              clear hz
              have hb0 : (0 : Int) ≤ b := by omega
              have hi1 : (0 : Int) ≤ i := by omega
              have hi2 : (i : Int) ≤ c2 := by omega
              have hi3 : i ≤ c2 := by omega
              have HTK : Hid (∀ d, RI (wr.drewN d) A2 i ((recL l).take i)) := Lib.hid (fun d => by
                have h6 := (hq.take (k := i) (by omega)).drewN d
                rw [K1.out, List.take_take, Nat.min_eq_left (by have := K1.out; have h5 := HML.out; rw [this, List.length_take] at h5; omega)] at h6
                exact h6)
              by_cases hin : x ∈ (recL l).take i
              · have HH := Lib.hid ((hasB_iff _ _).2 hin)
                have HN := Lib.hid (HIN.out hin)
                clear hin
                go_wp2
                go_quiet ((go_at_call 13; exact Calls.quiet_of_same (has_q _ _ _ _ _ _ (HTK.out _) (by omega))))
                rw [HH.out]
                go_wp2
                go_roundw
                case rel => exact ⟨b, by omega, rfl, belowN hB _, HN⟩
                case measure => simp [intOf]
              · have HH := Lib.hid ((hasB_false _ _).2 hin)
                obtain ⟨hn1, hn2⟩ := HNI.out hin
                have HN := Lib.hid hn2
                have hxi : (lruRun m l).2[i]? = some x := by rw [K1.out, List.getElem?_take, if_pos (by have := K1.out; have h5 := HML.out; rw [this, List.length_take] at h5; omega)]; exact hn1
                obtain ⟨ad2, x', rfl, HX2, hcx2⟩ := hq.at_ hlt
                have hxx : x' = x := by have := HX2.out; rw [hxi] at this; injection this with this; exact this.symm
                subst hxx
                clear hin hn1 hn2 hxi
                have gy : (x' != x') = false := by simp
                go_wp2
                go_quiet ((go_at_call 13; exact Calls.quiet_of_same (has_q _ _ _ _ _ _ (HTK.out _) (by omega))))
                rw [HH.out]
                have hb1 : decide ((b : Int) < 0) = false := by simp
                go_wp2
                go_quiet (fail)
                go_wp2
                clear gy
                go_roundw
                case rel => exact ⟨b, i + 1, by omega, by omega, rfl, by go_num, belowN hB _, HN⟩
                case measure => simp [intOf]; omega
        · go_wp2
          go_ret
          exact ⟨rfl, hB4.trans (hB.mono hB4.size)⟩
  · have HG := Lib.hid hg
    clear hg
    go_enter Try.func8, Try.ntmps8
    go_wp2_with fail
    refine (lruFact_ok _).mono ?_; rintro e w0 ⟨rfl, hB0⟩
    go_wp2_with fail
    refine (lru_no _ _ _ _ _ _ (h.below hB0) hn HG.out).mono ?_; rintro e w1 ⟨rfl, rfl⟩
    go_wp2
    go_ret
    exact ⟨rfl, hB0⟩
end Go.Proofs.Ytoeoennocdpblaa
