/- The walks of the laws StackFalls and StackCurve: each returns true, for every input. -/
import Derived.Test.YtdhbglkfhfimkaaStack
import Derived.Test.YtdhbglkfhfimkaaStackLaws
import Derived.Test.YtdhbglkfhfimkaaLru
import Derived.Test.YtdhbglkfhfimkaaSame
import Derived.IntWalk
namespace Go.Proofs.Ytdhbglkfhfimkaa
open Go.ChangeShapes Go.WideShapes Go.ChangeAt Go.RowKit

set_option maxHeartbeats 400000 in
theorem stackFact_ok (w : World) : Calls Try.prog 16 #[] w fun e w' => e = .returned (.bool true) ∧ Below w.heap.size w w' := by
  go_enter Try.func16, Try.ntmps16
  go_wp2_with fail
  have h0 := RI.lit w #[.int .i64 1, .int .i64 2, .int .i64 2, .int .i64 1] 3 [1, 2, 2, 1] 4 rfl rfl
  have hB0 := (Below.refl w.heap.size w).alloc (Nat.le_refl _) (.cells #[.int .i64 1, .int .i64 2, .int .i64 2, .int .i64 1] 3)
  refine (depths_ok _ _ _ _ _ h0 (by simp [GoodReqs, AllIn])).mono ?_; rintro e w1 ⟨A1, c1, rfl, R1, hc1, hB1⟩
  have hB01 := hB0.trans (hB1.mono hB0.size)
  have e2 : (depthRun [1, 2, 2, 1]).1 = [0, 0, 1, 2] := by decide
  rw [e2] at R1
  clear e2
  have hw1 := hB01.size
  have M2 : Hid (eqI [0, 0, 1, 2] [0, 0, 1, 2] = true) := by simp [Hid, eqI]
  go_wp2_with fail
  have h2 := RI.lit w1 #[.int .i64 0, .int .i64 0, .int .i64 1, .int .i64 2] 3 [0, 0, 1, 2] 4 rfl rfl
  refine (ints_any _ _ _ _ _ _ _ _ _ ((Row.reads R1).below ((Below.refl w1.heap.size w1).alloc (Nat.le_refl _) _)) h2 (by omega) (by omega)).mono ?_; rintro e w' ⟨rfl, d, rfl⟩
  rw [M2.out]
  go_wp2
  go_ret
  exact ⟨rfl, belowN (hB01.alloc hw1 _) _⟩

set_option maxRecDepth 100000 in
set_option maxHeartbeats 4000000 in
theorem law_StackFalls (A : Option Addr) (n c : Nat) (l : List Int) (w : World) (h : RI w A n l) (hn : n ≤ 9223372036854775807) :
    Calls Try.prog 5 #[.slice A n c] w fun e w' => e = .returned (.bool true) ∧ Below w.heap.size w w' := by
  by_cases hg : GoodReqs l 1
  · have HL := Lib.hid h.len
    have HG := Lib.hid hg
    have hn4 : n ≤ 40 := by have := HL.out; have := hg.1; omega
    clear hn hg
    obtain ⟨ce1, ce2⟩ := curve_eight l
    have hds := depth_len l
    have hcl : ∀ k, cntD (depthRun l).1 k ≤ 40 := fun k => by have := cntD_le (depthRun l).1 k; have := HL.out; omega
    have HCN := Lib.hid (fun k => cnt_neighbour l k)
    have HCL := Lib.hid hcl
    have HDS := Lib.hid hds
    have hsl := someN_le l
    have hl40 : l.length ≤ 40 := HG.out.1
    clear hcl hds
    go_enter Try.func5, Try.ntmps5
    go_wp2_with fail
    refine (stackFact_ok _).mono ?_; rintro e w0 ⟨rfl, hB0⟩
    have h0 := h.below hB0
    go_wp2_with fail
    refine (curve_ok _ _ _ _ _ h0 HG.out).mono ?_; rintro e w1 ⟨A1, c1, rfl, R1, hc1, hB1⟩
    have hB01 : Below w.heap.size w w1 := hB0.trans (hB1.mono hB0.size)
    have h1 := h0.below hB1
    have RC := Lib.hid (Row.reads R1)
    obtain ⟨ad1, _, hA1, _, _⟩ := RC.out.at_ (k := 0) (by omega)
    subst hA1
    clear R1
    have hcell : Hid (∀ k, k < 8 → w1.cell? (ad1.add k) = some (.int .i64 ((cntD (depthRun l).1 k : Nat) : Int))) := Lib.hid (fun k hk => by
      obtain ⟨ad, x, hA, HX, hc⟩ := RC.out.at_ hk
      injection hA with hA
      subst hA
      have := HX.out
      rw [curve_at _ k hk] at this
      injection this with this
      rw [this]; exact hc)
    go_wp2
    go_loopw [6] (fun i wr => ∃ k d : Nat, 1 ≤ k ∧ k ≤ 8 ∧ i = .int .i64 k ∧ wr = w1.drewN d) (fun i _ => 8 - (intOf i).toNat)
    case atStart => exact ⟨1, 0, by omega, by omega, by go_num, rfl⟩
    case round =>
      obtain ⟨k, d, hk1, hk8, rfl, rfl⟩ := hrel
      by_cases hlt : k < 8
      · have hca := hcell.out k hlt
        have hcb := hcell.out (k - 1) (by omega)
        have hmo := cntD_mono (depthRun l).1 (k - 1)
        rw [show k - 1 + 1 = k by omega] at hmo
        have x1 := HCL.out k
        have x2 := HCL.out (k - 1)
        generalize cntD (depthRun l).1 k = p at *
        generalize cntD (depthRun l).1 (k - 1) = q at *
        have hpq : ¬ (q : Int) < p := by omega
        have hpq2 : ¬ q < p := by omega
        have hlt' : (k : Int) < 8 := by omega
        go_wp2
        have e2 : IntKind.i64.wrap ((k : Int) - 1) = ((k - 1 : Nat) : Int) := by rw [show (k : Int) - 1 = ((k - 1 : Nat) : Int) by omega]; exact IntWalk.i64_in _ (by omega)
        have e3 : k - 1 < 8 := by omega
        go_quiet (fail)
        clear e2 e3
        go_wp2
        go_roundw
        case rel => exact ⟨k + 1, _, by omega, by omega, by go_num, rfl⟩
        case measure => simp [intOf]; omega
      · go_wp2
        go_loopw [7, 8] (fun m i wr => ∃ k q d : Nat, k ≤ n ∧ i = .int .i64 k ∧ m = .int .i64 q ∧ q ≤ k ∧ wr = w1.drewN d ∧ Hid (q = cntD ((depthRun l).1.take k) 0)) (fun _ i _ => n - (intOf i).toNat)
        case atStart => exact ⟨0, 0, _, by omega, by go_num, by go_num, by omega, rfl, Lib.hid (by simp [cntD])⟩
        case round =>
          obtain ⟨k, q, d, hk, rfl, rfl, hqk, rfl, HQ⟩ := hrel
          by_cases hlt : k < n
          · obtain ⟨ad, y, rfl, HY, hc⟩ := h1.at_ hlt
            have HN := Lib.hid (HCN.out k y HY.out)
            by_cases hk0 : k = 0
            · subst hk0
              have HN2 : Hid (q + 1 = cntD ((depthRun l).1.take (0 + 1)) 0) := Lib.hid (by rw [HN.out, if_pos (.inl rfl), ← HQ.out])
              go_wp2
              go_quiet (fail)
              go_wp2
              go_roundw
              case rel => exact ⟨0 + 1, q + 1, _, by omega, by go_num, by go_num, by omega, rfl, HN2⟩
              case measure => simp [intOf]; omega
            · obtain ⟨ad', x, hA, HX, hcx⟩ := h1.at_ (show k - 1 < n by omega)
              injection hA with hA
              subst hA
              have hkb : ((k : Int) == 0) = false := by simp; omega
              by_cases hxy : y = x
              · subst hxy
                have HN2 : Hid (q = cntD ((depthRun l).1.take (k + 1)) 0) := Lib.hid (by rw [HN.out, if_neg (by rintro (a | a); exact hk0 a; exact a HX.out), ← HQ.out]; rfl)
                have gy : ((y : Int) != y) = false := by simp
                go_wp2
                have e2 : IntKind.i64.wrap ((k : Int) - 1) = ((k - 1 : Nat) : Int) := by rw [show (k : Int) - 1 = ((k - 1 : Nat) : Int) by omega]; exact IntWalk.i64_in _ (by omega)
                have e3 : k - 1 < n := by omega
                go_quiet (fail)
                clear e2 e3
                go_wp2
                clear gy hkb
                go_roundw
                case rel => exact ⟨k + 1, q, _, by omega, by go_num, rfl, by omega, rfl, HN2⟩
                case measure => simp [intOf]; omega
              · have HN2 : Hid (q + 1 = cntD ((depthRun l).1.take (k + 1)) 0) := Lib.hid (by rw [HN.out, if_pos (.inr (by rw [HX.out]; intro h; injection h with h; exact hxy h.symm)), ← HQ.out])
                have gy : ((y : Int) != x) = true := by simp [hxy]
                go_wp2
                have e2 : IntKind.i64.wrap ((k : Int) - 1) = ((k - 1 : Nat) : Int) := by rw [show (k : Int) - 1 = ((k - 1 : Nat) : Int) by omega]; exact IntWalk.i64_in _ (by omega)
                have e3 : k - 1 < n := by omega
                go_quiet (fail)
                clear e2 e3
                go_wp2
                clear gy hkb
                go_roundw
                case rel => exact ⟨k + 1, q + 1, _, by omega, by go_num, by go_num, by omega, rfl, HN2⟩
                case measure => simp [intOf]; omega
          · have HE : Hid (q = cntD (depthRun l).1 0) := Lib.hid (by have := HQ.out; rwa [List.take_of_length_le (by have := HL.out; have := HDS.out; omega)] at this)
            have hc0 := hcell.out 0 (by omega)
            have hc7 := hcell.out 7 (by omega)
            rw [show ad1.add 0 = ad1 from by simp [Addr.add]] at hc0
            rw [← HE.out] at hc0
            have x7 := HCL.out 7
            have h2 : RI (w1.drewN d) A n l := h1.drewN d
            have HSM : Hid (∀ e, Calls Try.prog 11 #[.slice A n c] ((w1.drewN d).drewN e) fun x w' => x = .returned (.int .i64 ((someN l : Nat) : Int)) ∧ ∃ m, w' = ((w1.drewN d).drewN e).drewN m) := Lib.hid (fun e => some_any _ _ _ _ _ (h2.drewN e) (by omega))
            have hB2 := belowN hB01 d
            have k0 : (w1.drewN d).cell? ad1 = some (.int .i64 ((q : Nat) : Int)) := hc0
            have k7 : (w1.drewN d).cell? (ad1.add 7) = some (.int .i64 ((cntD (depthRun l).1 7 : Nat) : Int)) := hc7
            have k7' : (w1.drewN d).cell? ⟨ad1.block, ad1.off + 7, none⟩ = some (.int .i64 ((cntD (depthRun l).1 7 : Nat) : Int)) := by rw [← add_succ ad1 6]; exact hc7
            clear hc0 hc7 HE HQ HCN HDS hcell
            generalize w1.drewN d = w2 at *
            generalize cntD (depthRun l).1 7 = p7 at *
            generalize someN l = sm at *
            have gx : ∀ x : Int, (x == x) = true := by simp
            by_cases h8 : sm ≤ 8
            · have e7 := ce2 h8
              subst e7
              have hs8 : ¬ (8 : Int) < (p7 : Int) := by omega
              have hs8' : decide ((8 : Int) < (p7 : Int)) = false := by simp; omega
              have hs9' : decide (8 < p7) = false := by simp; omega
              clear ce2
              go_wp2
              go_quiet ((go_at_call 11; exact Calls.quiet_of (HSM.out _)))
              go_wp2
              go_ret
              exact ⟨by simp, belowN hB2 _⟩
            · have hs8 : (8 : Int) < (sm : Int) := by omega
              have hs8' : decide ((8 : Int) < (sm : Int)) = true := by simp; omega
              have hs9' : decide (8 < sm) = true := by simp; omega
              clear ce2
              go_wp2
              go_quiet ((go_at_call 11; exact Calls.quiet_of (HSM.out _)))
              go_wp2
              go_ret
              exact ⟨by simp, belowN hB2 _⟩
  · have HG := Lib.hid hg
    clear hg
    go_enter Try.func5, Try.ntmps5
    go_wp2_with fail
    refine (stackFact_ok _).mono ?_; rintro e w0 ⟨rfl, hB0⟩
    go_wp2_with fail
    refine (curve_no _ _ _ _ _ (h.below hB0) hn HG.out).mono ?_; rintro e w1 ⟨rfl, rfl⟩
    go_wp2
    go_ret
    exact ⟨rfl, hB0⟩

theorem lin1_ok (n lo hi : Int) (w : World) (h1 : lo ≤ n) (h2 : n ≤ hi) :
    Calls Try.prog 10 #[.int .i64 n, .int .i64 lo, .int .i64 hi] w fun e w' => e = .returned (.bool true) ∧ w = w' := by
  go_enter Try.func10, Try.ntmps10
  go_wp2
  go_ret
  exact ⟨rfl, rfl⟩
theorem lin1_no (n lo hi : Int) (w : World) (h : n < lo ∨ hi < n) :
    Calls Try.prog 10 #[.int .i64 n, .int .i64 lo, .int .i64 hi] w fun e w' => e = .returned (.bool false) ∧ w = w' := by
  by_cases h1 : lo ≤ n
  · have h2 : ¬ n ≤ hi := by omega
    clear h
    go_enter Try.func10, Try.ntmps10
    go_wp2
    go_ret
    exact ⟨rfl, rfl⟩
  · clear h
    go_enter Try.func10, Try.ntmps10
    go_wp2
    go_ret
    exact ⟨rfl, rfl⟩

set_option maxRecDepth 100000 in
set_option maxHeartbeats 4000000 in
theorem law_StackCurve (A : Option Addr) (n c : Nat) (l : List Int) (slots : Int) (w : World) (h : RI w A n l) (hn : n ≤ 9223372036854775807) :
    Calls Try.prog 6 #[.slice A n c, .int .i64 slots] w fun e w' => e = .returned (.bool true) ∧ Below w.heap.size w w' := by
  by_cases hg : GoodReqs l 1
  · have HL := Lib.hid h.len
    have HG := Lib.hid hg
    have hn4 : n ≤ 40 := by have := HL.out; have := hg.1; omega
    clear hn hg
    by_cases hsl : 1 ≤ slots ∧ slots ≤ 8
    · obtain ⟨s, rfl⟩ : ∃ s : Nat, slots = s := ⟨slots.toNat, by omega⟩
      obtain ⟨s1, s2⟩ := hsl
      have hs1 : 1 ≤ s := by omega
      have hs2 : s ≤ 8 := by omega
      have HGS : Hid (GoodReqs l (s : Int)) := Lib.hid ⟨HG.out.1, HG.out.2.1, s1, s2⟩
      go_enter Try.func6, Try.ntmps6
      go_wp2_with fail
      refine (stackFact_ok _).mono ?_; rintro e w0 ⟨rfl, hB0⟩
      have h0 := h.below hB0
      go_wp2_with fail
      refine (curve_ok _ _ _ _ _ h0 HG.out).mono ?_; rintro e w1 ⟨A1, c1, rfl, R1, hc1, hB1⟩
      have hB01 : Below w.heap.size w w1 := hB0.trans (hB1.mono hB0.size)
      have h1 := h0.below hB1
      go_wp2_with fail
      refine (depths_ok _ _ _ _ _ h1 HG.out).mono ?_; rintro e w2 ⟨A2, c2, rfl, R2, hc2, hB2⟩
      have hB02 : Below w.heap.size w w2 := hB01.trans (hB2.mono hB01.size)
      have h2 := h1.below hB2
      have R1' := R1.below hB2
      have gn : ((n : Int) != (n : Int)) = false := by simp
      go_wp2_with fail
      refine (lin1_ok _ _ _ _ s1 s2).mono ?_; rintro e w' ⟨rfl, rfl⟩
      go_wp2_with fail
      refine (lru_ok _ _ _ _ _ _ h2 HGS.out).mono ?_; rintro e w3 ⟨A3, c3, A4, n4, c4, rfl, R3, R4, hn4', hB3⟩
      rw [Int.toNat_natCast] at R3
      have hB03 : Below w.heap.size w w3 := hB02.trans (hB3.mono hB02.size)
      have RC := Lib.hid (Row.reads (R1'.below hB3))
      have RD := Lib.hid (Row.reads (R2.below hB3))
      have RH := Lib.hid (Row.readsB R3)
      clear R1 R1' R2 R3 R4
      obtain ⟨adc, x, rfl, HX, hcx⟩ := RC.out.at_ (k := s - 1) (by omega)
      have hx : x = ((missN (lruRun s l).1 : Nat) : Int) := by
        have := HX.out
        rw [curve_at _ (s - 1) (by omega)] at this
        injection this with this
        rw [← this, miss_curve s hs1 l]
      subst hx
      have HMI : Hid (∀ e, Calls Try.prog 15 #[.slice A3 n c3] (w3.drewN e) fun x w' => x = .returned (.int .i64 ((missN (lruRun s l).1 : Nat) : Int)) ∧ w' = w3.drewN e) := Lib.hid (fun e =>
        (misses_any _ _ _ _ _ (RH.out.drewN e) (by omega)).mono fun _ _ ⟨x1, x2⟩ => ⟨x1, x2.symm⟩)
      have gm : ((((missN (lruRun s l).1 : Nat) : Int)) != (((missN (lruRun s l).1 : Nat) : Int))) = false := by simp
      go_wp2
      have e2 : IntKind.i64.wrap ((s : Int) - 1) = ((s - 1 : Nat) : Int) := by rw [show (s : Int) - 1 = ((s - 1 : Nat) : Int) by omega]; exact IntWalk.i64_in _ (by omega)
      have e3 : s - 1 < 8 := by omega
      go_quiet ((go_at_call 15; exact Calls.quiet_of_same (HMI.out _)))
      clear e2 e3
      go_wp2
      clear gm gn
      go_loopw [13] (fun i wr => ∃ k d : Nat, k ≤ n ∧ i = .int .i64 k ∧ wr = w3.drewN d) (fun i _ => n - (intOf i).toNat)
      case atStart => exact ⟨0, _, by omega, by go_num, rfl⟩
      case round =>
        obtain ⟨k, d, hk, rfl, rfl⟩ := hrel
        by_cases hlt : k < n
        · obtain ⟨ad1, b, rfl, HB, hcb⟩ := RH.out.at_ hlt
          obtain ⟨ad2, z, rfl, HZ, hcz⟩ := RD.out.at_ hlt
          have hb : b = decide (0 < z ∧ z ≤ (s : Int)) := by
            have := lru_depth_at s hs1 l k z HZ.out
            rw [HB.out] at this
            injection this
          have HBB := Lib.hid hb
          clear hb
          by_cases hz0 : 0 < z
          · by_cases hzs : z ≤ (s : Int)
            · have e1 : b = true := HBB.out.trans (decide_eq_true ⟨hz0, hzs⟩)
              subst e1
              go_wp2
              go_quiet (fail)
              go_wp2
              go_roundw
              case rel => exact ⟨k + 1, _, by omega, by go_num, rfl⟩
              case measure => simp [intOf]; omega
            · have e1 : b = false := HBB.out.trans (decide_eq_false (fun h => hzs h.2))
              subst e1
              go_wp2
              go_quiet (fail)
              go_wp2
              go_roundw
              case rel => exact ⟨k + 1, _, by omega, by go_num, rfl⟩
              case measure => simp [intOf]; omega
          · have e1 : b = false := HBB.out.trans (decide_eq_false (fun h => hz0 h.1))
            subst e1
            have hz1 : decide (0 < z) = false := by simp; omega
            go_wp2
            go_quiet (fail)
            go_wp2
            go_roundw
            case rel => exact ⟨k + 1, _, by omega, by go_num, rfl⟩
            case measure => simp [intOf]; omega
        · go_wp2
          go_ret
          exact ⟨rfl, belowN hB03 _⟩
    · have hsl2 : slots < 1 ∨ 8 < slots := by omega
      have HSL := Lib.hid hsl2
      clear hsl hsl2
      go_enter Try.func6, Try.ntmps6
      go_wp2_with fail
      refine (stackFact_ok _).mono ?_; rintro e w0 ⟨rfl, hB0⟩
      have h0 := h.below hB0
      go_wp2_with fail
      refine (curve_ok _ _ _ _ _ h0 HG.out).mono ?_; rintro e w1 ⟨A1, c1, rfl, R1, hc1, hB1⟩
      have hB01 : Below w.heap.size w w1 := hB0.trans (hB1.mono hB0.size)
      have h1 := h0.below hB1
      go_wp2_with fail
      refine (depths_ok _ _ _ _ _ h1 HG.out).mono ?_; rintro e w2 ⟨A2, c2, rfl, R2, hc2, hB2⟩
      have hB02 : Below w.heap.size w w2 := hB01.trans (hB2.mono hB01.size)
      have gn : ((n : Int) != (n : Int)) = false := by simp
      go_wp2_with fail
      refine (lin1_no _ _ _ _ HSL.out).mono ?_; rintro e w' ⟨rfl, rfl⟩
      go_wp2
      go_ret
      exact ⟨rfl, hB02⟩
  · have HG := Lib.hid hg
    clear hg
    go_enter Try.func6, Try.ntmps6
    go_wp2_with fail
    refine (stackFact_ok _).mono ?_; rintro e w0 ⟨rfl, hB0⟩
    go_wp2_with fail
    refine (curve_no _ _ _ _ _ (h.below hB0) hn HG.out).mono ?_; rintro e w1 ⟨rfl, rfl⟩
    go_wp2_with fail
    refine (depths_no _ _ _ _ _ (h.below hB0) hn HG.out).mono ?_; rintro e w1 ⟨rfl, rfl⟩
    go_wp2
    go_ret
    exact ⟨rfl, hB0⟩
end Go.Proofs.Ytdhbglkfhfimkaa
