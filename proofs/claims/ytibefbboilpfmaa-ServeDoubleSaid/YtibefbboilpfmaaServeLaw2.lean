/- The walks of the laws ServeOne, ServeDouble, ServeLeast: they return true, for every input. -/
import Derived.Test.YtibefbboilpfmaaServeLaw
import Derived.Test.YtibefbboilpfmaaServeLaws2
namespace Go.Proofs.Ytibefbboilpfmaa
open Go.ChangeShapes Go.WideShapes Go.ChangeAt Go.RowKit

set_option maxRecDepth 100000 in
set_option maxHeartbeats 2000000 in
theorem law_ServeOne (at0 : Int) (Ac : Option Addr) (m cc : Nat) (a : List Int) (w : World) (hc : RI w Ac m a) (hm : m ≤ 9223372036854775807) :
    Calls Try.prog 7 #[.int .i64 at0, .slice Ac m cc] w fun e w' => e = .returned (.bool true) ∧ Below w.heap.size w w' := by
  have HM := Lib.hid hc.len
  have hl : ∀ (p : Int) (W : World), RI (W.alloc (.cells #[.int .i64 p] 3)) (some ⟨W.heap.size, 0, none⟩) 1 [p] := fun p W => RI.lit W #[.int .i64 p] 3 [p] 1 rfl rfl
  have ha : ∀ (p : Int) (W : World), Below W.heap.size W (W.alloc (.cells #[.int .i64 p] 3)) := fun p W => (Below.refl _ W).alloc (Nat.le_refl _) _
  go_enter Try.func7, Try.ntmps7
  go_wp2_with fail
  refine (serveFact_ok _).mono ?_; rintro e w0 ⟨rfl, hB0⟩
  by_cases hg : GoodS [at0] a
  · have HG := Lib.hid hg
    have hp : 0 ≤ at0 ∧ at0 ≤ 12 := hg.2.2.2.1 at0 (by simp)
    have hm20 : m ≤ 20 := by have := hc.len; have := hg.2.2.1; omega
    clear hg
    have b0 := hB0.alloc hB0.size (.cells #[.int .i64 at0] 3)
    go_wp2_with fail
    refine (double_ok _ _ _ _ _ _ _ _ _ (hl at0 w0) (hc.below b0) HG.out).mono ?_; rintro e w1 ⟨A1, c1, rfl, R1, hB1⟩
    have hB01 := b0.trans (hB1.mono b0.size)
    rw [run_one dstep_one] at R1 ⊢
    have b1 := hB01.alloc hB01.size (.cells #[.int .i64 at0] 3)
    go_wp2_with fail
    refine (near_ok _ _ _ _ _ _ _ _ _ (hl at0 w1) (hc.below b1) HG.out).mono ?_; rintro e w2 ⟨A2, c2, rfl, R2, hB2⟩
    have hB02 := b1.trans (hB2.mono b1.size)
    rw [run_one nstep_one] at R2 ⊢
    have b2 := hB02.alloc hB02.size (.cells #[.int .i64 at0] 3)
    go_wp2_with fail
    refine (sleast_ok _ _ _ _ _ _ _ _ _ (hl at0 w2) (hc.below b2) HG.out).mono ?_; rintro e w3 ⟨v, rfl, hv, hB3⟩
    obtain rfl := best_one (best_pad rfl hv)
    have hB03 := b2.trans (hB3.mono b2.size)
    have P1 : RI w3 A1 1 [(oneW at0 a).2] := (((Row.reads R1).below (ha at0 w1)).below hB2 |>.below (ha at0 w2)).below hB3
    have P2 : RI w3 A2 1 [(oneW at0 a).2] := ((Row.reads R2).below (ha at0 w2)).below hB3
    clear R1 R2 hv
    have hc3 := hc.below hB03
    obtain ⟨st, hst⟩ : ∃ st, oneW at0 a = st := ⟨_, rfl⟩
    rw [hst] at P1 P2 ⊢
    have HST := Lib.hid hst
    clear hst
    go_wp2
    go_loop [0, 14, 15] (fun v0 v14 i => ∃ (j : Nat) (p sm : Int), j ≤ m ∧ i = .int .i64 j ∧ v0 = .int .i64 p ∧ v14 = .int .i64 sm ∧ Hid (oneW at0 (a.take j) = (sm, p))) (fun _ _ i => m - (intOf i).toNat)
    case atStart => exact ⟨0, at0, 0, by omega, by go_num, by go_num, by go_num, Lib.hid rfl⟩
    case round =>
      obtain ⟨j, p, sm, hj, rfl, rfl, rfl, hq⟩ := hrel
      by_cases hlt : j < m
      · obtain ⟨ad, x, rfl, hx, hcx⟩ := hc3.at_ hlt
        have hxin := HG.out.2.2.2.2 x (List.mem_of_getElem? hx.out)
        have hin := oneW_in hp (a.take j) (fun y hy => HG.out.2.2.2.2 y (List.mem_of_mem_take hy))
        rw [hq.out] at hin
        have hjl : (a.take j).length ≤ 20 := by rw [List.length_take]; have := HG.out.2.2.1; omega
        have hpin : 0 ≤ p ∧ p ≤ 12 := ⟨hin.2.2.1, hin.2.2.2⟩
        have hsm : 0 ≤ sm ∧ sm ≤ 240 := ⟨hin.1, by have := hin.2.1; dsimp only at this; omega⟩
        have hq2 : Hid (oneW at0 (a.take (j + 1)) = (sm + absI p x, x)) := Lib.hid (by rw [take_succ_of hx.out, oneW_snoc, hq.out])
        have hab := absI_in hpin hxin
        obtain ⟨ab, hab2⟩ : ∃ ab, absI p x = ab := ⟨_, rfl⟩
        have HA : Hid (∀ W, Calls Try.prog 11 #[.int .i64 p, .int .i64 x] W fun e w' => e = .returned (.int .i64 ab) ∧ W = w') := Lib.hid (fun W => by have := abs_any p x W hpin hxin; rwa [hab2] at this)
        rw [hab2] at hab hq2
        have hws : wrap64 (sm + ab) = sm + ab := IntWalk.wrap64_in _ (by omega)
        clear hin hjl hab2
        go_wp2_with fail
        refine (HA.out _).mono ?_; rintro e w' ⟨rfl, rfl⟩
        go_wp2
        go_round
        case rel => exact ⟨j + 1, x, sm + ab, by omega, by go_num, by go_num, by go_num, hq2⟩
        case measure => simp [intOf]; omega
      · obtain rfl : j = m := by omega
        have hfin := hq.out
        rw [List.take_of_length_le (by rw [HM.out]; omega), HST.out] at hfin
        subst hfin
        have E1 : Hid (eqI [p] [p] = true) := by simp [Hid, eqI]
        have hss : (sm == sm) = true := by simp
        have c3 := hB03.alloc hB03.size (.cells #[.int .i64 p] 3)
        go_wp2_with fail
        refine (ints_any _ _ _ _ _ _ _ _ _ (P1.below (ha p w3)) (hl p w3) (by omega) (by omega)).mono ?_; rintro e w' ⟨rfl, d, rfl⟩
        rw [E1.out]
        have c4 := belowN c3 d
        have Q2 := (P2.below (ha p w3)).drewN d
        obtain ⟨W4, hW4⟩ : ∃ W4, (w3.alloc (.cells #[.int .i64 p] 3)).drewN d = W4 := ⟨_, rfl⟩
        rw [hW4] at c4 Q2 ⊢
        have c5 := c4.alloc c4.size (.cells #[.int .i64 p] 3)
        clear hW4
        go_wp2_with fail
        refine (ints_any _ _ _ _ _ _ _ _ _ (Q2.below (ha p W4)) (hl p W4) (by omega) (by omega)).mono ?_; rintro e w' ⟨rfl, d2, rfl⟩
        rw [E1.out]
        go_wp2
        go_ret
        exact ⟨rfl, belowN c5 d2⟩
  · have HG := Lib.hid hg
    clear hg
    have b0 := hB0.alloc hB0.size (.cells #[.int .i64 at0] 3)
    go_wp2_with fail
    refine (double_no _ _ _ _ _ _ _ _ _ (hl at0 w0) (hc.below b0) (by omega) hm HG.out).mono ?_; rintro e w1 ⟨rfl, rfl⟩
    obtain ⟨W1, hW1⟩ : ∃ W1, w0.alloc (.cells #[.int .i64 at0] 3) = W1 := ⟨_, rfl⟩
    rw [hW1] at b0 ⊢
    have b1 := b0.alloc b0.size (.cells #[.int .i64 at0] 3)
    clear hW1
    go_wp2_with fail
    refine (near_no _ _ _ _ _ _ _ _ _ (hl at0 W1) (hc.below b1) (by omega) hm HG.out).mono ?_; rintro e w1 ⟨rfl, rfl⟩
    obtain ⟨W2, hW2⟩ : ∃ W2, W1.alloc (.cells #[.int .i64 at0] 3) = W2 := ⟨_, rfl⟩
    rw [hW2] at b1 ⊢
    have b2 := b1.alloc b1.size (.cells #[.int .i64 at0] 3)
    clear hW2
    go_wp2_with fail
    refine (sleast_no _ _ _ _ _ _ _ _ _ (hl at0 W2) (hc.below b2) (by omega) hm HG.out).mono ?_; rintro e w3 ⟨rfl, hB3⟩
    go_wp2
    go_ret
    exact ⟨rfl, b2.trans (hB3.mono b2.size)⟩

set_option maxRecDepth 100000 in
set_option maxHeartbeats 2000000 in
theorem law_ServeDouble (A Ac : Option Addr) (n c m cc : Nat) (s a : List Int) (w : World) (hs : RI w A n s) (hc : RI w Ac m a) (hn : n ≤ 9223372036854775807) (hm : m ≤ 9223372036854775807) :
    Calls Try.prog 3 #[.slice A n c, .slice Ac m cc] w fun e w' => e = .returned (.bool true) ∧ Below w.heap.size w w' := by
  have HL := Lib.hid hs.len
  have HM := Lib.hid hc.len
  go_enter Try.func3, Try.ntmps3
  go_wp2_with fail
  refine (serveFact_ok _).mono ?_; rintro e w0 ⟨rfl, hB0⟩
  have hs0 := hs.below hB0
  have hc0 := hc.below hB0
  by_cases hg : GoodS s a
  · have HG := Lib.hid hg
    have hn0 : 0 < n := by
      have h0 := hs.len
      rcases Nat.eq_zero_or_pos n with e | e
      · exact absurd (List.eq_nil_of_length_eq_zero (by omega)) hg.1
      · exact e
    have hn3 : n ≤ 3 := by have := hs.len; have := hg.2.1; omega
    have hm20 : m ≤ 20 := by have := hc.len; have := hg.2.2.1; omega
    have HON := Lib.hid (show onL n s from ⟨hs.len, hg.2.2.2.1⟩)
    clear hg
    go_wp2_with fail
    refine (double_ok _ _ _ _ _ _ _ _ _ hs0 hc0 HG.out).mono ?_; rintro e w1 ⟨A1, c1, rfl, _, hB1⟩
    have hB01 := hB0.trans (hB1.mono hB0.size)
    go_wp2_with fail
    refine (sleast_ok _ _ _ _ _ _ _ _ _ (hs.below hB01) (hc.below hB01) HG.out).mono ?_; rintro e w2 ⟨v, rfl, hv, hB2⟩
    have hB02 := hB01.trans (hB2.mono hB01.size)
    obtain ⟨vb1, vb2⟩ : 0 ≤ v ∧ v ≤ 240 := by
      obtain ⟨k, hk⟩ := hv.1
      have := runS_in HG.out.2.2.2.2 (goodP_pad (by rw [HL.out]; exact hn3) HG.out.2.2.2.1) hk
      have := HG.out.2.2.1; omega
    have HD := Lib.hid (dbl_law hn0 hn3 HL.out (best_pad HL.out hv))
    have HDI := Lib.hid (runS_in' (f := dstep) (fun s x => dstep_in) HON.out a HG.out.2.2.2.2)
    obtain ⟨D, hD⟩ : ∃ D, (runS dstep s a).1 = D := ⟨_, rfl⟩
    rw [hD] at HD HDI ⊢
    clear hv hD hs0 hc0
    go_wp2
    go_loopw [11, 12] (fun v11 i wr => ∃ (j : Nat) (sm : Int), j ≤ n ∧ i = .int .i64 j ∧ v11 = .int .i64 sm ∧ Hid (pAll s j = sm) ∧ Below w.heap.size w wr) (fun _ i _ => n - (intOf i).toNat)
    case atStart => exact ⟨0, 0, by omega, by go_num, by go_num, Lib.hid rfl, hB02⟩
    case round =>
      obtain ⟨j, sm, hj, rfl, rfl, hq, hBj⟩ := hrel
      have hsm := pAll_in HON.out j (by omega)
      rw [hq.out] at hsm
      by_cases hlt : j < n
      · obtain ⟨ad, y, rfl, hy, hcy⟩ := (hs.below hBj).at_ hlt
        have hyD : s.getD j 0 = y := by rw [List.getD_eq_getElem?_getD, hy.out]; rfl
        have hyin := onL_getD HON.out j
        rw [hyD] at hyin
        have HYD := Lib.hid hyD
        clear hyD
        go_wp2
        go_loopw [11, 13] (fun v11 i wk => ∃ (k : Nat) (pr : Int), k ≤ j ∧ i = .int .i64 k ∧ v11 = .int .i64 (sm + pr) ∧ Hid (pRow s j k = pr) ∧ Below w.heap.size w wk) (fun _ i _ => j - (intOf i).toNat)
        case atStart => exact ⟨0, 0, by omega, by go_num, by simp, Lib.hid rfl, hBj⟩
        case round =>
          obtain ⟨k, pr, hk, rfl, rfl, hp, hBk⟩ := hrel
          have hpr := pRow_in HON.out j k
          rw [hp.out] at hpr
          by_cases hlk : k < j
          · obtain ⟨ad2, z, e2, hz, hcz⟩ := (hs.below hBk).at_ (show k < n by omega)
            cases e2
            obtain ⟨ad3, y3, e3, hy3, hcy3⟩ := (hs.below hBk).at_ (show j < n by omega)
            cases e3
            obtain rfl : y3 = y := by have := hy3.out; rw [hy.out] at this; injection this with this; exact this.symm
            have hzD : s.getD k 0 = z := by rw [List.getD_eq_getElem?_getD, hz.out]; rfl
            have hzin := onL_getD HON.out k
            rw [hzD] at hzin
            have hp2 : Hid (pRow s j (k + 1) = pr + absI y3 z) := Lib.hid (by show pRow s j k + absI (s.getD j 0) (s.getD k 0) = _; rw [hp.out, HYD.out, hzD])
            have hab := absI_in hyin hzin
            obtain ⟨ab, hab2⟩ : ∃ ab, absI y3 z = ab := ⟨_, rfl⟩
            have HA : Hid (∀ W, Calls Try.prog 11 #[.int .i64 y3, .int .i64 z] W fun e w' => e = .returned (.int .i64 ab) ∧ w' = W) := Lib.hid (fun W => (abs_any y3 z W hyin hzin).mono fun _ _ ⟨x1, x2⟩ => ⟨by rw [x1, hab2], x2.symm⟩)
            rw [hab2] at hab hp2
            have hws : wrap64 (sm + pr + ab) = sm + (pr + ab) := by rw [Int.add_assoc]; exact IntWalk.wrap64_in _ (by omega)
            clear hzD hab2
            have hjn : (j : Int) < n := by omega
            have hkn : (k : Int) < n := by omega
            go_wp2
            go_quiet ((go_at_call 11; exact (HA.out _).mono (fun _ _ ⟨h1, h2⟩ => ⟨h1, _, h2⟩)))
            go_wp2
            go_roundw
            case rel => exact ⟨k + 1, pr + ab, by omega, by go_num, by go_num, hp2, belowN hBk _⟩
            case measure => simp [intOf]; omega
          · obtain rfl : k = j := by omega
            have hq2 : Hid (pAll s (k + 1) = sm + pr) := Lib.hid (by show pAll s k + pRow s k k = _; rw [hq.out, hp.out])
            go_wp2
            go_roundw
            case rel => exact ⟨k + 1, sm + pr, by omega, by go_num, by go_num, hq2, hBk⟩
            case measure => simp [intOf]; omega
      · obtain rfl : j = n := by omega
        obtain ⟨u, rfl⟩ : ∃ u : Nat, v = u := ⟨v.toNat, by omega⟩
        have b3 : j * u ≤ 3 * 240 := Nat.mul_le_mul hn3 (by omega)
        have em3 : ((j : Int) * u) = ((j * u : Nat) : Int) := by norm_cast
        have f3 : wrap64 ((j : Int) * u) = (j : Int) * u := by rw [em3]; exact IntWalk.wrap64_in _ (by omega)
        have f4 : wrap64 ((j : Int) * u + sm) = (j : Int) * u + sm := by rw [em3]; exact IntWalk.wrap64_in _ (by omega)
        have hfin : D ≤ (j : Int) * u + sm := by have := HD.out; rwa [hq.out] at this
        clear em3 b3
        go_wp2
        go_ret
        exact ⟨rfl, hBj⟩
  · have HG := Lib.hid hg
    clear hg
    go_wp2_with fail
    refine (double_no _ _ _ _ _ _ _ _ _ hs0 hc0 hn hm HG.out).mono ?_; rintro e w1 ⟨rfl, rfl⟩
    go_wp2_with fail
    refine (sleast_no _ _ _ _ _ _ _ _ _ hs0 hc0 hn hm HG.out).mono ?_; rintro e w1 ⟨rfl, hB1⟩
    go_wp2
    go_ret
    exact ⟨rfl, hB0.trans (hB1.mono hB0.size)⟩
end Go.Proofs.Ytibefbboilpfmaa
