/- The walks of the laws on lists, the rest. -/
import Derived.Test.YtccbeggkdfjalaaListLaw
namespace Go.Proofs.Ytccbeggkdfjalaa
open Go.ChangeShapes Go.WideShapes Go.ChangeAt Go.RowKit

theorem sum_any (A : Option Addr) (n c : Nat) (l : List Int) (w : World) (h : RI w A n l) (hn : n ≤ 40) (hl : AllIn l 0 3) :
    Calls Try.prog 14 #[.slice A n c] w fun e w' => e = .returned (.int .i64 (sumI l)) ∧ w = w' := by
  have HL := Lib.hid hl
  have HN := Lib.hid h.len
  clear hl
  go_enter Try.func14, Try.ntmps14
  go_wp2
  go_loop [3, 4] (fun s i => ∃ (j : Nat) (sm : Int), j ≤ n ∧ i = .int .i64 j ∧ s = .int .i64 sm ∧ Hid (sumI (l.take j) = sm) ∧ 0 ≤ sm ∧ sm ≤ 3 * j) (fun _ i => n - (intOf i).toNat)
  case atStart => exact ⟨0, 0, by omega, by go_num, by go_num, Lib.hid rfl, by omega, by omega⟩
  case round =>
    obtain ⟨j, sm, hj, rfl, rfl, hq, h1, h2⟩ := hrel
    by_cases hlt : j < n
    · obtain ⟨ad, x, rfl, hx, hcx⟩ := h.at_ hlt
      have hxin := HL.out x (List.mem_of_getElem? hx.out)
      have hq2 : Hid (sumI (l.take (j + 1)) = sm + x) := Lib.hid (by rw [take_succ_of hx.out]; unfold sumI; rw [List.foldl_append]; show sumI (l.take j) + x = _; rw [hq.out])
      go_wp2
      go_round
      case rel => exact ⟨j + 1, sm + x, by omega, by go_num, by go_num, hq2, by omega, by omega⟩
      case measure => simp [intOf]; omega
    · obtain rfl : j = n := by omega
      have hv := Lib.hid (show sumI l = sm by have := hq.out; rwa [List.take_of_length_le (by rw [HN.out]; omega)] at this)
      go_wp2
      go_ret
      rw [hv.out]
      exact ⟨rfl, rfl⟩

set_option maxHeartbeats 1000000 in
theorem law_ListLeast (n0 : Int) (Ac : Option Addr) (m cc : Nat) (a : List Int) (w : World) (hc : RI w Ac m a) (hm : m ≤ 9223372036854775807) :
    Calls Try.prog 6 #[.int .i64 n0, .slice Ac m cc] w fun e w' => e = .returned (.bool true) ∧ Below w.heap.size w w' := by
  go_enter Try.func6, Try.ntmps6
  go_wp2_with fail
  refine (listFact_ok _).mono ?_; rintro e w0 ⟨rfl, hB0⟩
  have hc0 := hc.below hB0
  by_cases hg : GoodT n0 a
  · obtain ⟨n, rfl⟩ : ∃ n : Nat, n0 = n := ⟨n0.toNat, by have := hg.2.1; omega⟩
    have hb1 := way_bound toF hg
    have hb2 := way_bound toS hg
    have hb3 := way_bound (fun i => i) hg
    have HG := Lib.hid hg
    have hm40 : m ≤ 40 := by have := hc.len; have := hg.1; omega
    have HM := Lib.hid hc.len
    have HA3 := Lib.hid (show AllIn a 0 3 from fun x hx => by have := hg.2.2.2 x hx; have := hg.2.2.1; omega)
    clear hg
    go_wp2_with fail
    refine (lleast_ok n _ _ _ _ _ hc0 HG.out).mono ?_; rintro e w1 ⟨v, rfl, hv, hB1⟩
    have hB01 := hB0.trans (hB1.mono hB0.size)
    have hc1 := hc0.below hB1
    have h1 := way_best (tof := toF) (fun _ => Nat.zero_le _) HG.out.2.2.2 hv
    have h2 := way_best (tof := toS) (fun i => by unfold toS; omega) HG.out.2.2.2 hv
    have h3 := way_best (tof := fun i => i) (fun i => Nat.le_refl _) HG.out.2.2.2 hv
    have h4 := len_best (by have := HG.out.2.2.1; omega) HG.out.2.2.2 hv
    have h5 := stay_cost a HG.out.2.2.2
    rw [← runL_from] at h5
    rw [h5] at h3 hb3
    rw [HM.out] at h3 h4 hb3
    clear hv h5
    go_wp2_with fail
    refine (lfront_ok n _ _ _ _ _ hc1 HG.out).mono ?_; rintro e w2 ⟨A2, c2, rfl, R2, hB2⟩
    have hB02 := hB01.trans (hB2.mono hB01.size)
    have hc2 := hc1.below hB2
    go_wp2_with fail
    refine (lswap_ok n _ _ _ _ _ hc2 HG.out).mono ?_; rintro e w3 ⟨A3, c3, rfl, R3, hB3⟩
    have hB03 := hB02.trans (hB3.mono hB02.size)
    have hc3 := hc2.below hB3
    generalize (runL toF n a).1 = c at hb1 h1
    generalize (runL toS n a).1 = d at hb2 h2
    obtain ⟨s, hs⟩ : ∃ s, sumI a = s := ⟨_, rfl⟩
    rw [hs] at h3 hb3
    have HS := Lib.hid hs
    have d1 : decide (v ≤ c) = true := by simp; omega
    have d2 : decide (v ≤ d) = true := by simp; omega
    have d3 : decide (v ≤ s + m) = true := by simp; omega
    have d4 : decide ((m : Int) ≤ v) = true := by simp; omega
    clear R2 R3 hs
    go_wp2_with fail
    refine (sum_any _ _ _ _ _ hc3 hm40 HA3.out).mono ?_; rintro e w' ⟨rfl, rfl⟩
    rw [HS.out]
    go_wp2
    go_ret
    exact ⟨rfl, hB03⟩
  · have HG := Lib.hid hg
    clear hg
    go_wp2_with fail
    refine (lleast_no _ _ _ _ _ _ hc0 hm HG.out).mono ?_; rintro e w1 ⟨rfl, hB1⟩
    have hB01 := hB0.trans (hB1.mono hB0.size)
    have hc1 := hc0.below hB1
    go_wp2_with fail
    refine (lfront_no _ _ _ _ _ _ hc1 hm HG.out).mono ?_; rintro e w2 ⟨rfl, rfl⟩
    go_wp2_with fail
    refine (lswap_no _ _ _ _ _ _ hc1 hm HG.out).mono ?_; rintro e w2 ⟨rfl, rfl⟩
    go_wp2
    go_ret
    exact ⟨rfl, hB01⟩
end Go.Proofs.Ytccbeggkdfjalaa
