/- The walks of two more laws on landlords: they return true, for every input. -/
import Derived.Test.YtkgojehbdjkmcaaLandLaw
namespace Go.Proofs.Ytkgojehbdjkmcaa
open Go.ChangeShapes Go.WideShapes Go.ChangeAt Go.RowKit

theorem ldrun_any (A Ac : Option Addr) (n c m cc : Nat) (l cost : List Int) (slots : Int) (w : World) (h : RI w A n l) (hc : RI w Ac m cost) (hn : n ≤ 9223372036854775807) (hm : m ≤ 9223372036854775807) :
    Calls Try.prog 9 #[.slice A n c, .slice Ac m cc, .int .i64 slots] w fun e w' => (∃ x1 x2 x3 x4, e = .returned (.tuple #[x1, x2, x3, x4])) ∧ Below w.heap.size w w' := by
  by_cases hg : GoodL l cost slots
  · exact (ldrun_ok A Ac n c m cc l cost slots w h hc hg).mono fun e w' ⟨A1, n1, c1, A2, c2, he, _, _, _, hB⟩ => ⟨⟨_, _, _, _, he⟩, hB⟩
  · exact (ldrun_no A Ac n c m cc l cost slots w h hc hn hm hg).mono fun e w' ⟨he, hw⟩ => ⟨⟨_, _, _, _, he⟩, hw ▸ Below.refl _ _⟩
theorem ldleast_any (A Ac : Option Addr) (n c m cc : Nat) (l cost : List Int) (slots : Int) (w : World) (h : RI w A n l) (hc : RI w Ac m cost) (hn : n ≤ 9223372036854775807) (hm : m ≤ 9223372036854775807) :
    Calls Try.prog 10 #[.slice A n c, .slice Ac m cc, .int .i64 slots] w fun e w' => (∃ x1 x2, e = .returned (.tuple #[x1, x2])) ∧ Below w.heap.size w w' := by
  by_cases hg : GoodL l cost slots
  · exact (ldleast_ok A Ac n c m cc l cost slots w h hc hg).mono fun e w' ⟨v, he, _, hB⟩ => ⟨⟨_, _, he⟩, hB⟩
  · exact (ldleast_no A Ac n c m cc l cost slots w h hc hn hm hg).mono fun e w' ⟨he, hB⟩ => ⟨⟨_, _, he⟩, hB⟩

theorem scale_sound {l cost more : List Int} {s : Nat} {by_ : Int} (hb : 1 ≤ by_) (hs : 1 ≤ s) (hm : more = cost.map (· * by_)) (hc : AllIn cost 0 20) {v u : Int} (hv : LeastC (costF cost) s l v) (hu : LeastC (costF more) s l u) :
    (landRun more s l).1 = (landRun cost s l).1 * by_ ∧ (landRun more s l).2.map Prod.fst = (landRun cost s l).2.map Prod.fst ∧ u = v * by_ := by
  rw [landRun_scale hb hm s l]
  refine ⟨rfl, scale_fst _ _, leastC_scale hb (fun x => ?_) hv hu⟩
  unfold costF
  rw [hm, List.getD_eq_getElem?_getD, List.getD_eq_getElem?_getD, List.getElem?_map]
  cases cost[x.toNat]? <;> simp

set_option maxRecDepth 100000 in
set_option maxHeartbeats 4000000 in
theorem law_LandScale (A Ac : Option Addr) (n c m cc : Nat) (l cost : List Int) (slots by_ : Int) (w : World) (hl : RI w A n l) (hc : RI w Ac m cost) (hn : n ≤ 9223372036854775807) (hm : m ≤ 9223372036854775807) :
    Calls Try.prog 5 #[.slice A n c, .slice Ac m cc, .int .i64 slots, .int .i64 by_] w fun e w' => e = .returned (.bool true) ∧ Below w.heap.size w w' := by
  have HL := Lib.hid hl.len
  have HM := Lib.hid hc.len
  go_enter Try.func5, Try.ntmps5
  go_wp2_with fail
  refine (landFact_ok _).mono ?_; rintro e w0 ⟨rfl, hB0⟩
  by_cases hb : 1 ≤ by_ ∧ by_ ≤ 20
  · obtain ⟨b1, b2⟩ := hb
    go_wp2_with fail
    refine (linL_ok _ _ _ _ b1 b2).mono ?_; rintro e w' ⟨rfl, rfl⟩
    go_wp2
    go_loopw [10, 11] (fun v10 i wr => ∃ k : Nat, k ≤ m ∧ k ≤ 7 ∧ i = .int .i64 k ∧ Row wr w.heap.size 3 v10 k (((cost.take k).map (· * by_)).map (Value.int .i64)) ∧ Hid (AllIn (cost.take k) 0 20) ∧ Below w.heap.size w wr) (fun _ i _ => 7 - (intOf i).toNat)
    case atStart => exact ⟨0, by omega, by omega, by go_num, Row.nil_ _ _ _, Lib.hid (by simp [AllIn]), hB0⟩
    case round =>
      obtain ⟨k, hk, hk7, rfl, R10, hAll, hB⟩ := hrel
      have hbs := hB.size
      have hcw := hc.below hB
      by_cases hlt : k < m ∧ k < 7
      · obtain ⟨hlt1, hlt2⟩ := hlt
        obtain ⟨ad, y, rfl, hy, hcell⟩ := hcw.at_ hlt1
        by_cases hyb : 0 ≤ y ∧ y ≤ 20
        · obtain ⟨y0, y1⟩ := hyb
          have hyw : wrap64 (y * by_) = y * by_ := IntWalk.wrap64_in _ (by
            have h1 := Int.mul_le_mul_of_nonneg_right y1 (show 0 ≤ by_ by omega)
            have h2 := Int.mul_nonneg y0 (show 0 ≤ by_ by omega)
            omega)
          go_wp2_with fail
          refine (linL_ok _ _ _ _ y0 y1).mono ?_; rintro e w' ⟨rfl, rfl⟩
          go_wp2_with (at_builtin; refine wpList_push _ rfl (.tmp 46) (.tmp 53) _ rfl w.heap.size 3 _ _ Try.underlying22 infoI rfl (by decide) _ _ _ rfl R10 (.int .i64 (y * by_)) rfl rfl (by omega) hbs ?_; intro v' w2 R10' g8)
          go_roundw
          case rel =>
            refine ⟨k + 1, by omega, by omega, by go_num, ?_, Lib.hid (fun x hx => ?_), hB.grown g8 hbs (fun b hb => (R10.lt b hb).1)⟩
            · rw [take_succ_of hy.out, List.map_append, List.map_append]; exact R10'
            · rw [take_succ_of hy.out, List.mem_append, List.mem_singleton] at hx
              rcases hx with hx | rfl
              · exact hAll.out x hx
              · exact ⟨y0, y1⟩
          case measure => simp [intOf]; omega
        · have hyn : y < 0 ∨ 20 < y := by omega
          have HY := Lib.hid hyn
          clear hyb hyn
          go_wp2_with fail
          refine (linL_no _ _ _ _ HY.out).mono ?_; rintro e w' ⟨rfl, rfl⟩
          go_wp2
          go_ret
          exact ⟨rfl, hB⟩
      · have hfin : (decide ((k : Int) < m) && decide ((k : Int) < 7)) = false := by
          rcases Nat.lt_or_ge k m with h1 | h1
          · have : ¬ ((k : Int) < 7) := by omega
            simp [this]
          · have : ¬ ((k : Int) < m) := by omega
            simp [this]
        obtain ⟨A10, c10, hv10, hc10, _⟩ := R10.form
        subst hv10
        have hM10 := Lib.hid (Row.reads R10)
        clear R10
        have HK : Hid (m ≤ 6 ∨ k ≤ 6 → k = m) := Lib.hid (by omega)
        have hlw := hl.below hB
        have hk9 : k ≤ 9223372036854775807 := by omega
        by_cases h1 : k < m
        · have hng : Hid (¬ GoodL l ((cost.take k).map (· * by_)) slots) := Lib.hid (fun h => by
            have h2 := h.2.1
            rw [List.length_map, List.length_take, HM.out] at h2; omega)
          have hng2 : Hid (¬ GoodL l cost slots) := Lib.hid (fun h => by
            have h2 := h.2.1
            rw [HM.out] at h2; omega)
          clear hfin
          have hlt7 : ¬ ((k : Int) < 7) := by omega
          go_wp2_with fail
          refine (ldrun_no _ _ _ _ _ _ _ _ _ _ hlw hcw hn hm hng2.out).mono ?_; rintro e w1 ⟨rfl, rfl⟩
          go_wp2_with fail
          refine (ldrun_no _ _ _ _ _ _ _ _ _ _ hlw hM10.out hn hk9 hng.out).mono ?_; rintro e w1 ⟨rfl, rfl⟩
          go_wp2_with fail
          refine (ldleast_no _ _ _ _ _ _ _ _ _ _ hlw hcw hn hm hng2.out).mono ?_; rintro e w2 ⟨rfl, hB2⟩
          go_wp2_with fail
          refine (ldleast_no _ _ _ _ _ _ _ _ _ _ (hlw.below hB2) (hM10.out.below hB2) hn hk9 hng.out).mono ?_; rintro e w3 ⟨rfl, hB3⟩
          go_wp2
          go_ret
          exact ⟨rfl, (hB.trans (hB2.mono hbs)).trans (hB3.mono (by have := hB2.size; omega))⟩
        · obtain rfl : k = m := by omega
          clear hfin HK
          have htk : cost.take k = cost := List.take_of_length_le (by rw [HM.out]; omega)
          rw [htk] at hM10 hAll
          by_cases g1 : GoodL l cost slots
          · have G1 := Lib.hid g1
            obtain ⟨s, rfl⟩ : ∃ s : Nat, slots = s := ⟨slots.toNat, by have := g1.2.2.2.2.1; omega⟩
            have hs1 : 1 ≤ s := by have := g1.2.2.2.2.1; omega
            have hk6 : k ≤ 6 := by have := g1.2.1; rw [HM.out] at this; exact this
            by_cases g2 : GoodL l (cost.map (· * by_)) s
            · have G2 := Lib.hid g2
              have hok := landOk_take g2.2.2.1 hs1 l l.length (Nat.le_refl _)
              rw [List.take_length] at hok
              have hok1 := landOk_take g1.2.2.1 hs1 l l.length (Nat.le_refl _)
              rw [List.take_length] at hok1
              have hl40 := g1.1
              obtain ⟨_, _, p0, p1⟩ := hok
              obtain ⟨o1, _, o2, o3⟩ := hok1
              clear g1 g2
              go_wp2_with fail
              refine (ldrun_ok _ _ _ _ _ _ _ _ _ _ hlw hcw G1.out).mono ?_; rintro e w1 ⟨A1, n1, c1, A2, c2, rfl, R1, _, hn1, hB1⟩
              have hB01 := hB.trans (hB1.mono hbs)
              rw [Int.toNat_natCast] at R1 ⊢
              go_wp2_with fail
              refine (ldrun_ok _ _ _ _ _ _ _ _ _ _ (hlw.below hB1) (hM10.out.below hB1) G2.out).mono ?_; rintro e w2 ⟨A3, n3, c3, A4, c4, rfl, R3, _, hn3, hB2⟩
              have hB12 := hB1.trans (hB2.mono hB1.size)
              rw [Int.toNat_natCast] at R3 ⊢
              go_wp2_with fail
              refine (ldleast_ok _ _ _ _ _ _ _ _ _ _ (hlw.below hB12) (hcw.below hB12) G1.out).mono ?_; rintro e w3 ⟨v, rfl, hv, hB3⟩
              have hB13 := hB12.trans (hB3.mono hB12.size)
              go_wp2_with fail
              refine (ldleast_ok _ _ _ _ _ _ _ _ _ _ (hlw.below hB13) (hM10.out.below hB13) G2.out).mono ?_; rintro e w4 ⟨u, rfl, hu, hB4⟩
              rw [Int.toNat_natCast] at hv hu
              have hB14 := hB13.trans (hB4.mono hB13.size)
              have hfc : ∀ x, 0 ≤ costF cost x := fun x => (costAt' G1.out.2.2.1 x).1
              have hv0 := schedC_nonneg hfc _ _ _ hv.1
              have hv1 := leastC_run hfc hs1 hv
              have hu1 := leastC_run (fun x => (costAt' G2.out.2.2.1 x).1) hs1 hu
              have hu0 := schedC_nonneg (fun x => (costAt' G2.out.2.2.1 x).1) _ _ _ hu.1
              obtain ⟨q1, q2, q3⟩ := scale_sound b1 hs1 rfl G1.out.2.2.1 hv hu
              have R1' := R1.below (hB2.mono (Nat.le_refl _))
              have R1'' := R1'.below hB3
              have R1''' := Row.reads (R1''.below hB4)
              have R3' := R3.below hB3
              have R3'' := Row.reads (R3'.below hB4)
              rw [q2] at R3''
              have QE : Hid (eqI ((landRun cost s l).2.map Prod.fst) ((landRun cost s l).2.map Prod.fst) = true) := Lib.hid (by simp [eqI])
              generalize (landRun cost s l).2.map Prod.fst = P at *
              generalize (landRun cost s l).1 = x at *
              generalize (landRun (cost.map (· * by_)) s l).1 = z at *
              have f1 : wrap64 (x * by_) = z := by rw [← q1]; exact IntWalk.wrap64_in _ (by omega)
              have f2 : wrap64 (v * by_) = u := by rw [← q3]; exact IntWalk.wrap64_in _ (by omega)
              clear hv hu R1 R1' R1'' R3 R3' q1 q2 q3 hv1 hu1 p0 p1 o1 o2 o3 hv0 hu0
              have hI := Lib.hid (⟨R1''', R3''⟩ : RI w4 A1 n1 P ∧ RI w4 A3 n3 P)
              clear R1''' R3''
              go_wp2_with fail
              refine (ints_any _ _ _ _ _ _ _ _ _ hI.out.1 hI.out.2 (by omega) (by omega)).mono ?_; rintro e w' ⟨rfl, d, rfl⟩
              rw [QE.out]
              go_wp2
              go_ret
              exact ⟨rfl, belowN (hB.trans (hB14.mono hbs)) _⟩
            · have G2 := Lib.hid g2
              clear g1 g2
              go_wp2_with fail
              refine (ldrun_ok _ _ _ _ _ _ _ _ _ _ hlw hcw G1.out).mono ?_; rintro e w1 ⟨A1, n1, c1, A2, c2, rfl, _, _, _, hB1⟩
              go_wp2_with fail
              refine (ldrun_no _ _ _ _ _ _ _ _ _ _ (hlw.below hB1) (hM10.out.below hB1) hn hm G2.out).mono ?_; rintro e w2 ⟨rfl, rfl⟩
              go_wp2_with fail
              refine (ldleast_any _ _ _ _ _ _ _ _ _ _ (hlw.below hB1) (hcw.below hB1) hn hm).mono ?_; rintro e w3 ⟨⟨x1, x2, rfl⟩, hB3⟩
              have hB13 := hB1.trans (hB3.mono hB1.size)
              go_wp2_with fail
              refine (ldleast_any _ _ _ _ _ _ _ _ _ _ (hlw.below hB13) (hM10.out.below hB13) hn hm).mono ?_; rintro e w4 ⟨⟨x3, x4, rfl⟩, hB4⟩
              go_wp2
              go_ret
              exact ⟨rfl, hB.trans ((hB13.trans (hB4.mono hB13.size)).mono hbs)⟩
          · have G1 := Lib.hid g1
            clear g1
            go_wp2_with fail
            refine (ldrun_no _ _ _ _ _ _ _ _ _ _ hlw hcw hn hm G1.out).mono ?_; rintro e w2 ⟨rfl, rfl⟩
            go_wp2_with fail
            refine (ldrun_any _ _ _ _ _ _ _ _ _ _ hlw hM10.out hn hm).mono ?_; rintro e w1 ⟨⟨x1, x2, x3, x4, rfl⟩, hB1⟩
            go_wp2_with fail
            refine (ldleast_any _ _ _ _ _ _ _ _ _ _ (hlw.below hB1) (hcw.below hB1) hn hm).mono ?_; rintro e w3 ⟨⟨x5, x6, rfl⟩, hB3⟩
            have hB13 := hB1.trans (hB3.mono hB1.size)
            go_wp2_with fail
            refine (ldleast_any _ _ _ _ _ _ _ _ _ _ (hlw.below hB13) (hM10.out.below hB13) hn hm).mono ?_; rintro e w4 ⟨⟨x7, x8, rfl⟩, hB4⟩
            go_wp2
            go_ret
            exact ⟨rfl, hB.trans ((hB13.trans (hB4.mono hB13.size)).mono hbs)⟩
  · have hb2 : by_ < 1 ∨ 20 < by_ := by omega
    have HB := Lib.hid hb2
    clear hb hb2
    go_wp2_with fail
    refine (linL_no _ _ _ _ HB.out).mono ?_; rintro e w' ⟨rfl, rfl⟩
    go_wp2
    go_ret
    exact ⟨rfl, hB0⟩
end Go.Proofs.Ytkgojehbdjkmcaa
