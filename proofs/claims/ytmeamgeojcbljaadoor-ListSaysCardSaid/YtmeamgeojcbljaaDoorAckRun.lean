/- The walk of acks.Run: what it returns, for every input. -/
import Derived.Test.YtmeamgeojcbljaaDoorAcks
namespace Go.Proofs.YtmeamgeojcbljaaDoor
open Go.ChangeShapes Go.WideShapes Go.ChangeAt Go.RowKit

def slLen : Value → Nat
  | .slice _ n _ => n
  | _ => 0

theorem arun_no (A : Option Addr) (n c : Nat) (l : List Int) (p : Int) (w : World) (h : RI w A n l) (hn : n ≤ 9223372036854775807) (hg : ¬ GoodA l p) :
    Calls Tryd.prog 13 #[.slice A n c, .int .i64 p] w
      (QuietRet w (.tuple #[.slice none 0 0, .int .i64 0, .iface 65 (.int .i64 (ackE l p))])) := by
  have HG := Lib.hid hg
  clear hg
  go_enter Tryd.func13, Tryd.ntmps13
  go_wp2_with fail
  refine (acheck_no _ _ _ _ _ _ h hn HG.out).mono ?_; rintro e w' ⟨rfl, d, rfl⟩
  go_wp2
  go_ret3
  exact ⟨rfl, d, rfl⟩

/-- What acks.Run hands back: a row of times in new memory, and a cost. -/
def AckRes (w w' : World) (e : Ending) (l : List Int) (p : Int) : Prop :=
  ∃ A1 m c1 outs s, e = .returned (.tuple #[.slice A1 m c1, .int .i64 s, .nilIface]) ∧ Row w' w.heap.size 3 (.slice A1 m c1) m (outs.map (Value.int .i64)) ∧ m ≤ 20 ∧ 0 ≤ s ∧ s ≤ 800 ∧ AckRun p l outs s ∧ (∀ x ∈ outs, 0 ≤ x ∧ x ≤ 1020) ∧ Below w.heap.size w w'

/-- How far acks.Run has come. -/
def RunInv (w wr : World) (n : Nat) (l : List Int) (p : Int) (f n0 m : Nat) (v8 : Value) (s0 : Int) (outs : List Int) : Prop :=
  Row wr w.heap.size 3 v8 m (outs.map (Value.int .i64)) ∧ Below w.heap.size w wr ∧
  (∀ o s, AckRun p (l.drop f) o s → AckRun p l (outs ++ o) (s0 + s)) ∧ (∀ x ∈ outs, 0 ≤ x ∧ x ≤ 1020)

set_option maxHeartbeats 4000000 in
theorem arun_ok (A : Option Addr) (n c : Nat) (l : List Int) (p : Int) (w : World) (h : RI w A n l) (hnc : n ≤ c) (hg : GoodA l p) :
    Calls Tryd.prog 13 #[.slice A n c, .int .i64 p] w fun e w' => AckRes w w' e l p := by
  have HL := Lib.hid h.len
  have HG := Lib.hid hg
  have hn : n ≤ 20 := by have := HL.out; have := hg.1.1; omega
  have hp1 : 1 ≤ p := hg.1.2.2.1
  have hp2 : p ≤ 20 := hg.1.2.2.2
  clear hg
  go_enter Tryd.func13, Tryd.ntmps13
  go_wp2_with fail
  refine (acheck_ok _ _ _ _ _ _ h HG.out).mono ?_; rintro e w' ⟨rfl, d0, rfl⟩
  have hB0 := belowN (Below.refl w.heap.size w) d0
  generalize w.drewN d0 = w0 at *
  go_wp2
  go_loopw [0, 8, 9, 10, 11] (fun v0 v8 v9 _ _ wr => ∃ f n0 c0 m : Nat, ∃ A0 s0, f + n0 = n ∧ v0 = .slice A0 n0 c0 ∧ n0 ≤ c0 ∧ RI w A0 n0 (l.drop f) ∧ m ≤ f ∧ v9 = .int .i64 s0 ∧ 0 ≤ s0 ∧ s0 ≤ 40 * m ∧ ∃ outs, RunInv w wr n l p f n0 m v8 s0 outs) (fun v0 _ _ _ _ _ => slLen v0)
  case atStart => exact ⟨0, n, c, 0, A, 0, by omega, rfl, hnc, by simpa using h, by omega, rfl, by omega, by omega, [], Row.nil_ _ _ _, hB0, by intro o s; simp, by simp⟩
  case round =>
    obtain ⟨f, n0, c0, m, A0, s0, hf, rfl, hc0, h0, hm, rfl, hs1, hs2, outs, R8, hB, hH, hO⟩ := hrel
    have HH := Lib.hid hH
    have HO := Lib.hid hO
    have hbs := hB.size
    clear hH hO
    by_cases hn0 : 0 < n0
    · have hr := h0.below hB
      obtain ⟨ad, t, rfl, HY, hc⟩ := hr.at_ (k := 0) hn0
      rw [show ad.add 0 = ad from by simp [Addr.add]] at hc
      have HI : Hid (AllIn (l.drop f) 0 1000) := Lib.hid (fun x hx => HG.out.1.2.1 x (List.mem_of_mem_drop hx))
      have HI2 : Hid (AllIn (l.drop f) 0 1000000) := Lib.hid (fun x hx => by have := HI.out x hx; omega)
      obtain ⟨t0, t1⟩ := HI.out t (mem_of_at HY.out)
      have HD : Hid (l.drop f = t :: (l.drop f).drop 1) := Lib.hid (by
        have hlen := h0.len
        have := List.drop_eq_getElem_cons (l := l.drop f) (i := 0) (by omega)
        have h1 := HY.out
        rw [List.getElem?_eq_getElem (by omega)] at h1
        injection h1 with h1
        rw [List.drop_zero, h1] at this; exact this)
      have HR : Hid (Rise (l.drop f)) := Lib.hid (HG.out.2.drop f)
      have HS0 : Hid (lateI (l.drop f) t = 0) := Lib.hid (lateI_zero (fun x hx => (by
        have h1 := HR.out
        have h2 := hx
        rw [HD.out] at h1 h2
        exact h1.head x h2)))
      have RR := Lib.hid hr
      have hn0' : (0 : Int) < n0 := by omega
      clear hr
      go_wp2
      go_loop [10] (fun v10 => ∃ T : Int, v10 = .int .i64 T ∧ t ≤ T ∧ T ≤ t + p ∧ Hid (lateI (l.drop f) T ≤ p)) (fun v10 => (1100 - intOf v10).toNat)
      case atStart => exact ⟨t, rfl, by omega, by omega, Lib.hid (by rw [HS0.out]; omega)⟩
      case round =>
        obtain ⟨T, rfl, hT1, hT2, HT⟩ := hrel
        by_cases hle : lateI (l.drop f) (T + 1) ≤ p
        · have hT3 := lateI_mem (T := T + 1) (mem_of_at HY.out)
          have hT4 : T + 1 ≤ t + p := by omega
          have HLE := Lib.hid hle
          have hb1 := lateI_nonneg (l.drop f) (T + 1)
          go_wp2_with fail
          refine (late_any _ _ _ _ _ _ RR.out (by omega) HI2.out (by omega) (by omega)).mono ?_; rintro e w' ⟨rfl, rfl⟩
          clear hT3
          generalize lateI (l.drop f) (T + 1) = z at hle hb1 ⊢
          go_wp2
          go_round
          case rel => exact ⟨T + 1, rfl, by omega, by omega, HLE⟩
          case measure => simp [intOf]; omega
        · have HLE := Lib.hid (show p < lateI (l.drop f) (T + 1) by omega)
          go_wp2_with fail
          refine (late_any _ _ _ _ _ _ RR.out (by omega) HI2.out (by omega) (by omega)).mono ?_; rintro e w' ⟨rfl, rfl⟩
          generalize lateI (l.drop f) (T + 1) = z at hle ⊢
          go_wp2
          go_loop [11] (fun v11 => ∃ q : Nat, q ≤ n0 ∧ v11 = .int .i64 q ∧ Hid (∀ x ∈ (l.drop f).take q, x ≤ T)) (fun v11 => n0 - (intOf v11).toNat)
          case atStart => exact ⟨0, by omega, by go_num, Lib.hid (by simp)⟩
          case round =>
                        obtain ⟨q, hq, rfl, HQ⟩ := hrel
                        by_cases hlt : q < n0
                        · obtain ⟨ad', y, hA, HY2, hc2⟩ := RR.out.at_ hlt
                          injection hA with hA
                          subst hA
                          by_cases hyT : y ≤ T
                          · have HN : Hid (∀ x ∈ (l.drop f).take (q + 1), x ≤ T) := Lib.hid (by
                              intro x hx
                              rw [take_succ_of HY2.out, List.mem_append, List.mem_singleton] at hx
                              rcases hx with hx | hx
                              · exact HQ.out x hx
                              · omega)
                            go_wp2
                            go_round
                            case rel => exact ⟨q + 1, by omega, by go_num, HN⟩
                            case measure => simp [intOf]; omega
                          · have H6 : Hid (∀ x, (l.drop f)[q]? = some x → T < x) := Lib.hid (by
                              intro x hx
                              rw [HY2.out] at hx
                              injection hx with hx
                              omega)
                            have hcq : ¬ c0 = q := by omega
                            have hq1 : 1 ≤ q := by
                              rcases q with _ | q
                              · have := H6.out t HY.out; omega
                              · omega
                            have HST : Hid (∀ o s, AckRun p (l.drop (f + q)) o s → AckRun p l ((outs ++ [T]) ++ o) (s0 + (p + lateI ((l.drop f).take q) T) + s)) := Lib.hid (by
                              intro o s ho
                              rw [← List.drop_drop] at ho
                              have := HH.out _ _ (AckRun.step' HD.out hT1 HT.out HLE.out (by rw [h0.len]; exact hq) HQ.out H6.out ho)
                              rw [List.append_assoc]
                              rw [show s0 + (p + lateI ((l.drop f).take q) T) + s = s0 + (p + lateI ((l.drop f).take q) T + s) by omega]
                              exact this)
                            have z0 := lateI_nonneg ((l.drop f).take q) T
                            have z1 : lateI ((l.drop f).take q) T ≤ p := Int.le_trans (lateI_take_le _ _ _) HT.out
                            have HC := Lib.hid (RI.cut h0 (k := q) (cap := c0) hq hc0)
                            have HO2 : Hid (∀ x ∈ outs ++ [T], 0 ≤ x ∧ x ≤ 1020) := Lib.hid (by
                              intro x hx
                              rw [List.mem_append, List.mem_singleton] at hx
                              rcases hx with hx | hx
                              · exact HO.out x hx
                              · omega)
                            go_wp2_with (at_builtin; refine wpList_push _ rfl (.tmp 46) (.tmp 48) _ rfl w.heap.size 3 _ _ Tryd.underlying22 infoI rfl (by decide) _ _ _ rfl R8 (.int .i64 T) rfl rfl (by omega) hbs ?_; intro v' w1 R8' g8)
                            have hB1 := hB.grown g8 hbs (fun b hb => (R8.lt b hb).1)
                            have HT1 := Lib.hid ((h0.below hB1).take (k := q) hq)
                            refine (late_any _ _ _ _ _ _ HT1.out (by omega) (fun x hx => HI2.out x (List.mem_of_mem_take hx)) (by omega) (by omega)).mono ?_; rintro e w' ⟨rfl, rfl⟩
                            generalize lateI ((l.drop f).take q) T = z2 at z0 z1 HST ⊢
                            go_wp2
                            go_roundw
                            case rel =>
                              refine ⟨f + q, n0 - q, _, m + 1, _, s0 + (p + z2), by omega, rfl, by omega, ?_, by omega, rfl, by omega, by omega, outs ++ [T], by simpa using R8', hB1, HST.out, HO2.out⟩
                              have := HC.out
                              rw [List.drop_drop] at this
                              simpa [hcq] using this
                            case measure => simp [slLen]; omega
                        · have H6 : Hid (∀ x, (l.drop f)[q]? = some x → T < x) := Lib.hid (by
                            intro x hx
                            have := (List.getElem?_eq_some_iff.1 hx).1
                            rw [h0.len] at this
                            omega)
                          by_cases hcq : c0 = q
                          · have HCQ := Lib.hid hcq
                            have hq1 : 1 ≤ q := by
                              rcases q with _ | q
                              · have := H6.out t HY.out; omega
                              · omega
                            have HST : Hid (∀ o s, AckRun p (l.drop (f + q)) o s → AckRun p l ((outs ++ [T]) ++ o) (s0 + (p + lateI ((l.drop f).take q) T) + s)) := Lib.hid (by
                              intro o s ho
                              rw [← List.drop_drop] at ho
                              have := HH.out _ _ (AckRun.step' HD.out hT1 HT.out HLE.out (by rw [h0.len]; exact hq) HQ.out H6.out ho)
                              rw [List.append_assoc]
                              rw [show s0 + (p + lateI ((l.drop f).take q) T) + s = s0 + (p + lateI ((l.drop f).take q) T + s) by omega]
                              exact this)
                            have z0 := lateI_nonneg ((l.drop f).take q) T
                            have z1 : lateI ((l.drop f).take q) T ≤ p := Int.le_trans (lateI_take_le _ _ _) HT.out
                            have HC := Lib.hid (RI.cut h0 (k := q) (cap := c0) hq hc0)
                            have HO2 : Hid (∀ x ∈ outs ++ [T], 0 ≤ x ∧ x ≤ 1020) := Lib.hid (by
                              intro x hx
                              rw [List.mem_append, List.mem_singleton] at hx
                              rcases hx with hx | hx
                              · exact HO.out x hx
                              · omega)
                            go_wp2_with (at_builtin; refine wpList_push _ rfl (.tmp 46) (.tmp 48) _ rfl w.heap.size 3 _ _ Tryd.underlying22 infoI rfl (by decide) _ _ _ rfl R8 (.int .i64 T) rfl rfl (by omega) hbs ?_; intro v' w1 R8' g8)
                            have hB1 := hB.grown g8 hbs (fun b hb => (R8.lt b hb).1)
                            have HT1 := Lib.hid ((h0.below hB1).take (k := q) hq)
                            refine (late_any _ _ _ _ _ _ HT1.out (by omega) (fun x hx => HI2.out x (List.mem_of_mem_take hx)) (by omega) (by omega)).mono ?_; rintro e w' ⟨rfl, rfl⟩
                            generalize lateI ((l.drop f).take q) T = z2 at z0 z1 HST ⊢
                            go_wp2
                            go_roundw
                            case rel =>
                              refine ⟨f + q, n0 - q, _, m + 1, _, s0 + (p + z2), by omega, rfl, by omega, ?_, by omega, rfl, by omega, by omega, outs ++ [T], by simpa using R8', hB1, HST.out, HO2.out⟩
                              have := HC.out
                              rw [List.drop_drop] at this
                              simpa [hcq] using this
                            case measure => simp [slLen]; omega
                          · have HCQ := Lib.hid hcq
                            have hq1 : 1 ≤ q := by
                              rcases q with _ | q
                              · have := H6.out t HY.out; omega
                              · omega
                            have HST : Hid (∀ o s, AckRun p (l.drop (f + q)) o s → AckRun p l ((outs ++ [T]) ++ o) (s0 + (p + lateI ((l.drop f).take q) T) + s)) := Lib.hid (by
                              intro o s ho
                              rw [← List.drop_drop] at ho
                              have := HH.out _ _ (AckRun.step' HD.out hT1 HT.out HLE.out (by rw [h0.len]; exact hq) HQ.out H6.out ho)
                              rw [List.append_assoc]
                              rw [show s0 + (p + lateI ((l.drop f).take q) T) + s = s0 + (p + lateI ((l.drop f).take q) T + s) by omega]
                              exact this)
                            have z0 := lateI_nonneg ((l.drop f).take q) T
                            have z1 : lateI ((l.drop f).take q) T ≤ p := Int.le_trans (lateI_take_le _ _ _) HT.out
                            have HC := Lib.hid (RI.cut h0 (k := q) (cap := c0) hq hc0)
                            have HO2 : Hid (∀ x ∈ outs ++ [T], 0 ≤ x ∧ x ≤ 1020) := Lib.hid (by
                              intro x hx
                              rw [List.mem_append, List.mem_singleton] at hx
                              rcases hx with hx | hx
                              · exact HO.out x hx
                              · omega)
                            go_wp2_with (at_builtin; refine wpList_push _ rfl (.tmp 46) (.tmp 48) _ rfl w.heap.size 3 _ _ Tryd.underlying22 infoI rfl (by decide) _ _ _ rfl R8 (.int .i64 T) rfl rfl (by omega) hbs ?_; intro v' w1 R8' g8)
                            have hB1 := hB.grown g8 hbs (fun b hb => (R8.lt b hb).1)
                            have HT1 := Lib.hid ((h0.below hB1).take (k := q) hq)
                            refine (late_any _ _ _ _ _ _ HT1.out (by omega) (fun x hx => HI2.out x (List.mem_of_mem_take hx)) (by omega) (by omega)).mono ?_; rintro e w' ⟨rfl, rfl⟩
                            generalize lateI ((l.drop f).take q) T = z2 at z0 z1 HST ⊢
                            go_wp2
                            go_roundw
                            case rel =>
                              refine ⟨f + q, n0 - q, _, m + 1, _, s0 + (p + z2), by omega, rfl, by omega, ?_, by omega, rfl, by omega, by omega, outs ++ [T], by simpa using R8', hB1, HST.out, HO2.out⟩
                              have := HC.out
                              rw [List.drop_drop] at this
                              simpa [hcq] using this
                            case measure => simp [slLen]; omega
    · have hn00 : n0 = 0 := by omega
      have F8 := Lib.hid R8.form
      have HE : Hid (AckRun p l outs s0) := Lib.hid (by
        have := HH.out [] 0
        rw [List.drop_of_length_le (by have := HL.out; omega)] at this
        simpa using this AckRun.nil)
      subst hn00
      clear hn0
      go_wp2
      go_ret3
      obtain ⟨A1, c1, hv8, _, _⟩ := F8.out
      exact ⟨A1, m, c1, outs, s0, by rw [← hv8]; rfl, by rw [← hv8]; exact R8, by omega, by omega, by omega, HE.out, HO.out, hB⟩
end Go.Proofs.YtmeamgeojcbljaaDoor
