/- The walk of acks.Least: what it returns, for every input. -/
import Derived.Test.YtgljpdfmejganaaAcks
namespace Go.Proofs.Ytgljpdfmejganaa
open Go.ChangeShapes Go.WideShapes Go.ChangeAt Go.RowKit

theorem late_q (A : Option Addr) (n c : Nat) (l : List Int) (T : Int) (w : World) (h : RI w A n l) (hn : n ≤ 100) (ha : AllIn l 0 1000000) (hT : 0 ≤ T) (hT2 : T ≤ 1000000) :
    Calls Try.prog 53 #[.slice A n c, .int .i64 T] w fun e w' => e = .returned (.int .i64 (lateI l T)) ∧ w' = w :=
  (late_any A n c l T w h hn ha hT hT2).mono fun _ _ ⟨h1, h2⟩ => ⟨h1, h2.symm⟩

theorem aleast_no (A : Option Addr) (n c : Nat) (l : List Int) (p : Int) (w : World) (h : RI w A n l) (hn : n ≤ 9223372036854775807) (hg : ¬ GoodA l p) :
    Calls Try.prog 18 #[.slice A n c, .int .i64 p] w
      (QuietRet w (.tuple #[.int .i64 0, .iface 108 (.int .i64 (ackE l p))])) := by
  have HG := Lib.hid hg
  clear hg
  go_enter Try.func18, Try.ntmps18
  go_wp2_with fail
  refine (acheck_no _ _ _ _ _ _ h hn HG.out).mono ?_; rintro e w' ⟨rfl, d, rfl⟩
  go_wp2
  go_ret2
  exact ⟨rfl, d, rfl⟩

def LeastRes (w w' : World) (e : Ending) (l : List Int) (p : Int) : Prop :=
  ∃ B k, e = .returned (.tuple #[.int .i64 k, .nilIface]) ∧ k = B.getD l.length 0 ∧ IsBest p l B ∧ B.length = l.length + 1 ∧ 0 ≤ k ∧ k ≤ 20020 ∧ Below w.heap.size w w'

theorem Row.lit1 (w : World) (base : Nat) (e : TypeId) (u : Value) (hb : base ≤ w.heap.size) : Row (w.alloc (.cells #[u] e)) base e (.slice (some ⟨w.heap.size, 0, none⟩) 1 1) 1 [u] := by
  refine ⟨rfl, .inr ⟨w.heap.size, 1, #[u], rfl, hb, ?_, by omega, by simp [maxLen], rfl, rfl⟩⟩
  show (w.heap.push _)[w.heap.size]? = _
  simp

def LeastInv (w wr : World) (l : List Int) (p : Int) (k : Nat) (v7 : Value) (B : List Int) : Prop :=
  Row wr w.heap.size 3 v7 (k + 1) (B.map (Value.int .i64)) ∧ Below w.heap.size w wr ∧ IsBest p l B ∧ B.length = k + 1

set_option maxHeartbeats 4000000 in
theorem aleast_ok (A : Option Addr) (n c : Nat) (l : List Int) (p : Int) (w : World) (h : RI w A n l) (hnc : n ≤ c) (hg : GoodA l p) :
    Calls Try.prog 18 #[.slice A n c, .int .i64 p] w fun e w' => LeastRes w w' e l p := by
  have HL := Lib.hid h.len
  have HG := Lib.hid hg
  have hn : n ≤ 20 := by have := HL.out; have := hg.1.1; omega
  have hp1 : 1 ≤ p := hg.1.2.2.1
  have hp2 : p ≤ 20 := hg.1.2.2.2
  clear hg
  go_enter Try.func18, Try.ntmps18
  go_wp2_with fail
  refine (acheck_ok _ _ _ _ _ _ h HG.out).mono ?_; rintro e w' ⟨rfl, d0, rfl⟩
  have hB0 := belowN (Below.refl w.heap.size w) d0
  generalize w.drewN d0 = w0 at *
  have RL := Row.lit1 w0 w.heap.size 3 (.int .i64 0) hB0.size
  have hBL := hB0.alloc hB0.size (.cells #[.int .i64 0] 3)
  go_wp2
  go_loopw [7, 8, 9, 10, 11, 21] (fun v7 _ _ _ _ i wr => ∃ k : Nat, ∃ A7 c7, k ≤ n ∧ i = .int .i64 k ∧ v7 = .slice A7 (k + 1) c7 ∧ ∃ B, LeastInv w wr l p k v7 B) (fun _ _ _ _ _ i _ => n - (intOf i).toNat)
  case atStart => exact ⟨0, _, _, by omega, by go_num, rfl, [0], by simpa using RL, hBL, isBest_nil p l, rfl⟩
  case round =>
    obtain ⟨k, A7, c7, hk, rfl, rfl, B, R7, hB, hI, hBl⟩ := hrel
    have HI := Lib.hid hI
    have HBL := Lib.hid hBl
    clear hI hBl
    have hbs := hB.size
    by_cases hlt : k < n
    · have hr := h.below hB
      obtain ⟨ad, y, hA, HY, hcy⟩ := hr.at_ hlt
      obtain ⟨y0, y1⟩ := HG.out.1.2.1 y (mem_of_at HY.out)
      subst hA
      obtain ⟨ad7, _, hA7, _, _⟩ := (Row.reads R7).at_ (k := 0) (by omega)
      subst hA7
      go_wp2
      go_loopw [9, 10, 11, 26] (fun v9 _ _ j wj => ∃ q : Nat, ∃ m : Int, q ≤ k + 1 ∧ j = .int .i64 q ∧ v9 = .int .i64 m ∧ -1 ≤ m ∧ m ≤ 40040 ∧ Row wj w.heap.size 3 (.slice (some ad7) (k + 1) c7) (k + 1) (B.map (Value.int .i64)) ∧ Below w.heap.size w wj ∧ Hid (MinUp (fun j => B.getD j 0 + p + lateI ((l.take (k + 1)).drop j) y) q m)) (fun _ _ _ j _ => k + 1 - (intOf j).toNat)
      case atStart => exact ⟨0, -1, by omega, by go_num, rfl, by omega, by omega, R7, hB, Lib.hid (MinUp.none _)⟩
      case round =>
        obtain ⟨q, m, hq, rfl, rfl, hm0, hm1, RJ, hBj, HM⟩ := hrel
        have hbj := hBj.size
        by_cases hlq : q < k + 1
        · have hrj := h.below hBj
          obtain ⟨ad', y', hA', HY', hcj⟩ := hrj.at_ hlt
          injection hA' with hA'
          subst hA'
          have hyy : y' = y := by have := HY'.out; rw [HY.out] at this; injection this with this; exact this.symm
          subst hyy
          obtain ⟨ad8, b, hA8, HB, hcb⟩ := (Row.reads RJ).at_ (k := q) hlq
          injection hA8 with hA8
          subst hA8
          have hbq : B.getD q 0 = b := by rw [List.getD_eq_getElem?_getD, HB.out]; rfl
          have hbb := best_bound (by omega) HI.out HG.out.1.2.1 HG.out.1.1 (by have := HBL.out; have := HL.out; omega) q (by have := HBL.out; omega)
          rw [hbq] at hbb
          obtain ⟨b0, b1⟩ := hbb
          have hcq : ¬ c = q := by omega
          have hT := RI.cut (hrj.take (k := k + 1) (by omega)) (k := q) (cap := c) (by omega) (by omega)
          rw [if_neg hcq] at hT
          have z0 := lateI_nonneg ((l.take (k + 1)).drop q) y'
          have z1 : lateI ((l.take (k + 1)).drop q) y' ≤ 20000 := by
            have h2 := lateI_le ((l.take (k + 1)).drop q) y' (fun t ht => (HG.out.1.2.1 t (List.mem_of_mem_take (List.mem_of_mem_drop ht))).1) y0
            have h3 : ((((l.take (k + 1)).drop q).length : Nat) : Int) * y' ≤ 20 * 1000 := by
              apply Int.mul_le_mul
              · simp; omega
              · exact y1
              · exact y0
              · omega
            omega
          have HLATE := Lib.hid (fun d => late_q (some (ad.add q)) (k + 1 - q) (c - q) ((l.take (k + 1)).drop q) y' _ (hT.drewN d) (by omega) (fun x hx => by have := HG.out.1.2.1 x (List.mem_of_mem_take (List.mem_of_mem_drop hx)); omega) (by omega) (by omega))
          have HNEW : Hid ((m < 0 ∨ b + p + lateI ((l.take (k + 1)).drop q) y' < m) → MinUp (fun j => B.getD j 0 + p + lateI ((l.take (k + 1)).drop j) y') (q + 1) (b + p + lateI ((l.take (k + 1)).drop q) y')) := Lib.hid (by
            intro hm
            have h1 : MinUp (fun j => B.getD j 0 + p + lateI ((l.take (k + 1)).drop j) y') (q + 1) (B.getD q 0 + p + lateI ((l.take (k + 1)).drop q) y') := MinUp.new HM.out (by show 0 ≤ B.getD q 0 + p + _; rw [hbq]; omega) (by show _ ∨ B.getD q 0 + p + _ < m; rw [hbq]; exact hm)
            rw [hbq] at h1; exact h1)
          have HOLD : Hid (¬ (m < 0 ∨ b + p + lateI ((l.take (k + 1)).drop q) y' < m) → MinUp (fun j => B.getD j 0 + p + lateI ((l.take (k + 1)).drop j) y') (q + 1) m) := Lib.hid (by
            intro hm
            exact MinUp.old HM.out (by show ¬ (_ ∨ B.getD q 0 + p + _ < m); rw [hbq]; exact hm))
          clear hT hbq
          generalize lateI ((l.take (k + 1)).drop q) y' = z at *
          by_cases hneg : m < 0
          · have HN := Lib.hid (HNEW.out (.inl hneg))
            go_wp2
            have e0 : (0 : Int) ≤ (k : Int) + 1 := by omega
            have e1 : ((k : Int) + 1).toNat = k + 1 := by omega
            have e2 : IntKind.i64.wrap ((k : Int) + 1) = (k : Int) + 1 := IntWalk.i64_in _ (by omega)
            have e3 : IntKind.i64.wrap (b + p) = b + p := IntWalk.i64_in _ (by omega)
            have e4 : IntKind.i64.wrap (b + p + z) = b + p + z := IntWalk.i64_in _ (by omega)
            have e5 : (k : Int) + 1 ≤ c := by omega
            have e6 : (q : Int) ≤ (k : Int) + 1 := by omega
            go_quiet ((go_at_call 53; exact Calls.quiet_of_same (HLATE.out _)))
            clear e0 e1 e2 e3 e4 e5 e6
            go_wp2
            go_roundw
            case rel => exact ⟨q + 1, b + p + z, by omega, by go_num, rfl, by omega, by omega, RJ.drewN _, belowN hBj _, HN⟩
            case measure => simp [intOf]; omega
          · by_cases hless : b + p + z < m
            · have HN := Lib.hid (HNEW.out (.inr hless))
              go_wp2
              have e0 : (0 : Int) ≤ (k : Int) + 1 := by omega
              have e1 : ((k : Int) + 1).toNat = k + 1 := by omega
              have e2 : IntKind.i64.wrap ((k : Int) + 1) = (k : Int) + 1 := IntWalk.i64_in _ (by omega)
              have e3 : IntKind.i64.wrap (b + p) = b + p := IntWalk.i64_in _ (by omega)
              have e4 : IntKind.i64.wrap (b + p + z) = b + p + z := IntWalk.i64_in _ (by omega)
              have e5 : (k : Int) + 1 ≤ c := by omega
              have e6 : (q : Int) ≤ (k : Int) + 1 := by omega
              go_quiet ((go_at_call 53; exact Calls.quiet_of_same (HLATE.out _)))
              clear e0 e1 e2 e3 e4 e5 e6
              go_wp2
              go_roundw
              case rel => exact ⟨q + 1, b + p + z, by omega, by go_num, rfl, by omega, by omega, RJ.drewN _, belowN hBj _, HN⟩
              case measure => simp [intOf]; omega
            · have HN := Lib.hid (HOLD.out (by omega))
              go_wp2
              have e0 : (0 : Int) ≤ (k : Int) + 1 := by omega
              have e1 : ((k : Int) + 1).toNat = k + 1 := by omega
              have e2 : IntKind.i64.wrap ((k : Int) + 1) = (k : Int) + 1 := IntWalk.i64_in _ (by omega)
              have e3 : IntKind.i64.wrap (b + p) = b + p := IntWalk.i64_in _ (by omega)
              have e4 : IntKind.i64.wrap (b + p + z) = b + p + z := IntWalk.i64_in _ (by omega)
              have e5 : (k : Int) + 1 ≤ c := by omega
              have e6 : (q : Int) ≤ (k : Int) + 1 := by omega
              go_quiet ((go_at_call 53; exact Calls.quiet_of_same (HLATE.out _)))
              clear e0 e1 e2 e3 e4 e5 e6
              go_wp2
              go_roundw
              case rel => exact ⟨q + 1, m, by omega, by go_num, rfl, by omega, by omega, RJ.drewN _, belowN hBj _, HN⟩
              case measure => simp [intOf]; omega
        · have hqk : q = k + 1 := by omega
          have HMM := Lib.hid (show MinUp (fun j => B.getD j 0 + p + lateI ((l.take (k + 1)).drop j) y) (k + 1) m by have := HM.out; rwa [hqk] at this)
          have HIS := Lib.hid (isBest_snoc HI.out HBL.out HY.out HMM.out)
          go_wp2_with (at_builtin; refine wpList_push _ rfl (.tmp 55) (.tmp 57) _ rfl w.heap.size 3 _ _ Try.underlying22 infoI rfl (by decide) _ _ _ rfl RJ (.int .i64 m) rfl rfl (by omega) hbj ?_; intro v' w1 R7' g7)
          have F7 := Lib.hid R7'.form
          go_roundw
          case rel =>
            obtain ⟨A', c', hv, _, _⟩ := F7.out
            refine ⟨k + 1, A', c', by omega, by go_num, hv, B ++ [m], ?_, hBj.grown g7 hbj (fun b hb => (RJ.lt b hb).1), HIS.out, by simp [HBL.out]⟩
            rw [List.map_append]; exact R7'
          case measure => simp [intOf]; omega
    · have hkn : k = n := by omega
      subst hkn
      obtain ⟨ad7, b, hA7, HB, hcb⟩ := (Row.reads R7).at_ (k := k) (by omega)
      subst hA7
      have hbb := best_bound (by omega) HI.out HG.out.1.2.1 HG.out.1.1 (by have := HBL.out; have := HL.out; omega) k (by have := HBL.out; omega)
      have hbq : B.getD k 0 = b := by rw [List.getD_eq_getElem?_getD, HB.out]; rfl
      rw [hbq] at hbb
      have HBB := Lib.hid hbb
      have HBQ := Lib.hid hbq
      clear hbb hbq
      go_wp2
      go_ret2
      exact ⟨B, b, rfl, by rw [HL.out, HBQ.out], HI.out, by rw [HL.out, HBL.out], HBB.out.1, by have := HBB.out.2; omega, hB⟩
end Go.Proofs.Ytgljpdfmejganaa
