/- The walk of the law AckWaits: it returns true, for every input. -/
import Derived.Test.YtckjbcdkmbaejaaAckLaw
namespace Go.Proofs.Ytckjbcdkmbaejaa
open Go.ChangeShapes Go.WideShapes Go.ChangeAt Go.RowKit

/-- How far the law has come: told till now, the last time, the cost so far. -/
def WaitInv (l outs : List Int) (p : Int) (i f : Nat) (from' s total : Int) : Prop :=
  (∀ x ∈ l.take f, x ≤ from') ∧ (∀ x ∈ l.drop f, from' < x) ∧ ∃ s', AckRun p (l.drop f) (outs.drop i) s' ∧ s + s' = total

/-- The sums over the first k messages, at one time of telling. -/
def WaitIn (l : List Int) (a T : Int) (k : Nat) (now next : Int) (many : Nat) : Prop :=
  now = lateI ((l.take k).filter (a < ·)) T ∧ next = lateI ((l.take k).filter (a < ·)) (T + 1) ∧ many = cntI (l.take k) a T

theorem WaitIn.skip {l : List Int} {a T now next x : Int} {k many : Nat} (h : WaitIn l a T k now next many) (hx : l[k]? = some x) (h1 : ¬ a < x) : WaitIn l a T (k + 1) now next many := by
  obtain ⟨e1, e2, e3⟩ := h
  refine ⟨?_, ?_, ?_⟩
  · rw [take_succ_of hx, up_snoc, if_neg h1, List.append_nil]; exact e1
  · rw [take_succ_of hx, up_snoc, if_neg h1, List.append_nil]; exact e2
  · rw [take_succ_of hx, cntI_snoc, if_neg (fun h => h1 h.1)]; exact e3
theorem WaitIn.late {l : List Int} {a T now next x : Int} {k many : Nat} (h : WaitIn l a T k now next many) (hx : l[k]? = some x) (h1 : a < x) (h2 : T < x) : WaitIn l a T (k + 1) now next many := by
  obtain ⟨e1, e2, e3⟩ := h
  refine ⟨?_, ?_, ?_⟩
  · rw [take_succ_of hx, up_snoc, if_pos h1, lateI_snoc, ← e1]; omega
  · rw [take_succ_of hx, up_snoc, if_pos h1, lateI_snoc, ← e2]; omega
  · rw [take_succ_of hx, cntI_snoc, if_neg (fun h => by omega)]; exact e3
theorem WaitIn.now {l : List Int} {a T now next x : Int} {k many : Nat} (h : WaitIn l a T k now next many) (hx : l[k]? = some x) (h1 : a < x) (h2 : x ≤ T) : WaitIn l a T (k + 1) (now + T - x) (next + T + 1 - x) (many + 1) := by
  obtain ⟨e1, e2, e3⟩ := h
  refine ⟨?_, ?_, ?_⟩
  · rw [take_succ_of hx, up_snoc, if_pos h1, lateI_snoc, ← e1]; omega
  · rw [take_succ_of hx, up_snoc, if_pos h1, lateI_snoc, ← e2]; omega
  · rw [take_succ_of hx, cntI_snoc, if_pos ⟨h1, h2⟩, ← e3]
theorem WaitIn.bound {l : List Int} {a T now next : Int} {k many : Nat} (h : WaitIn l a T k now next many) (hl : l.length ≤ 20) (hin : AllIn l 0 1000) (hT : 0 ≤ T) (hT2 : T ≤ 3000) : 0 ≤ now ∧ now ≤ 100000 ∧ 0 ≤ next ∧ next ≤ 100000 ∧ many ≤ 20 := by
  obtain ⟨e1, e2, e3⟩ := h
  have hlen : ((l.take k).filter (a < ·)).length ≤ 20 := Nat.le_trans (List.length_filter_le _ _) (by simp; omega)
  have hm : ∀ t ∈ (l.take k).filter (a < ·), 0 ≤ t := fun t ht => (hin t (List.mem_of_mem_take (List.mem_filter.1 ht).1)).1
  have a1 := lateI_le _ T hm hT
  have a2 := lateI_le _ (T + 1) hm (by omega)
  have b1 := lateI_nonneg ((l.take k).filter (a < ·)) T
  have b2 := lateI_nonneg ((l.take k).filter (a < ·)) (T + 1)
  have c1 : ((((l.take k).filter (a < ·)).length : Nat) : Int) * T ≤ 20 * 3000 := Int.mul_le_mul (by omega) hT2 hT (by omega)
  have c2 : ((((l.take k).filter (a < ·)).length : Nat) : Int) * (T + 1) ≤ 20 * 3001 := Int.mul_le_mul (by omega) (by omega) (by omega) (by omega)
  have d1 := cntI_le (l.take k) a T
  have d2 : (l.take k).length ≤ 20 := by simp; omega
  exact ⟨by omega, by omega, by omega, by omega, by omega⟩
/-- Behind all messages: what the sums are, and where the next time begins. -/
theorem wait_step {l outs : List Int} {p from' s total T now next : Int} {i f many : Nat} (hl : Rise l) (h : WaitInv l outs p i f from' s total) (hT : outs[i]? = some T) (hi : WaitIn l from' T l.length now next many) :
    from' < T ∧ 1 ≤ many ∧ now ≤ p ∧ p < next ∧ f + many ≤ l.length ∧ WaitInv l outs p (i + 1) (f + many) T (s + now + p) total := by
  obtain ⟨h1, h2, s', hA, hs⟩ := h
  obtain ⟨e1, e2, e3⟩ := hi
  rw [List.take_of_length_le (Nat.le_refl _)] at e1 e2 e3
  rw [up_drop h1 h2] at e1 e2
  have hd : outs.drop i = T :: outs.drop (i + 1) := by
    obtain ⟨hlt, rfl⟩ := List.getElem?_eq_some_iff.1 hT
    exact List.drop_eq_getElem_cons hlt
  rw [hd] at hA
  obtain ⟨q, s'', q1, q2, a1, a2, a3, a4, a5, a6, t, ht1, ht2⟩ := hA.inv
  have hc := cntI_cut hl h1 h2 q2 a3 a4
  have hmq : many = q := e3.trans hc
  subst hmq
  have hlate := late_cut (hl.drop f) a4
  have hft := h2 t ht1
  rw [List.length_drop] at q2
  have hf : f ≤ l.length := by omega
  rw [List.drop_drop] at a5
  refine ⟨by omega, q1, by omega, by omega, by omega, ?_, ?_, s'', a5, by omega⟩
  · intro x hx
    rw [List.mem_iff_getElem?] at hx
    obtain ⟨j, hj⟩ := hx
    rw [List.getElem?_take] at hj
    split at hj
    · rename_i hlt
      by_cases hjf : j < f
      · have := h1 x (List.mem_iff_getElem?.2 ⟨j, by rw [List.getElem?_take, if_pos hjf]; exact hj⟩); omega
      · refine a3 x (List.mem_iff_getElem?.2 ⟨j - f, ?_⟩)
        rw [List.getElem?_take, if_pos (by omega), List.getElem?_drop, show f + (j - f) = j by omega]; exact hj
    · cases hj
  · intro x hx
    rw [← List.drop_drop] at hx
    by_cases hlt : many < (l.drop f).length
    · have hy := List.getElem?_eq_getElem hlt
      have k1 := a4 _ hy
      obtain ⟨j, hj⟩ := List.mem_iff_getElem?.1 hx
      rw [List.getElem?_drop] at hj
      have k2 := (hl.drop f).le j many _ x hy hj
      omega
    · rw [List.drop_of_length_le (by omega)] at hx; cases hx
theorem wait_end {l outs : List Int} {p from' s total : Int} {i f : Nat} (h : WaitInv l outs p i f from' s total) (hf : f ≤ l.length) (hi : outs.length ≤ i) : f = l.length ∧ s = total := by
  obtain ⟨_, _, s', hA, hs⟩ := h
  rw [List.drop_of_length_le hi] at hA
  obtain ⟨e1, e2⟩ := hA.inv_nil
  have := congrArg List.length e1
  simp at this
  exact ⟨by omega, by omega⟩
theorem wait_begin {l outs : List Int} {p total : Int} (hl : AllIn l 0 1000) (h : AckRun p l outs total) : WaitInv l outs p 0 0 (-1) 0 total :=
  ⟨by simp, fun x hx => by have := hl x (by simpa using hx); omega, total, by simpa using h, by omega⟩

set_option maxRecDepth 100000 in
set_option maxHeartbeats 8000000 in
theorem law_AckWaits (A : Option Addr) (n c : Nat) (l : List Int) (p : Int) (w : World) (h : RI w A n l) (hnc : n ≤ c) (hn : n ≤ 9223372036854775807) :
    Calls Try.prog 6 #[.slice A n c, .int .i64 p] w fun e w' => e = .returned (.bool true) ∧ Below w.heap.size w w' := by
  have HL := Lib.hid h.len
  by_cases hg : GoodA l p
  · have HG := Lib.hid hg
    have hn20 : n ≤ 20 := by have := HL.out; have := hg.1.1; omega
    have p0 : 1 ≤ p := hg.1.2.2.1
    have p1 : p ≤ 20 := hg.1.2.2.2
    clear hg hn
    go_enter Try.func6, Try.ntmps6
    go_wp2_with fail
    refine (ackFact_ok _).mono ?_; rintro e w0 ⟨rfl, hB0⟩
    have h0 := h.below hB0
    go_wp2_with fail
    refine (arun_ok _ _ _ _ _ _ h0 hnc HG.out).mono ?_; rintro e w1 ⟨A1, m, c1, outs, tot, rfl, R1, hm20, t0, t1, hA, hO, hB1⟩
    have HW := Lib.hid (wait_begin HG.out.1.2.1 hA)
    have HO := Lib.hid hO
    clear hA hO
    have hB01 := hB0.trans (hB1.mono hB0.size)
    have RO := Lib.hid (Row.reads R1)
    have HLO := Lib.hid RO.out.len
    have h1 := h0.below hB1
    clear R1 h0
    go_wp2
    go_loopw [9, 10, 11, 12, 13, 14, 15, 16] (fun v9 v10 v11 v12 _ _ _ _ wr => ∃ i f : Nat, ∃ a s : Int, i ≤ m ∧ f ≤ n ∧ v12 = .int .i64 i ∧ v10 = .int .i64 f ∧ v11 = .int .i64 a ∧ -1 ≤ a ∧ a ≤ 1020 ∧ v9 = .int .i64 s ∧ 0 ≤ s ∧ s ≤ 40 * i ∧ (∃ d, wr = w1.drewN d) ∧ Hid (WaitInv l outs p i f a s tot)) (fun _ _ _ v12 _ _ _ _ _ => m - (intOf v12).toNat)
    case atStart => exact ⟨0, 0, -1, 0, by omega, by omega, by go_num, by go_num, rfl, by omega, by omega, rfl, by omega, by omega, ⟨0, rfl⟩, HW⟩
    case round =>
      obtain ⟨i, f, a, s, hi, hf, rfl, rfl, rfl, a0, a1, rfl, s0, s1, ⟨d, rfl⟩, HI⟩ := hrel
      by_cases hlt : i < m
      · obtain ⟨ado, T, rfl, HT, hcT⟩ := RO.out.at_ hlt
        obtain ⟨T0, T1⟩ := HO.out T (mem_of_at HT.out)
        have T3 : T ≤ 3000 := by omega
        have hall := fun now next many => wait_step (now := now) (next := next) (many := many) HG.out.2 HI.out HT.out
        have HALL := Lib.hid hall
        clear hall
        have haT : a < T := (HALL.out _ _ _ ⟨rfl, rfl, rfl⟩).1
        have haT2 : ¬ T ≤ a := by omega
        go_wp2_with fail
        refine (lin_ok _ _ _ _ T0 T3).mono ?_; rintro e w' ⟨rfl, rfl⟩
        go_wp2
        go_loopw [13, 14, 15, 16] (fun v13 v14 v15 v16 wr => ∃ k many : Nat, ∃ now next : Int, k ≤ n ∧ v16 = .int .i64 k ∧ v13 = .int .i64 now ∧ v14 = .int .i64 next ∧ v15 = .int .i64 many ∧ (∃ d, wr = w1.drewN d) ∧ Hid (WaitIn l a T k now next many)) (fun _ _ _ v16 _ => n - (intOf v16).toNat)
        case atStart => exact ⟨0, 0, 0, 0, by omega, by go_num, rfl, rfl, by go_num, ⟨_, rfl⟩, Lib.hid ⟨rfl, rfl, rfl⟩⟩
        case round =>
          obtain ⟨k, many, now, next, hk, rfl, rfl, rfl, rfl, ⟨d', rfl⟩, HQ⟩ := hrel
          obtain ⟨n0, n1, x0, x1, hmany⟩ := HQ.out.bound HG.out.1.1 HG.out.1.2.1 T0 T3
          by_cases hlk : k < n
          · obtain ⟨adl, x, rfl, HX, hcx⟩ := h1.at_ hlk
            obtain ⟨y0, y1⟩ := HG.out.1.2.1 x (mem_of_at HX.out)
            by_cases hax : a < x
            · by_cases hxT : x ≤ T
              · have HN := Lib.hid (HQ.out.now HX.out hax hxT)
                have hxT1 : x ≤ T + 1 := by omega
                go_wp2
                have e3 : IntKind.i64.wrap (T + 1) = T + 1 := IntWalk.i64_in _ (by omega)
                have e1 : IntKind.i64.wrap (now + T) = now + T := IntWalk.i64_in _ (by omega)
                have e2 : IntKind.i64.wrap (now + T - x) = now + T - x := IntWalk.i64_in _ (by omega)
                have e4 : IntKind.i64.wrap (next + T) = next + T := IntWalk.i64_in _ (by omega)
                have e5 : IntKind.i64.wrap (next + T + 1) = next + T + 1 := IntWalk.i64_in _ (by omega)
                have e6 : IntKind.i64.wrap (next + T + 1 - x) = next + T + 1 - x := IntWalk.i64_in _ (by omega)
                go_quiet (fail)
                go_wp2
                go_quiet (fail)
                go_wp2
                go_quiet (fail)
                go_wp2
                go_quiet (fail)
                clear e3 e1 e2 e4 e5 e6
                go_wp2
                go_roundw
                case rel => exact ⟨k + 1, many + 1, now + T - x, next + T + 1 - x, by omega, by go_num, rfl, rfl, by go_num, ⟨_, rfl⟩, HN⟩
                case measure => simp [intOf]; omega
              · by_cases hxT1 : x ≤ T + 1
                · have HN := Lib.hid (HQ.out.late HX.out hax (by omega))
                  have hnx : next + T + 1 - x = next := by omega
                  have HNX := Lib.hid hnx
                  clear hnx
                  go_wp2
                  have e3 : IntKind.i64.wrap (T + 1) = T + 1 := IntWalk.i64_in _ (by omega)
                  have e4 : IntKind.i64.wrap (next + T) = next + T := IntWalk.i64_in _ (by omega)
                  have e5 : IntKind.i64.wrap (next + T + 1) = next + T + 1 := IntWalk.i64_in _ (by omega)
                  have e6 : IntKind.i64.wrap (next + T + 1 - x) = next + T + 1 - x := IntWalk.i64_in _ (by omega)
                  go_quiet (fail)
                  go_wp2
                  go_quiet (fail)
                  go_wp2
                  go_quiet (fail)
                  clear e3 e4 e5 e6
                  go_wp2
                  go_roundw
                  case rel => exact ⟨k + 1, many, now, next + T + 1 - x, by omega, by go_num, rfl, rfl, rfl, ⟨_, rfl⟩, by rw [HNX.out]; exact HN⟩
                  case measure => simp [intOf]; omega
                · have HN := Lib.hid (HQ.out.late HX.out hax (by omega))
                  go_wp2
                  have e3 : IntKind.i64.wrap (T + 1) = T + 1 := IntWalk.i64_in _ (by omega)
                  go_quiet (fail)
                  go_wp2
                  go_quiet (fail)
                  clear e3
                  go_wp2
                  go_roundw
                  case rel => exact ⟨k + 1, many, now, next, by omega, by go_num, rfl, rfl, rfl, ⟨_, rfl⟩, HN⟩
                  case measure => simp [intOf]; omega
            · have hax2 : decide (a < x) = false := by simp; omega
              have HN := Lib.hid (HQ.out.skip HX.out hax)
              go_wp2
              have e3 : IntKind.i64.wrap (T + 1) = T + 1 := IntWalk.i64_in _ (by omega)
              go_quiet (fail)
              go_wp2
              go_quiet (fail)
              clear e3
              go_wp2
              go_roundw
              case rel => exact ⟨k + 1, many, now, next, by omega, by go_num, rfl, rfl, rfl, ⟨_, rfl⟩, HN⟩
              case measure => simp [intOf]; omega
          · have hkn : k = l.length := by have := HL.out; omega
            have hq := HQ.out
            rw [hkn] at hq
            obtain ⟨_, r1, r2, r3, r4, r5⟩ := HALL.out _ _ _ hq
            have HR5 := Lib.hid r5
            have r6 : f + many ≤ n := by have := HL.out; omega
            have r7 : (((many : Nat) : Int) == 0) = false := by simp; omega
            have r8 : ¬ next ≤ p := by omega
            clear hq r5 hkn
            go_wp2
            clear r7
            go_roundw
            case rel => exact ⟨i + 1, f + many, T, s + now + p, by omega, r6, by go_num, by go_num, rfl, by omega, by omega, rfl, by omega, by omega, ⟨_, rfl⟩, HR5⟩
            case measure => simp [intOf]; omega
      · obtain ⟨u1, u2⟩ := wait_end HI.out (by have := HL.out; omega) (by have := HLO.out; omega)
        have u3 : f = n := by have := HL.out; omega
        subst u2
        subst u3
        have gf : ((f : Int) == (f : Int)) = true := by simp
        have gs : ((s : Int) == s) = true := by simp
        clear u1
        go_wp2
        go_ret
        exact ⟨rfl, belowN hB01 _⟩
  · have HG := Lib.hid hg
    clear hg
    go_enter Try.func6, Try.ntmps6
    go_wp2_with fail
    refine (ackFact_ok _).mono ?_; rintro e w0 ⟨rfl, hB0⟩
    have h0 := h.below hB0
    go_wp2_with fail
    refine (arun_no _ _ _ _ _ _ h0 hn HG.out).mono ?_; rintro e w1 ⟨rfl, d1, rfl⟩
    go_wp2
    go_ret
    exact ⟨rfl, belowN hB0 d1⟩
end Go.Proofs.Ytckjbcdkmbaejaa
