/- The walk of the law AckAny: it returns true, for every input. -/
import Derived.Test.YtckjbcdkmbaejaaAckLaw
namespace Go.Proofs.Ytckjbcdkmbaejaa
open Go.ChangeShapes Go.WideShapes Go.ChangeAt Go.RowKit

theorem lin_ok_q (n lo hi : Int) (w : World) (h1 : lo ≤ n) (h2 : n ≤ hi) :
    Calls Try.prog 10 #[.int .i64 n, .int .i64 lo, .int .i64 hi] w fun e w' => e = .returned (.bool true) ∧ w' = w :=
  (lin_ok n lo hi w h1 h2).mono fun _ _ ⟨h1, h2⟩ => ⟨h1, h2.symm⟩
theorem lin_no_q (n lo hi : Int) (w : World) (h : n < lo ∨ hi < n) :
    Calls Try.prog 10 #[.int .i64 n, .int .i64 lo, .int .i64 hi] w fun e w' => e = .returned (.bool false) ∧ w' = w :=
  (lin_no n lo hi w h).mono fun _ _ ⟨h1, h2⟩ => ⟨h1, h2.symm⟩

/-- How far the law has come: what is left, and what it cost. -/
def AnyInv (w wr : World) (l ts : List Int) (p : Int) (q : Nat) (A10 : Option Addr) (n10 : Nat) (s : Int) : Prop :=
  RI wr A10 n10 (anyLeft l (ts.take q)) ∧ Below w.heap.size w wr ∧ s = anySum p l (ts.take q)

def MoreInv (w1 wj : World) (L : List Int) (T : Int) (j : Nat) (v13 : Value) (n13 : Nat) (s0 s : Int) : Prop :=
  Row wj w1.heap.size 3 v13 n13 (((L.take j).filter (T < ·)).map (Value.int .i64)) ∧ Below w1.heap.size w1 wj ∧ s = s0 + lateI (L.take j) T ∧ n13 ≤ j

set_option maxRecDepth 100000 in
set_option maxHeartbeats 8000000 in
theorem law_AckAny (A At : Option Addr) (n c m ct : Nat) (l ts : List Int) (p : Int) (w : World) (h : RI w A n l) (hnc : n ≤ c) (hn : n ≤ 9223372036854775807) (ht : RI w At m ts) (hm : m ≤ 9223372036854775807) :
    Calls Try.prog 4 #[.slice A n c, .int .i64 p, .slice At m ct] w fun e w' => e = .returned (.bool true) ∧ Below w.heap.size w w' := by
  have HL := Lib.hid h.len
  have HLt := Lib.hid ht.len
  by_cases hg : GoodA l p
  · have HG := Lib.hid hg
    have hn20 : n ≤ 20 := by have := HL.out; have := hg.1.1; omega
    have p0 : 1 ≤ p := hg.1.2.2.1
    have p1 : p ≤ 20 := hg.1.2.2.2
    clear hg hn
    go_enter Try.func4, Try.ntmps4
    go_wp2_with fail
    refine (ackFact_ok _).mono ?_; rintro e w0 ⟨rfl, hB0⟩
    have h0 := h.below hB0
    go_wp2_with fail
    refine (aleast_ok _ _ _ _ _ _ h0 hnc HG.out).mono ?_; rintro e w1 ⟨B, k, rfl, hk, hI, hBl, k0, k1, hB1⟩
    have hB01 := hB0.trans (hB1.mono hB0.size)
    have HK : Hid (∀ cc, Part p l cc → k ≤ cc) := Lib.hid (fun cc hc => by rw [hk]; exact best_least hI hBl hc)
    clear hk hI hBl
    have h1 := h.below hB01
    go_wp2
    go_loopw [10, 11, 12, 13, 14] (fun v10 v11 v12 _ _ wr => ∃ q n10 c10 : Nat, ∃ A10, ∃ s : Int, q ≤ m ∧ q ≤ 40 ∧ v12 = .int .i64 q ∧ v10 = .slice A10 n10 c10 ∧ n10 ≤ 20 ∧ v11 = .int .i64 s ∧ 0 ≤ s ∧ s ≤ q * 100000 ∧ AnyInv w wr l ts p q A10 n10 s) (fun _ _ v12 _ _ _ => m - (intOf v12).toNat)
    case atStart => exact ⟨0, n, c, A, 0, by omega, by omega, by go_num, rfl, hn20, rfl, by omega, by omega, by simpa [AnyInv, anyLeft, anySum] using ⟨h1, hB01⟩⟩
    case round =>
      obtain ⟨q, n10, c10, A10, s, hq, hq40, rfl, rfl, hn10, rfl, s0, s1, hR, hB, hS⟩ := hrel
      have HS := Lib.hid hS
      clear hS
      by_cases hlt : q < m ∧ q < 40
      · obtain ⟨hlt, hl40⟩ := hlt
        obtain ⟨adt, T, rfl, HT, hcT⟩ := (ht.below hB).at_ hlt
        have HTS := Lib.hid (take_succ_of HT.out)
        by_cases hT : 0 ≤ T ∧ T ≤ 3000
        · obtain ⟨T0, T1⟩ := hT
          have HNX : Hid (anyLeft l (ts.take (q + 1)) = (anyLeft l (ts.take q)).filter (T < ·) ∧ anySum p l (ts.take (q + 1)) = s + (p + lateI (anyLeft l (ts.take q)) T)) := Lib.hid (by
            rw [HTS.out, anyLeft_snoc, anySum_snoc, HS.out]; exact ⟨rfl, rfl⟩)
          have HLA : Hid (AllIn (anyLeft l (ts.take q)) 0 1000) := Lib.hid (fun x hx => HG.out.1.2.1 x (anyLeft_mem hx))
          have HLL := Lib.hid hR.len
          have z0 := lateI_nonneg (anyLeft l (ts.take q)) T
          have z1 : lateI (anyLeft l (ts.take q)) T ≤ 60000 := by
            have a1 := lateI_le (anyLeft l (ts.take q)) T (fun t ht => (HLA.out t ht).1) T0
            have a2 : (((anyLeft l (ts.take q)).length : Nat) : Int) * T ≤ 20 * 3000 := by
              apply Int.mul_le_mul
              · have := HLL.out; omega
              · exact T1
              · exact T0
              · omega
            omega
          generalize anyLeft l (ts.take q) = L at *
          by_cases hgo : 0 < q → ∀ U, ts[q - 1]? = some U → U ≤ T
          · by_cases hq0 : 0 < q
            · obtain ⟨adu, U, hAu, HU, hcU⟩ := (ht.below hB).at_ (show q - 1 < m by omega)
              injection hAu with hAu
              subst hAu
              have hUT := hgo hq0 U HU.out
              have hUT2 : ¬ T < U := by omega
              clear hgo
              have hq1 : (0 : Int) < q := by omega
              have LIN := Lib.hid (fun d => lin_ok_q T 0 3000 (wr.drewN d) T0 T1)
              go_wp2
              have e2 : IntKind.i64.wrap ((q : Int) - 1) = ((q - 1 : Nat) : Int) := by rw [show (q : Int) - 1 = ((q - 1 : Nat) : Int) by omega]; exact IntWalk.i64_in _ (by omega)
              have e3 : q - 1 < m := by omega
              go_quiet ((go_at_call 10; exact Calls.quiet_of_same (LIN.out _)))
              clear e2 e3
              go_wp2
              go_loopw [11, 13, 14] (fun v11 v13 v14 wj => ∃ j n13 c13 : Nat, ∃ A13, ∃ s' : Int, j ≤ n10 ∧ v14 = .int .i64 j ∧ v13 = .slice A13 n13 c13 ∧ v11 = .int .i64 s' ∧ 0 ≤ s' ∧ s' ≤ s + 60000 ∧ MoreInv wr wj L T j v13 n13 s s') (fun _ _ v14 _ => n10 - (intOf v14).toNat)
              case atStart => exact ⟨0, 0, 0, none, s, by omega, by go_num, rfl, rfl, by omega, by omega, by simpa using Row.nil_ _ _ _, belowN (Below.refl _ _) _, by simp [lateI_nil], by omega⟩
              case round =>
                obtain ⟨j, n13, c13, A13, s', hj, rfl, rfl, rfl, s'0, s'1, RJ, hBj, hs', hn13⟩ := hrel
                have HSJ := Lib.hid hs'
                clear hs'
                have hbj := hBj.size
                have hBw := hB.trans (hBj.mono hB.size)
                by_cases hlj : j < n10
                · obtain ⟨adl, x, rfl, HX, hcx⟩ := (hR.below hBj).at_ hlj
                  obtain ⟨adt', T', hA', HT', hcT'⟩ := (ht.below hBw).at_ hlt
                  injection hA' with hA'
                  subst hA'
                  have hTT : T' = T := by have := HT'.out; rw [HT.out] at this; injection this with this; exact this.symm
                  subst hTT
                  have HTX := Lib.hid (take_succ_of HX.out)
                  have HTL := Lib.hid (lateI_take_succ (T := T') HX.out)
                  have z2 := lateI_take_le L (j + 1) T'
                  obtain ⟨x0, x1⟩ := HLA.out x (mem_of_at HX.out)
                  by_cases hTx : T' < x
                  · have HF : Hid ((L.take (j + 1)).filter (T' < ·) = (L.take j).filter (T' < ·) ++ [x]) := Lib.hid (by rw [HTX.out, up_snoc, if_pos hTx])
                    have HS2 : Hid (s' = s + lateI (L.take (j + 1)) T') := Lib.hid (by rw [HTL.out, HSJ.out]; omega)
                    go_wp2
                    go_quiet (fail)
                    go_wp2_with (at_builtin; refine wpList_push _ rfl (.tmp 76) (.tmp 81) _ rfl _ 3 _ _ Try.underlying22 infoI rfl (by decide) _ _ _ rfl (RJ.drewN _) (.int .i64 x) rfl rfl (by omega) hbj ?_; intro v' w4 R13 g13)
                    have F13 := Lib.hid R13.form
                    go_roundw
                    case rel =>
                      obtain ⟨A', c', hv, _, _⟩ := F13.out
                      refine ⟨j + 1, n13 + 1, c', A', s', by omega, by go_num, hv, rfl, s'0, s'1, ?_, hBj.grown (grownBy_drewN g13) hbj (fun b hb => (RJ.lt b hb).1), HS2.out, by omega⟩
                      rw [HF.out, List.map_append]; exact R13
                    case measure => simp [intOf]; omega
                  · have HF : Hid ((L.take (j + 1)).filter (T' < ·) = (L.take j).filter (T' < ·)) := Lib.hid (by rw [HTX.out, up_snoc, if_neg hTx, List.append_nil])
                    have HS2 : Hid (s' + T' - x = s + lateI (L.take (j + 1)) T') := Lib.hid (by rw [HTL.out, HSJ.out]; omega)
                    have hs3 : s' + T' - x ≤ s + 60000 := by have := HS2.out; omega
                    go_wp2
                    have e7 : IntKind.i64.wrap (s' + T') = s' + T' := IntWalk.i64_in _ (by omega)
                    have e8 : IntKind.i64.wrap (s' + T' - x) = s' + T' - x := IntWalk.i64_in _ (by omega)
                    go_quiet (fail)
                    go_wp2
                    go_quiet (fail)
                    clear e7 e8
                    go_wp2
                    go_roundw
                    case rel =>
                      refine ⟨j + 1, n13, c13, A13, s' + T' - x, by omega, by go_num, rfl, rfl, by omega, hs3, ?_, belowN hBj _, HS2.out, by omega⟩
                      rw [HF.out]; exact RJ.drewN _
                    case measure => simp [intOf]; omega
                · have hjn : L.take j = L := List.take_of_length_le (by have := HLL.out; omega)
                  have HR2 : Hid (RI _ A13 n13 (anyLeft l (ts.take (q + 1)))) := Lib.hid (by rw [HNX.out.1, ← hjn]; exact Row.reads RJ)
                  have HS3 : Hid (s' + p = anySum p l (ts.take (q + 1))) := Lib.hid (by rw [HNX.out.2, HSJ.out, hjn]; omega)
                  clear hjn
                  go_wp2
                  go_roundw
                  case rel => exact ⟨q + 1, n13, c13, A13, s' + p, by omega, by omega, by go_num, rfl, by omega, rfl, by omega, by omega, HR2.out, hBw, HS3.out⟩
                  case measure => simp [intOf]; omega
            · have hq1 : ¬ (0 : Int) < q := by omega
              clear hgo
              have LIN := Lib.hid (fun d => lin_ok_q T 0 3000 (wr.drewN d) T0 T1)
              go_wp2
              go_quiet ((go_at_call 10; exact Calls.quiet_of_same (LIN.out _)))
              go_wp2
              go_loopw [11, 13, 14] (fun v11 v13 v14 wj => ∃ j n13 c13 : Nat, ∃ A13, ∃ s' : Int, j ≤ n10 ∧ v14 = .int .i64 j ∧ v13 = .slice A13 n13 c13 ∧ v11 = .int .i64 s' ∧ 0 ≤ s' ∧ s' ≤ s + 60000 ∧ MoreInv wr wj L T j v13 n13 s s') (fun _ _ v14 _ => n10 - (intOf v14).toNat)
              case atStart => exact ⟨0, 0, 0, none, s, by omega, by go_num, rfl, rfl, by omega, by omega, by simpa using Row.nil_ _ _ _, belowN (Below.refl _ _) _, by simp [lateI_nil], by omega⟩
              case round =>
                obtain ⟨j, n13, c13, A13, s', hj, rfl, rfl, rfl, s'0, s'1, RJ, hBj, hs', hn13⟩ := hrel
                have HSJ := Lib.hid hs'
                clear hs'
                have hbj := hBj.size
                have hBw := hB.trans (hBj.mono hB.size)
                by_cases hlj : j < n10
                · obtain ⟨adl, x, rfl, HX, hcx⟩ := (hR.below hBj).at_ hlj
                  obtain ⟨adt', T', hA', HT', hcT'⟩ := (ht.below hBw).at_ hlt
                  injection hA' with hA'
                  subst hA'
                  have hTT : T' = T := by have := HT'.out; rw [HT.out] at this; injection this with this; exact this.symm
                  subst hTT
                  have HTX := Lib.hid (take_succ_of HX.out)
                  have HTL := Lib.hid (lateI_take_succ (T := T') HX.out)
                  have z2 := lateI_take_le L (j + 1) T'
                  obtain ⟨x0, x1⟩ := HLA.out x (mem_of_at HX.out)
                  by_cases hTx : T' < x
                  · have HF : Hid ((L.take (j + 1)).filter (T' < ·) = (L.take j).filter (T' < ·) ++ [x]) := Lib.hid (by rw [HTX.out, up_snoc, if_pos hTx])
                    have HS2 : Hid (s' = s + lateI (L.take (j + 1)) T') := Lib.hid (by rw [HTL.out, HSJ.out]; omega)
                    go_wp2
                    go_quiet (fail)
                    go_wp2_with (at_builtin; refine wpList_push _ rfl (.tmp 76) (.tmp 81) _ rfl _ 3 _ _ Try.underlying22 infoI rfl (by decide) _ _ _ rfl (RJ.drewN _) (.int .i64 x) rfl rfl (by omega) hbj ?_; intro v' w4 R13 g13)
                    have F13 := Lib.hid R13.form
                    go_roundw
                    case rel =>
                      obtain ⟨A', c', hv, _, _⟩ := F13.out
                      refine ⟨j + 1, n13 + 1, c', A', s', by omega, by go_num, hv, rfl, s'0, s'1, ?_, hBj.grown (grownBy_drewN g13) hbj (fun b hb => (RJ.lt b hb).1), HS2.out, by omega⟩
                      rw [HF.out, List.map_append]; exact R13
                    case measure => simp [intOf]; omega
                  · have HF : Hid ((L.take (j + 1)).filter (T' < ·) = (L.take j).filter (T' < ·)) := Lib.hid (by rw [HTX.out, up_snoc, if_neg hTx, List.append_nil])
                    have HS2 : Hid (s' + T' - x = s + lateI (L.take (j + 1)) T') := Lib.hid (by rw [HTL.out, HSJ.out]; omega)
                    have hs3 : s' + T' - x ≤ s + 60000 := by have := HS2.out; omega
                    go_wp2
                    have e7 : IntKind.i64.wrap (s' + T') = s' + T' := IntWalk.i64_in _ (by omega)
                    have e8 : IntKind.i64.wrap (s' + T' - x) = s' + T' - x := IntWalk.i64_in _ (by omega)
                    go_quiet (fail)
                    go_wp2
                    go_quiet (fail)
                    clear e7 e8
                    go_wp2
                    go_roundw
                    case rel =>
                      refine ⟨j + 1, n13, c13, A13, s' + T' - x, by omega, by go_num, rfl, rfl, by omega, hs3, ?_, belowN hBj _, HS2.out, by omega⟩
                      rw [HF.out]; exact RJ.drewN _
                    case measure => simp [intOf]; omega
                · have hjn : L.take j = L := List.take_of_length_le (by have := HLL.out; omega)
                  have HR2 : Hid (RI _ A13 n13 (anyLeft l (ts.take (q + 1)))) := Lib.hid (by rw [HNX.out.1, ← hjn]; exact Row.reads RJ)
                  have HS3 : Hid (s' + p = anySum p l (ts.take (q + 1))) := Lib.hid (by rw [HNX.out.2, HSJ.out, hjn]; omega)
                  clear hjn
                  go_wp2
                  go_roundw
                  case rel => exact ⟨q + 1, n13, c13, A13, s' + p, by omega, by omega, by go_num, rfl, by omega, rfl, by omega, by omega, HR2.out, hBw, HS3.out⟩
                  case measure => simp [intOf]; omega
          · have hq0 : 0 < q := by
              by_cases hh : 0 < q
              · exact hh
              · exact absurd (fun h => absurd h hh) hgo
            obtain ⟨adu, U, hAu, HU, hcU⟩ := (ht.below hB).at_ (show q - 1 < m by omega)
            injection hAu with hAu
            subst hAu
            have hUT : T < U := by
              by_cases hh : T < U
              · exact hh
              · refine absurd (fun _ U' hU' => ?_) hgo
                rw [HU.out] at hU'
                injection hU' with hU'
                omega
            clear hgo
            have hq1 : (0 : Int) < q := by omega
            have LIN := Lib.hid (fun d => lin_ok_q T 0 3000 (wr.drewN d) T0 T1)
            go_wp2
            have e2 : IntKind.i64.wrap ((q : Int) - 1) = ((q - 1 : Nat) : Int) := by rw [show (q : Int) - 1 = ((q - 1 : Nat) : Int) by omega]; exact IntWalk.i64_in _ (by omega)
            have e3 : q - 1 < m := by omega
            go_quiet ((go_at_call 10; exact Calls.quiet_of_same (LIN.out _)))
            clear e2 e3
            go_wp2
            go_ret
            exact ⟨rfl, belowN hB _⟩
        · have hT2 : T < 0 ∨ 3000 < T := by omega
          have LIN := Lib.hid (fun d => lin_no_q T 0 3000 (wr.drewN d) hT2)
          clear hT hT2
          go_wp2
          go_quiet ((go_at_call 10; exact Calls.quiet_of_same (LIN.out _)))
          go_wp2
          go_ret
          exact ⟨rfl, belowN hB _⟩
      · by_cases hn0 : 0 < n10
        · have g0 : (0 : Int) < n10 := by omega
          by_cases hqm : q < m
          all_goals
            have h21 : q < m → ¬ q < 40 := fun a b => hlt ⟨a, b⟩
            try have h21' := h21 hqm
            clear h21
            go_wp2
            go_ret
            exact ⟨rfl, hB⟩
        · obtain rfl : n10 = 0 := by omega
          have hL0 : anyLeft l (ts.take q) = [] := List.eq_nil_of_length_eq_zero hR.len
          obtain ⟨cc, c1, c2⟩ := any_part (p := p) (by omega) (ts.take q) l HG.out.2 hL0
          have hks := HK.out cc c1
          have hge : k ≤ s := by have := HS.out; omega
          clear hks c2 hL0
          by_cases hqm : q < m
          all_goals
            have h21 : q < m → ¬ q < 40 := fun a b => hlt ⟨a, b⟩
            try have h21' := h21 hqm
            clear h21
            go_wp2
            go_ret
            exact ⟨rfl, hB⟩
  · have HG := Lib.hid hg
    clear hg
    go_enter Try.func4, Try.ntmps4
    go_wp2_with fail
    refine (ackFact_ok _).mono ?_; rintro e w0 ⟨rfl, hB0⟩
    have h0 := h.below hB0
    go_wp2_with fail
    refine (aleast_no _ _ _ _ _ _ h0 hn HG.out).mono ?_; rintro e w1 ⟨rfl, d1, rfl⟩
    go_wp2
    go_ret
    exact ⟨rfl, belowN hB0 d1⟩
end Go.Proofs.Ytckjbcdkmbaejaa
