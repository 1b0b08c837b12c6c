/- The walk of the law FifoLast: it returns true, for every input. -/
import Derived.Test.YtoeoennocdpblaaFifo
import Derived.Test.YtoeoennocdpblaaSame
namespace Go.Proofs.Ytoeoennocdpblaa
open Go.ChangeShapes Go.WideShapes Go.ChangeAt Go.RowKit

set_option maxHeartbeats 400000 in
theorem anomaly_ok (w : World) : Calls Try.prog 11 #[] w fun e w' => e = .returned (.bool true) ∧ Below w.heap.size w w' := by
  go_enter Try.func11, Try.ntmps11
  go_wp2_with fail
  have h0 := RI.lit w #[.int .i64 1, .int .i64 2, .int .i64 3, .int .i64 4, .int .i64 1, .int .i64 2, .int .i64 5, .int .i64 1, .int .i64 2, .int .i64 3, .int .i64 4, .int .i64 5] 3 [1, 2, 3, 4, 1, 2, 5, 1, 2, 3, 4, 5] 12 rfl rfl
  refine (fifo_ok _ _ _ _ _ _ h0 (by simp [GoodReqs, AllIn])).mono ?_; rintro e w1 ⟨A1, c1, A2, n2, c2, rfl, R1, R2, hn2, hB1⟩
  go_wp2_with fail
  refine (fifo_ok _ _ _ _ _ _ (h0.below hB1) (by simp [GoodReqs, AllIn])).mono ?_; rintro e w2 ⟨A3, c3, A4, n4, c4, rfl, R3, R4, hn4, hB2⟩
  have R1' := R1.below hB2
  have hB := ((Below.refl w.heap.size w).alloc (Nat.le_refl _) (.cells #[.int .i64 1, .int .i64 2, .int .i64 3, .int .i64 4, .int .i64 1, .int .i64 2, .int .i64 5, .int .i64 1, .int .i64 2, .int .i64 3, .int .i64 4, .int .i64 5] 3)).trans ((hB1.mono (by simp)).trans (hB2.mono (by have := hB1.size; simp at this; omega)))
  have M1 : missN (fifoRun (Int.toNat 3) [1, 2, 3, 4, 1, 2, 5, 1, 2, 3, 4, 5]).1 = 9 := by decide
  have M2 : missN (fifoRun (Int.toNat 4) [1, 2, 3, 4, 1, 2, 5, 1, 2, 3, 4, 5]).1 = 10 := by decide
  have M1' := Lib.hid M1
  have M2' := Lib.hid M2
  clear M1 M2
  go_wp2_with fail
  refine (misses_any _ _ _ _ _ (Row.readsB R1') (by omega)).mono ?_; rintro e w' ⟨rfl, rfl⟩
  rw [M1'.out]
  go_wp2_with fail
  refine (misses_any _ _ _ _ _ (Row.readsB R3) (by omega)).mono ?_; rintro e w' ⟨rfl, rfl⟩
  rw [M2'.out]
  go_wp2
  go_ret
  exact ⟨rfl, hB⟩

def fifoCame (slots : Nat) (l : List Int) : List Int := (l.foldl (fun (st : (List Bool × List Int) × List Int) p => (fifoStep slots st.1 p, if p ∈ st.1.2 then st.2 else st.2 ++ [p])) (([], []), [])).2
theorem fifoCame_fst (slots : Nat) (l : List Int) : (l.foldl (fun (st : (List Bool × List Int) × List Int) p => (fifoStep slots st.1 p, if p ∈ st.1.2 then st.2 else st.2 ++ [p])) (([], []), [])).1 = fifoRun slots l := by
  induction l using list_snoc_ind with
  | h0 => rfl
  | h1 l y ih => rw [List.foldl_append]; simp only [List.foldl_cons, List.foldl_nil]; rw [ih]; unfold fifoRun; rw [List.foldl_append]; rfl
theorem fifoCame_snoc (slots : Nat) (l : List Int) (y : Int) : fifoCame slots (l ++ [y]) = if y ∈ (fifoRun slots l).2 then fifoCame slots l else fifoCame slots l ++ [y] := by
  have := fifoCame_fst slots l
  unfold fifoCame
  rw [List.foldl_append]; simp only [List.foldl_cons, List.foldl_nil]; rw [this]
theorem fifoRun_snoc (slots : Nat) (l : List Int) (y : Int) : fifoRun slots (l ++ [y]) = fifoStep slots (fifoRun slots l) y := by unfold fifoRun; rw [List.foldl_append]; rfl
theorem fifo_held (s : Nat) (hs : 1 ≤ s) (l : List Int) : (fifoRun s l).2 = (fifoCame s l).drop ((fifoCame s l).length - s) := by
  induction l using list_snoc_ind with
  | h0 => simp [fifoRun, fifoCame]
  | h1 l y ih =>
    rw [fifoRun_snoc, fifoCame_snoc]
    unfold fifoStep
    split
    · exact ih
    · simp only
      generalize hc : fifoCame s l = c at *
      rw [ih]
      simp only [List.length_drop, List.length_append, List.length_singleton]
      rw [List.drop_append_of_le_length (by omega)]
      congr 1
      by_cases hl : s ≤ c.length
      · rw [if_pos (by omega), List.drop_drop]; congr 1; omega
      · rw [if_neg (by omega)]; congr 1; omega
theorem fifo_hits_len (s : Nat) (l : List Int) : (fifoRun s l).1.length = l.length := by
  induction l using list_snoc_ind with
  | h0 => rfl
  | h1 l y ih => rw [fifoRun_snoc]; unfold fifoStep; split <;> simp [ih]
theorem fifo_hits_at (s : Nat) (l : List Int) : ∀ k y, l[k]? = some y → (fifoRun s l).1[k]? = some (hasB (fifoRun s (l.take k)).2 y) := by
  induction l using list_snoc_ind with
  | h0 => intro k y h; simp at h
  | h1 l z ih =>
    intro k y h
    have hst : (fifoRun s (l ++ [z])).1 = (fifoRun s l).1 ++ [hasB (fifoRun s l).2 z] := by
      rw [fifoRun_snoc]; unfold fifoStep
      by_cases hm : z ∈ (fifoRun s l).2
      · rw [if_pos hm, (hasB_iff _ _).2 hm]
      · rw [if_neg hm, (hasB_false _ _).2 hm]
    rw [hst]
    by_cases hk : k < l.length
    · rw [List.getElem?_append_left hk] at h
      rw [List.getElem?_append_left (by rw [fifo_hits_len]; exact hk), List.take_append_of_le_length (by omega)]
      exact ih k y h
    · have hk2 : k = l.length := by
        have := (List.getElem?_eq_some_iff.1 h).1
        simp at this; omega
      subst hk2
      simp at h
      subst h
      rw [List.getElem?_append_right (by rw [fifo_hits_len]; omega), fifo_hits_len]
      simp
theorem fifo_came_le (s : Nat) (l : List Int) : (fifoCame s l).length ≤ l.length := by
  induction l using list_snoc_ind with
  | h0 => simp [fifoCame]
  | h1 l y ih => rw [fifoCame_snoc]; split <;> simp <;> omega

set_option maxHeartbeats 1000000 in
theorem law_FifoLast (A : Option Addr) (n c : Nat) (l : List Int) (slots : Int) (w : World) (h : RI w A n l) (hn : n ≤ 9223372036854775807) :
    Calls Try.prog 3 #[.slice A n c, .int .i64 slots] w fun e w' => e = .returned (.bool true) ∧ Below w.heap.size w w' := by
  by_cases hg : GoodReqs l slots
  · obtain ⟨s, rfl⟩ : ∃ s : Nat, slots = s := ⟨slots.toNat, by have := hg.2.2.1; omega⟩
    have HL := Lib.hid h.len
    have HG := Lib.hid hg
    have hn4 : n ≤ 40 := by have := HL.out; have := hg.1; omega
    have hs1 : 1 ≤ s := by have := hg.2.2.1; omega
    have hs2 : s ≤ 8 := by have := hg.2.2.2; omega
    clear hg hn
    go_enter Try.func3, Try.ntmps3
    go_wp2_with fail
    refine (anomaly_ok _).mono ?_; rintro e w0 ⟨rfl, hB0⟩
    go_wp2_with fail
    refine (fifo_ok _ _ _ _ _ _ (h.below hB0) HG.out).mono ?_; rintro e w1 ⟨A1, c1, A2, n2, c2, rfl, R1, R2, hn2, hB1⟩
    rw [Int.toNat_natCast] at R1 R2
    have h1 := (h.below hB0).below hB1
    have hB01 : Below w.heap.size w w1 := hB0.trans (hB1.mono hB0.size)
    go_wp2
    go_loopw [9, 10, 11] (fun v9 i _ wr => ∃ k : Nat, ∃ A9 n9 c9, k ≤ n ∧ i = .int .i64 k ∧ v9 = .slice A9 n9 c9 ∧ n9 ≤ k ∧ Row wr w1.heap.size 3 (.slice A9 n9 c9) n9 ((fifoCame s (l.take k)).map (Value.int .i64)) ∧ Below w1.heap.size w1 wr) (fun _ i _ _ => n - (intOf i).toNat)
    case atStart => exact ⟨0, none, 0, 0, by omega, by go_num, rfl, by omega, by simpa [fifoCame] using Row.nil_ _ _ _, Below.refl _ _⟩
    case round =>
      obtain ⟨k, A9, n9, c9, hk, rfl, rfl, hn9, R9, hB⟩ := hrel
      by_cases hlt : k < n
      · obtain ⟨ad, y, rfl, HY, hc⟩ := (h1.below hB).at_ hlt
        obtain ⟨ad1, b, rfl, HB, hcb⟩ := ((Row.readsB R1).below hB).at_ hlt
        have hlc : (fifoCame s (l.take k)).length = n9 := by have := R9.len; simpa using this
        have hbs := hB.size
        have HH := Lib.hid (fifo_hits_at s l k y HY.out)
        have HHeld := Lib.hid (fifo_held s hs1 (l.take k))
        obtain ⟨A', c', hcc, hcap, _⟩ := R9.form
        have hc9 : n9 ≤ c9 := by injection hcc with _ _ h3; omega
        clear hcc
        have HLC := Lib.hid hlc
        clear hlc
        by_cases hsc : s ≤ n9
        · obtain ⟨f, rfl⟩ : ∃ f, n9 = f + s := ⟨n9 - s, by omega⟩
          have hcf : ¬ c9 = f := by omega
          have hx := RI.cut (Row.reads R9) (k := f) (cap := c9) (by omega) hc9
          rw [if_neg hcf, Nat.add_sub_cancel_left] at hx
          have HX := Lib.hid hx
          clear hx
          have hf0 : (0 : Int) ≤ f := by omega
          have hf1 : (f : Int) ≤ (f : Int) + s := by omega
          have hb2 : b = hasB ((fifoCame s (l.take k)).drop f) y := by
            have e1 := HH.out; have e2 := HB.out; have e3 := HHeld.out; have e4 := HLC.out
            rw [e1] at e2; injection e2 with e2; rw [← e2, e3, e4, Nat.add_sub_cancel]
          have HB2 := Lib.hid hb2
          clear hb2
          go_wp2
          go_quiet ((go_at_call 13; exact Calls.quiet_of_same (has_q _ _ _ _ _ _ (RI.drewN HX.out _) (by omega))))
          rw [← HB2.out]
          have hm1 := Lib.hid (fifoCame_snoc s (l.take k) y)
          have HT := Lib.hid (take_succ_of HY.out)
          cases b
          · go_wp2_with (at_builtin; refine wpList_push _ rfl (.tmp 66) (.tmp 71) _ rfl w1.heap.size 3 _ _ Try.underlying22 infoI rfl (by decide) _ _ _ rfl (R9.drewN _) (.int .i64 y) rfl rfl (by omega) hbs ?_; intro v' w2 R9' g9)
            have FV := Lib.hid R9'.form
            go_roundw
            case rel =>
              obtain ⟨A', c', hv3, _, _⟩ := FV.out
              refine ⟨k + 1, A', _, c', by omega, by go_num, hv3, by omega, ?_, (belowN hB _).grown g9 hbs (fun b hb => (R9.lt b hb).1)⟩
              rw [HT.out, hm1.out, if_neg ((hasB_false _ _).1 (by rw [HHeld.out, HLC.out]; rw [Nat.add_sub_cancel]; exact HB2.out.symm)), ← hv3]
              simpa using R9'
            case measure => simp [intOf]; omega
          · go_wp2
            go_roundw
            case rel =>
              refine ⟨k + 1, A9, _, c9, by omega, by go_num, rfl, by omega, ?_, belowN hB _⟩
              rw [HT.out, hm1.out, if_pos ((hasB_iff _ _).1 (by rw [HHeld.out, HLC.out]; rw [Nat.add_sub_cancel]; exact HB2.out.symm))]
              exact R9
            case measure => simp [intOf]; omega
        · have hlt0 : (n9 : Int) - s < 0 := by omega
          have hb2 : b = hasB (fifoCame s (l.take k)) y := by
            have e1 := HH.out; have e2 := HB.out; have e3 := HHeld.out; have e4 := HLC.out
            rw [e1] at e2; injection e2 with e2; rw [← e2, e3, e4, show n9 - s = 0 by omega, List.drop_zero]
          have HB2 := Lib.hid hb2
          clear hb2
          go_wp2
          go_quiet ((go_at_call 13; exact Calls.quiet_of_same (has_q _ _ _ _ _ _ (RI.drewN (Row.reads R9) _) (by omega))))
          rw [← HB2.out]
          have hm1 := Lib.hid (fifoCame_snoc s (l.take k) y)
          have HT := Lib.hid (take_succ_of HY.out)
          cases b
          · go_wp2_with (at_builtin; refine wpList_push _ rfl (.tmp 66) (.tmp 71) _ rfl w1.heap.size 3 _ _ Try.underlying22 infoI rfl (by decide) _ _ _ rfl (R9.drewN _) (.int .i64 y) rfl rfl (by omega) hbs ?_; intro v' w2 R9' g9)
            have FV := Lib.hid R9'.form
            go_roundw
            case rel =>
              obtain ⟨A', c', hv3, _, _⟩ := FV.out
              refine ⟨k + 1, A', _, c', by omega, by go_num, hv3, by omega, ?_, (belowN hB _).grown g9 hbs (fun b hb => (R9.lt b hb).1)⟩
              rw [HT.out, hm1.out, if_neg ((hasB_false _ _).1 (by rw [HHeld.out, HLC.out]; rw [show n9 - s = 0 by omega, List.drop_zero]; exact HB2.out.symm)), ← hv3]
              simpa using R9'
            case measure => simp [intOf]; omega
          · go_wp2
            go_roundw
            case rel =>
              refine ⟨k + 1, A9, _, c9, by omega, by go_num, rfl, by omega, ?_, belowN hB _⟩
              rw [HT.out, hm1.out, if_pos ((hasB_iff _ _).1 (by rw [HHeld.out, HLC.out]; rw [show n9 - s = 0 by omega, List.drop_zero]; exact HB2.out.symm))]
              exact R9
            case measure => simp [intOf]; omega
      · have HK := Lib.hid (show k = n by omega)
        have HTK := Lib.hid (show l.take k = l by rw [List.take_of_length_le (by have := HL.out; omega)])
        have hlc : (fifoCame s (l.take k)).length = n9 := by have := R9.len; simpa using this
        have HLC := Lib.hid hlc
        have HHeld := Lib.hid (fifo_held s hs1 (l.take k))
        clear hlc
        obtain ⟨A', c', hcc, hcap, _⟩ := R9.form
        have hc9 : n9 ≤ c9 := by injection hcc with _ _ h3; omega
        clear hcc
        have hbs := hB.size
        have hr2 := (Row.reads R2).below hB
        have hB2 : Below w.heap.size w wr := hB01.trans (hB.mono hB01.size)
        have hbs0 := hB01.size
        by_cases hsc : s ≤ n9
        · obtain ⟨f, rfl⟩ : ∃ f, n9 = f + s := ⟨n9 - s, by omega⟩
          have hcf : ¬ c9 = f := by omega
          have hx := RI.cut (Row.reads R9) (k := f) (cap := c9) (by omega) hc9
          rw [if_neg hcf, Nat.add_sub_cancel_left] at hx
          have HX := Lib.hid hx
          clear hx
          have HE : Hid (eqI (fifoRun s l).2 ((fifoCame s (l.take k)).drop f) = true) := Lib.hid (by
            have e3 := HHeld.out; rw [HLC.out, Nat.add_sub_cancel, HTK.out] at e3
            rw [HTK.out, e3]; simp [eqI])
          have hf0 : (0 : Int) ≤ f := by omega
          have hf1 : (f : Int) ≤ (f : Int) + s := by omega
          go_wp2_with fail
          refine (ints_any _ _ _ _ _ _ _ _ _ hr2 HX.out (by omega) (by omega)).mono ?_; rintro e w' ⟨rfl, d, rfl⟩
          rw [HE.out]
          go_wp2
          go_ret
          exact ⟨rfl, belowN hB2 _⟩
        · have hlt0 : (n9 : Int) - s < 0 := by omega
          have HE : Hid (eqI (fifoRun s l).2 (fifoCame s (l.take k)) = true) := Lib.hid (by
            have e3 := HHeld.out; rw [HLC.out, show n9 - s = 0 by omega, List.drop_zero, HTK.out] at e3
            rw [HTK.out, e3]; simp [eqI])
          go_wp2_with fail
          refine (ints_any _ _ _ _ _ _ _ _ _ hr2 (Row.reads R9) (by omega) (by omega)).mono ?_; rintro e w' ⟨rfl, d, rfl⟩
          rw [HE.out]
          go_wp2
          go_ret
          exact ⟨rfl, belowN hB2 _⟩
  · have HG := Lib.hid hg
    clear hg
    go_enter Try.func3, Try.ntmps3
    go_wp2_with fail
    refine (anomaly_ok _).mono ?_; rintro e w0 ⟨rfl, hB0⟩
    go_wp2_with fail
    refine (fifo_no _ _ _ _ _ _ (h.below hB0) hn HG.out).mono ?_; rintro e w1 ⟨rfl, rfl⟩
    go_wp2
    go_ret
    exact ⟨rfl, hB0⟩
end Go.Proofs.Ytoeoennocdpblaa
