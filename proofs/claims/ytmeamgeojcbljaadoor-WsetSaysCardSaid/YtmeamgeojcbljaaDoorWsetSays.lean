/- The walk of the law WsetSays: it returns true, for every input. -/
import Derived.Test.YtmeamgeojcbljaaDoorDoor
import Derived.Test.YtmeamgeojcbljaaDoorRefLast
import Derived.Test.YtmeamgeojcbljaaDoorWset
import Derived.Deep.RegionWith
namespace Go.Proofs.YtmeamgeojcbljaaDoor
open Go.ChangeShapes Go.WideShapes Go.ChangeAt Go.RowKit

theorem linW_ok (n lo hi : Int) (w : World) (h1 : lo ≤ n) (h2 : n ≤ hi) :
    Calls Tryd.prog 17 #[.int .i64 n, .int .i64 lo, .int .i64 hi] w fun e w' => e = .returned (.bool true) ∧ w = w' := by
  go_enter Tryd.func17, Tryd.ntmps17
  go_wp2
  go_ret
  exact ⟨rfl, rfl⟩
theorem linW_no (n lo hi : Int) (w : World) (h : n < lo ∨ hi < n) :
    Calls Tryd.prog 17 #[.int .i64 n, .int .i64 lo, .int .i64 hi] w fun e w' => e = .returned (.bool false) ∧ w = w' := by
  by_cases h1 : lo ≤ n
  · have h2 : ¬ n ≤ hi := by omega
    clear h
    go_enter Tryd.func17, Tryd.ntmps17
    go_wp2
    go_ret
    exact ⟨rfl, rfl⟩
  · clear h
    go_enter Tryd.func17, Tryd.ntmps17
    go_wp2
    go_ret
    exact ⟨rfl, rfl⟩

set_option maxRecDepth 100000 in
set_option maxHeartbeats 2000000 in
theorem law_WsetSays (A : Option Addr) (n c : Nat) (l : List Int) (v : Int) (w : World) (hh : HErr w) (h : RI w A n l) (hnc : n ≤ c) (hn : n ≤ 9223372036854775807) :
    Calls Tryd.prog 4 #[.slice A n c, .int .i64 v] w fun e w' => e = .returned (.bool true) ∧ Below w.heap.size w w' := by
  by_cases hg : GoodW l v
  · obtain ⟨u, rfl⟩ : ∃ u : Nat, v = u := ⟨v.toNat, by have := hg.2.1; omega⟩
    have HL := Lib.hid h.len
    have HG := Lib.hid hg
    have hn4 : n ≤ 40 := by have := HL.out; have := hg.1.1; omega
    have hv1 : 1 ≤ u := by have := hg.2.1; omega
    have hv2 : u ≤ 40 := by have := hg.2.2; omega
    have HIN : Hid (AllIn l 0 15) := Lib.hid hg.1.2.1
    have i1 : (1 : Int) ≤ u := by omega
    have i2 : (u : Int) ≤ 40 := by omega
    clear hn hg
    go_enter Tryd.func4, Tryd.ntmps4
    go_wp2_with fail
    refine (pages_ok _ _ _ _ _ _ h HG.out.1).mono ?_; rintro e w' ⟨rfl, rfl⟩
    go_wp2_with fail
    refine (linW_ok _ _ _ _ i1 i2).mono ?_; rintro e w' ⟨rfl, rfl⟩
    go_wp2_with fail
    refine (wcheck_ok _ _ _ _ _ _ h HG.out).mono ?_; rintro e w' ⟨rfl, rfl⟩
    go_wp2_with fail
    refine (err_nil _).mono ?_; rintro e w' ⟨rfl, rfl⟩
    go_wp2
    go_loopw [7, 8, 9, 10] (fun v7 v8 v9 i wr => ∃ k q t : Nat, k ≤ n ∧ i = .int .i64 k ∧ v8 = .int .i64 (q : Nat) ∧ v9 = .int .i64 (t : Nat) ∧ q ≤ 40 ∧ t ≤ 1600 ∧ Hid (q = missW l u k ∧ t = sumW l u k) ∧ Row wr w.heap.size 3 v7 k ((setsL l u k).map (Value.int .i64)) ∧ Below w.heap.size w wr) (fun _ _ _ i _ => n - (intOf i).toNat)
    case atStart => exact ⟨0, 0, 0, by omega, by go_num, rfl, rfl, by omega, by omega, Lib.hid ⟨rfl, rfl⟩, Row.nil_ _ _ _, Below.refl _ _⟩
    case round =>
      obtain ⟨k, q, t, hk, rfl, rfl, rfl, hq, ht, HQ, R7, hB⟩ := hrel
      have hbs := hB.size
      by_cases hlt : k < n
      · obtain ⟨ad, y, rfl, HY, hc⟩ := (h.below hB).at_ hlt
        have HS := Lib.hid (setsL_succ l u k)
        have HD : Hid (∀ j, AllIn (lastD l j u) 0 15) := Lib.hid (fun j => lastD_in HIN.out j u)
        have HPW := Lib.hid (lastD_pow HIN.out (k + 1) u)
        have HLN := Lib.hid (lastD_len l (k + 1) u)
        have HSU : Hid (sumW l u (k + 1) = sumW l u k + someN (lastW (l.take (k + 1)) u)) := Lib.hid rfl
        have HM : Hid (missW l u (k + 1) = missW l u k + if hasB (lastD l k u) y then 0 else 1) := Lib.hid (by
          show missW l u k + (if hasB (lastW (l.take k) u) (l.getD k 0) then 0 else 1) = _
          rw [show l.getD k 0 = y by rw [List.getD_eq_getElem?_getD, HY.out]; rfl, lastD_has])
        have hle1 : missW l u (k + 1) ≤ 40 := by have := missW_le l u (k + 1); omega
        have hle2 : sumW l u (k + 1) ≤ 1600 := by
          have h1 := sumW_le l u (k + 1)
          have h2 : (k + 1) * l.length ≤ 40 * 40 := Nat.mul_le_mul (by omega) (by rw [HL.out]; exact hn4)
          omega
        have hm : mask (lastW (l.take (k + 1)) u) < 65536 := mask_lt _ (fun x hx => HIN.out x (List.mem_of_mem_take (lastW_mem hx)))
        have HLAST : Hid (∀ (V : World) (j : Nat) (z : Int), j ≤ n → z = (j : Int) → RI V (some ad) n l → Calls Tryd.prog 19 #[.slice (some ad) n c, .int .i64 z, .int .i64 (u : Int)] V fun e w' =>
            ∃ A1 m c1, e = .returned (.slice A1 m c1) ∧ Row w' V.heap.size 3 (.slice A1 m c1) m ((lastD l j u).map (Value.int .i64)) ∧ m ≤ 40 ∧ Below V.heap.size V w') := Lib.hid (fun V j z hj hz hV => by rw [hz]; exact last_ok (some ad) n c l j u V hV hn4 hj hv1 hv2)
        go_wp2_with fail
        refine (HLAST.out _ (k + 1) _ (by omega) (by omega) (h.below hB)).mono ?_; rintro e w1 ⟨A1, m1, c1, rfl, R1, hm1, hB1⟩
        have HM1 : Hid (m1 = someN (lastW (l.take (k + 1)) u)) := Lib.hid (by have := R1.len; rw [List.length_map, HLN.out] at this; exact this.symm)
        have hle3 : t + m1 ≤ 1600 := by have h1 := HSU.out; have h2 := HQ.out.2; have h3 := HM1.out; omega
        clear hle2
        go_wp2_with fail
        refine (rset_q _ _ _ _ _ (Row.reads R1) hm1 (HD.out _)).mono ?_; rintro e w' ⟨rfl, rfl⟩
        rw [HPW.out]
        generalize mask (lastW (l.take (k + 1)) u) = m at *
        have R71 := R7.below hB1
        have hB01 := hB.trans (hB1.mono hbs)
        have hbs1 := hB01.size
        clear R7 R1 hB1 hc hB
        go_wp2_with (at_builtin; refine wpList_push _ rfl (.tmp 46) (.tmp 49) _ rfl w.heap.size 3 _ _ Tryd.underlying22 infoI rfl (by decide) _ _ _ rfl R71 (.int .i64 (m : Nat)) rfl rfl (by omega) hbs1 ?_; intro v' w2 R7' g7)
        have hB2 : Below w.heap.size w w2 := hB01.grown g7 hbs1 (fun b hb => (R71.lt b hb).1)
        have RI2 := Lib.hid (h.below hB2)
        have hc2 : w2.cell? (ad.add k) = some (.int .i64 y) := by
          obtain ⟨ad', y', e1, e2, e3⟩ := (h.below hB2).at_ hlt
          cases e1; rw [HY.out] at e2; cases e2.out; exact e3
        clear g7 R71
        cases hb : hasB (lastD l k u) y
        · rw [hb] at HM
          have HHB := Lib.hid hb
          clear hb
          go_region_with (first
            | (go_at_call 19; refine (HLAST.out w2.drew k _ (by omega) rfl RI2.out).mono ?_; rintro e w3 ⟨A3, m3, c3, rfl, R3, hm3, hB3⟩; have hc3 : w3.cell? (ad.add k) = some (.int .i64 y) := ((hB3.cell (cell_lt (w := w2.drew) hc2)).trans hc2))
            | (go_at_call 21; refine (has_any _ _ _ _ _ _ (Row.reads R3) (by omega)).mono ?_; rintro e w' ⟨rfl, rfl⟩; rw [HHB.out]))
          all_goals
            go_wp2
            go_roundw
            case rel =>
              refine ⟨k + 1, q + 1, t + m1, by omega, by go_num, by go_num, by go_num, by have h1 := HM.out; have h2 := HQ.out.1; simp at h1; omega, hle3, Lib.hid ⟨by have h1 := HM.out; have h2 := HQ.out.1; simp at h1; omega, by have h1 := HSU.out; have h2 := HQ.out.2; have h3 := HM1.out; omega⟩, ?_, (show Below w.heap.size w w2.drew from belowN hB2 1).trans (hB3.mono hB2.size)⟩
              rw [HS.out, List.map_append]; exact Row.below (w := w2.drew) R7' hB3
            case measure => simp [intOf]; omega
        · rw [hb] at HM
          have HHB := Lib.hid hb
          clear hb
          go_region_with (first
            | (go_at_call 19; refine (HLAST.out w2.drew k _ (by omega) rfl RI2.out).mono ?_; rintro e w3 ⟨A3, m3, c3, rfl, R3, hm3, hB3⟩; have hc3 : w3.cell? (ad.add k) = some (.int .i64 y) := ((hB3.cell (cell_lt (w := w2.drew) hc2)).trans hc2))
            | (go_at_call 21; refine (has_any _ _ _ _ _ _ (Row.reads R3) (by omega)).mono ?_; rintro e w' ⟨rfl, rfl⟩; rw [HHB.out]))
          all_goals
            go_wp2
            go_roundw
            case rel =>
              refine ⟨k + 1, q, t + m1, by omega, by go_num, by go_num, by go_num, by omega, hle3, Lib.hid ⟨by have h1 := HM.out; have h2 := HQ.out.1; simp at h1; omega, by have h1 := HSU.out; have h2 := HQ.out.2; have h3 := HM1.out; omega⟩, ?_, (show Below w.heap.size w w2.drew from belowN hB2 1).trans (hB3.mono hB2.size)⟩
              rw [HS.out, List.map_append]; exact Row.below (w := w2.drew) R7' hB3
            case measure => simp [intOf]; omega
      · have HE := Lib.hid (show k = n by omega)
        have e2 := HE.out
        subst e2
        obtain ⟨A7, c7, rfl, _, _⟩ := R7.form
        have RI7 := Lib.hid (Row.reads R7)
        have RI1 := Lib.hid (h.below hB)
        go_wp2_with fail
        refine (sets_ok _ _ _ _ _ _ RI1.out hnc HG.out).mono ?_; rintro e w2 ⟨A2, c2, rfl, R2, hB2⟩
        rw [Int.toNat_natCast] at R2
        have RI2 := Lib.hid (Row.reads R2)
        have RI72 := Lib.hid (RI7.out.below hB2)
        have RI12 := Lib.hid (RI1.out.below hB2)
        have hB02 := hB.trans (hB2.mono hbs)
        have HE2 : Hid (eqI (setsL l u k) (setsL l u k) = true) := by simp [Hid, eqI]
        go_wp2_with fail
        refine (err_nil _).mono ?_; rintro e w' ⟨rfl, rfl⟩
        go_wp2_with fail
        refine (ints_any _ _ _ _ _ _ _ _ _ RI2.out RI72.out (by omega) (by omega)).mono ?_; rintro e w' ⟨rfl, d, rfl⟩
        rw [HE2.out]
        go_wp2_with fail
        refine (miss_ok _ _ _ _ _ _ (RI12.out.drewN _) hnc HG.out).mono ?_; rintro e w' ⟨rfl, rfl⟩
        rw [Int.toNat_natCast, ← HQ.out.1, ← HQ.out.2]
        go_wp2_with fail
        refine (err_nil _).mono ?_; rintro e w' ⟨rfl, rfl⟩
        go_wp2
        go_ret
        exact ⟨rfl, by simpa using belowN hB02 d⟩
  · have HW := Lib.hid hg
    have HEQ : Hid (eqI [] [] = true) := by simp [Hid, eqI]
    by_cases h1 : GoodReqs l 1
    · have hv : v < 1 ∨ 40 < v := by
        by_cases a : 1 ≤ v
        · by_cases b : v ≤ 40
          · exact absurd ⟨h1, a, b⟩ hg
          · omega
        · omega
      have HER := Lib.hid (show wsetE l = 1 by unfold wsetE; rw [if_pos h1])
      have HG := Lib.hid h1
      have HV := Lib.hid hv
      clear h1 hg hv
      go_enter Tryd.func4, Tryd.ntmps4
      go_wp2_with fail
      refine (pages_ok _ _ _ _ _ _ h HG.out).mono ?_; rintro e w' ⟨rfl, rfl⟩
      go_wp2_with fail
      refine (linW_no _ _ _ _ HV.out).mono ?_; rintro e w' ⟨rfl, rfl⟩
      go_wp2_with fail
      refine (wcheck_no _ _ _ _ _ _ h hn HW.out).mono ?_; rintro e w' ⟨rfl, rfl⟩
      rw [HER.out]
      go_wp2_with fail
      refine (err_errno 1 _ hh).mono ?_; rintro e w1 ⟨rfl, hB1⟩
      go_wp2
      go_loopw [7, 8, 9, 10] (fun v7 v8 v9 i wr => i = .int .i64 0 ∧ v8 = .int .i64 0 ∧ v9 = .int .i64 0 ∧ v7 = .slice none 0 0 ∧ wr = w1) (fun _ _ _ _ _ => 0)
      case atStart => exact ⟨rfl, rfl, rfl, rfl, rfl⟩
      case round =>
        obtain ⟨rfl, rfl, rfl, rfl, rfl⟩ := hrel
        by_cases hz : (0 : Int) < (n : Int)
        all_goals
          go_wp2_with fail
          refine (sets_no _ _ _ _ _ _ (h.below hB1) hn HW.out).mono ?_; rintro e w' ⟨rfl, rfl⟩
          rw [HER.out]
          go_wp2_with fail
          refine (err_errno 1 _ (hh.below hB1)).mono ?_; rintro e w2 ⟨rfl, hB2⟩
          go_wp2_with fail
          refine (ints_any _ _ _ _ _ _ _ _ _ RI.nil_ RI.nil_ (by omega) (by omega)).mono ?_; rintro e w' ⟨rfl, d, rfl⟩
          rw [HEQ.out]
          go_wp2_with fail
          refine (miss_no _ _ _ _ _ _ (((h.below hB1).below hB2).drewN _) hn HW.out).mono ?_; rintro e w' ⟨rfl, rfl⟩
          rw [HER.out]
          go_wp2_with fail
          refine (err_errno 1 _ (((hh.below hB1).below hB2).drewN _)).mono ?_; rintro e w3 ⟨rfl, hB3⟩
          go_wp2
          go_ret
          exact ⟨rfl, by have X := belowN (hB1.trans (hB2.mono hB1.size)) d; exact X.trans (hB3.mono X.size)⟩
    · have HER := Lib.hid (show wsetE l = reqsE l 1 by unfold wsetE; rw [if_neg h1])
      have HG := Lib.hid h1
      have hne := reqsE_ne l 1 h1
      clear h1 hg
      go_enter Tryd.func4, Tryd.ntmps4
      go_wp2_with fail
      refine (pages_no _ _ _ _ _ _ h hn HG.out).mono ?_; rintro e w' ⟨rfl, rfl⟩
      generalize reqsE l 1 = er at *
      go_wp2_with fail
      refine (wcheck_no _ _ _ _ _ _ h hn HW.out).mono ?_; rintro e w' ⟨rfl, rfl⟩
      rw [HER.out]
      go_wp2_with fail
      refine (err_errno er _ hh).mono ?_; rintro e w1 ⟨rfl, hB1⟩
      go_wp2
      go_loopw [7, 8, 9, 10] (fun v7 v8 v9 i wr => i = .int .i64 0 ∧ v8 = .int .i64 0 ∧ v9 = .int .i64 0 ∧ v7 = .slice none 0 0 ∧ wr = w1) (fun _ _ _ _ _ => 0)
      case atStart => exact ⟨rfl, rfl, rfl, rfl, rfl⟩
      case round =>
        obtain ⟨rfl, rfl, rfl, rfl, rfl⟩ := hrel
        by_cases hz : (0 : Int) < (n : Int)
        all_goals
          go_wp2_with fail
          refine (sets_no _ _ _ _ _ _ (h.below hB1) hn HW.out).mono ?_; rintro e w' ⟨rfl, rfl⟩
          rw [HER.out]
          go_wp2_with fail
          refine (err_errno er _ (hh.below hB1)).mono ?_; rintro e w2 ⟨rfl, hB2⟩
          go_wp2_with fail
          refine (ints_any _ _ _ _ _ _ _ _ _ RI.nil_ RI.nil_ (by omega) (by omega)).mono ?_; rintro e w' ⟨rfl, d, rfl⟩
          rw [HEQ.out]
          go_wp2_with fail
          refine (miss_no _ _ _ _ _ _ (((h.below hB1).below hB2).drewN _) hn HW.out).mono ?_; rintro e w' ⟨rfl, rfl⟩
          rw [HER.out]
          go_wp2_with fail
          refine (err_errno er _ (((hh.below hB1).below hB2).drewN _)).mono ?_; rintro e w3 ⟨rfl, hB3⟩
          go_wp2
          go_ret
          exact ⟨rfl, by have X := belowN (hB1.trans (hB2.mono hB1.size)) d; exact X.trans (hB3.mono X.size)⟩
end Go.Proofs.YtmeamgeojcbljaaDoor
