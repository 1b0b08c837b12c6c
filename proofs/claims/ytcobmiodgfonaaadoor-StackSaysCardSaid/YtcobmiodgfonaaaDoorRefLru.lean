/- The walks of larderwickref1.since, .Depths and .Lru: what each returns. -/
import Derived.Test.YtcobmiodgfonaaaDoorRefFlush
import Derived.Test.YtcobmiodgfonaaaDoorLastPlain
import Derived.Test.YtcobmiodgfonaaaDoorStackPlain
namespace Go.Proofs.YtcobmiodgfonaaaDoor
open Go.ChangeShapes Go.WideShapes Go.ChangeAt Go.RowKit

theorem rev_at {l : List Int} {j i : Nat} {y : Int} (h : l[i]? = some y) (hi : i + j + 1 = l.length) : l.reverse[j]? = some y := by
  have hil : i < l.length := by omega
  rw [List.getElem?_reverse (by omega)]
  rw [show l.length - 1 - j = i by omega]; exact h
/-- How deep a page lies, by who was asked for last. -/
theorem since_found {L : List Int} {j : Nat} {y : Int} (h : y ∉ L.take j) (hy : L[j]? = some y) : ixI (dd L) y + 1 = ((dd (L.take j)).length + 1 : Nat) := by
  obtain ⟨r, hr⟩ := dd_prefix (L.take (j + 1)) (L.drop (j + 1))
  rw [List.take_append_drop, take_succ_of hy, dd_snoc, if_neg (fun hh => h ((mem_dd _ _).1 hh))] at hr
  have hm : y ∈ dd L := by rw [hr]; simp
  rw [ixI_mem hm, hr, List.append_assoc, List.idxOf_append, if_neg (fun hh => h ((mem_dd _ _).1 hh))]
  simp
theorem dd_take_le (L : List Int) (j : Nat) : (dd (L.take j)).length ≤ j := by
  have := someN_le (L.take j); unfold someN at this; rw [List.length_take] at this; omega

set_option maxHeartbeats 1000000 in
theorem since_ok (A : Option Addr) (n c : Nat) (l : List Int) (at_ : Nat) (y : Int) (w : World) (h : RI w A n l) (hn : n ≤ 40) (hat : at_ ≤ n) :
    Calls Tryd.prog 44 #[.slice A n c, .int .i64 (at_ : Int), .int .i64 y] w fun e w' => e = .returned (.int .i64 (ixI (recL (l.take at_)) y + 1)) ∧ Below w.heap.size w w' := by
  have HL := Lib.hid h.len
  have HREC : Hid (recL (l.take at_) = dd (l.take at_).reverse) := Lib.hid (recL_dd _)
  rw [HREC.out]
  have HLEN : Hid ((l.take at_).reverse.length = at_) := Lib.hid (by rw [List.length_reverse, List.length_take]; have := HL.out; omega)
  have HRAT : Hid (∀ (i j : Nat) (z : Int), l[i]? = some z → i + j + 1 = at_ → (l.take at_).reverse[j]? = some z) := Lib.hid (fun i j z hz hij => rev_at (i := i) (by rw [List.getElem?_take, if_pos (by omega)]; exact hz) (by rw [List.length_take]; have := HL.out; omega))
  generalize (l.take at_).reverse = L at *
  go_enter Tryd.func44, Tryd.ntmps44
  go_wp2
  go_loopw [7, 8] (fun v7 i wr => ∃ j r n7 c7 : Nat, ∃ A7, r + j = at_ ∧ i = .int .i64 ((r : Int) - 1) ∧ v7 = .slice A7 n7 c7 ∧ n7 ≤ j ∧ Row wr w.heap.size 3 (.slice A7 n7 c7) n7 ((dd (L.take j)).map (Value.int .i64)) ∧ Hid (y ∉ L.take j) ∧ Below w.heap.size w wr) (fun _ i _ => (intOf i + 1).toNat)
  case atStart => exact ⟨0, at_, 0, 0, none, by omega, by go_num, rfl, by omega, by simpa [dd] using Row.nil_ _ _ _, by simp [Hid], Below.refl _ _⟩
  case round =>
    obtain ⟨j, r, n7, c7, A7, hrj, rfl, rfl, hn7, R7, HY, hB⟩ := hrel
    rcases r with _ | r
    · have HE : Hid (ixI (dd L) y + 1 = 0) := Lib.hid (by
        have h1 := HY.out
        rw [List.take_of_length_le (by have := HLEN.out; omega)] at h1
        rw [ixI_not (fun hh => h1 ((mem_dd _ _).1 hh))]; rfl)
      go_wp2
      go_ret
      rw [HE.out]
      exact ⟨rfl, hB⟩
    · have e1 : (((r + 1 : Nat) : Int) - 1) = r := by omega
      rw [e1]
      clear e1
      have hbs := hB.size
      obtain ⟨ad, z, rfl, HZ, hc⟩ := (h.below hB).at_ (show r < n by omega)
      have hrr : (0 : Int) ≤ r := by omega
      have HA := Lib.hid (HRAT.out r j z HZ.out (by omega))
      have hl7 : (dd (L.take j)).length = n7 := by have := R7.len; simpa using this
      by_cases hm : z ∈ dd (L.take j)
      · have HB := Lib.hid ((hasB_iff _ _).2 hm)
        have hne : ¬ z = y := fun e => HY.out ((mem_dd _ _).1 (e ▸ hm))
        have HD : Hid (dd (L.take (j + 1)) = dd (L.take j)) := Lib.hid (by rw [take_succ_of HA.out, dd_snoc, if_pos hm])
        have HY' := Lib.hid (not_mem_take_succ HY.out HA.out hne)
        have hzy : (z == y) = false := by simp [hne]
        clear hm hl7
        go_wp2_with fail
        refine (has_any _ _ _ _ _ _ (Row.reads R7) (by omega)).mono ?_; rintro e w' ⟨rfl, rfl⟩
        rw [HB.out]
        go_wp2
        go_roundw
        case rel => exact ⟨j + 1, r, n7, c7, A7, by omega, by go_num, rfl, by omega, by rw [HD.out]; exact R7, HY', hB⟩
        case measure => simp [intOf] <;> omega
      · have HB := Lib.hid ((hasB_false _ _).2 hm)
        have HD : Hid (dd (L.take (j + 1)) = dd (L.take j) ++ [z]) := Lib.hid (by rw [take_succ_of HA.out, dd_snoc, if_neg hm])
        clear hm
        by_cases he : z = y
        · subst he
          have HE : Hid (ixI (dd L) z + 1 = ((n7 + 1 : Nat) : Int)) := Lib.hid (by rw [since_found HY.out HA.out, hl7])
          clear hl7
          go_wp2_with fail
          refine (has_any _ _ _ _ _ _ (Row.reads R7) (by omega)).mono ?_; rintro e w' ⟨rfl, rfl⟩
          rw [HB.out]
          go_wp2_with (at_builtin; refine wpList_push _ rfl (.tmp 22) (.tmp 27) _ rfl w.heap.size 3 _ _ Tryd.underlying22 infoI rfl (by decide) _ _ _ rfl R7 (.int .i64 z) rfl rfl (by omega) hbs ?_; intro v' w1 R7' g7; have hB1 := hB.grown g7 hbs (fun b hb => (R7.lt b hb).1); have hc1 := RI.cellAt (h.below hB1) HZ.out; obtain ⟨A', c', hv, _, _⟩ := R7'.form; subst hv)
          go_ret
          rw [HE.out]
          exact ⟨by simp, hB1⟩
        · have HY' := Lib.hid (not_mem_take_succ HY.out HA.out he)
          have hzy : (z == y) = false := by simp [he]
          clear hl7
          go_wp2_with fail
          refine (has_any _ _ _ _ _ _ (Row.reads R7) (by omega)).mono ?_; rintro e w' ⟨rfl, rfl⟩
          rw [HB.out]
          go_wp2_with (at_builtin; refine wpList_push _ rfl (.tmp 22) (.tmp 27) _ rfl w.heap.size 3 _ _ Tryd.underlying22 infoI rfl (by decide) _ _ _ rfl R7 (.int .i64 z) rfl rfl (by omega) hbs ?_; intro v' w1 R7' g7; have hB1 := hB.grown g7 hbs (fun b hb => (R7.lt b hb).1); have hc1 := RI.cellAt (h.below hB1) HZ.out)
          have F7 := Lib.hid R7'.form
          go_roundw
          case rel =>
            obtain ⟨A', c', hv, _, _⟩ := F7.out
            refine ⟨j + 1, r, n7 + 1, c', A', by omega, by go_num, hv, by omega, ?_, HY', hB1⟩
            rw [HD.out, ← hv, List.map_append]; exact R7'
          case measure => simp [intOf] <;> omega

theorem depth_fst_succ (l : List Int) (k : Nat) (y : Int) (h : l[k]? = some y) : (depthRun (l.take (k + 1))).1 = (depthRun (l.take k)).1 ++ [ixI (recL (l.take k)) y + 1] := by
  rw [take_succ_of h, depthRun_snoc, depthStep, depth_pile]

set_option maxHeartbeats 1000000 in
theorem rdepths_ok (A : Option Addr) (n c : Nat) (l : List Int) (w : World) (h : RI w A n l) (hn : n ≤ 40) :
    Calls Tryd.prog 25 #[.slice A n c] w fun e w' => ∃ A1 c1, e = .returned (.slice A1 n c1) ∧ RI w' A1 n (depthRun l).1 ∧ Below w.heap.size w w' := by
  have HL := Lib.hid h.len
  go_enter Tryd.func25, Tryd.ntmps25
  go_wp2
  go_loopw [3, 4] (fun v3 i wr => ∃ k : Nat, k ≤ n ∧ i = .int .i64 k ∧ Row wr w.heap.size 3 v3 k ((depthRun (l.take k)).1.map (Value.int .i64)) ∧ Below w.heap.size w wr) (fun _ i _ => n - (intOf i).toNat)
  case atStart => exact ⟨0, by omega, by go_num, by simpa [depthRun] using Row.nil_ _ _ _, Below.refl _ _⟩
  case round =>
    obtain ⟨k, hk, rfl, R3, hB⟩ := hrel
    have hbs := hB.size
    by_cases hlt : k < n
    · obtain ⟨ad, y, rfl, HY, hc⟩ := (h.below hB).at_ hlt
      have HD := Lib.hid (depth_fst_succ l k y HY.out)
      go_wp2_with fail
      refine (since_ok _ _ _ _ k y _ (h.below hB) hn hk).mono ?_; rintro e w1 ⟨rfl, hB1⟩
      generalize ixI (recL (l.take k)) y + 1 = d at *
      have R3' := R3.below hB1
      have hB2 := hB.trans (hB1.mono hbs)
      have hb2 := hB2.size
      go_wp2_with (at_builtin; refine wpList_push _ rfl (.tmp 11) (.tmp 19) _ rfl w.heap.size 3 _ _ Tryd.underlying22 infoI rfl (by decide) _ _ _ rfl R3' (.int .i64 d) rfl rfl (by omega) hb2 ?_; intro v' w2 R3'' g3)
      go_roundw
      case rel => exact ⟨k + 1, by omega, by go_num, by rw [HD.out, List.map_append]; exact R3'', hB2.grown g3 hb2 (fun b hb => (R3'.lt b hb).1)⟩
      case measure => simp [intOf]; omega
    · have HE := Lib.hid (show k = n by omega)
      have F3 := Lib.hid R3.form
      have HT : Hid (l.take k = l) := Lib.hid (List.take_of_length_le (by have := HL.out; omega))
      go_wp2
      go_ret
      obtain ⟨A1, c1, hv, _, _⟩ := F3.out
      rw [hv] at R3
      refine ⟨A1, c1, by rw [hv, HE.out]; rfl, ?_, hB⟩
      rw [← HE.out]
      have := Row.reads R3
      rwa [HT.out] at this

theorem lru_fst_succ (s : Nat) (l : List Int) (k : Nat) (y : Int) (h : l[k]? = some y) : (lruRun (s + 1) (l.take (k + 1))).1 = (lruRun (s + 1) (l.take k)).1 ++ [hasB ((recL (l.take k)).take (s + 1)) y] := by
  have e := lru_snd s (l.take k)
  rw [take_succ_of h]
  have e2 : lruRun (s + 1) (l.take k ++ [y]) = lruStep (s + 1) (lruRun (s + 1) (l.take k)) y := by unfold lruRun; rw [List.foldl_append]; rfl
  rw [e2, lruStep, e]
  by_cases hm : y ∈ (recL (l.take k)).take (s + 1)
  · rw [if_pos hm, (hasB_iff _ _).2 hm]
  · rw [if_neg hm, (hasB_false _ _).2 hm]
theorem mem_take_ix {L : List Int} (y : Int) (s : Nat) : hasB (L.take s) y = decide (0 < ixI L y + 1 ∧ ixI L y + 1 ≤ (s : Int)) := by
  have key : y ∈ L.take s ↔ y ∈ L ∧ L.idxOf y < s := by
    induction L generalizing s with
    | nil => simp
    | cons x L ih =>
      cases s with
      | zero => simp
      | succ s =>
        rw [List.take_succ_cons, List.mem_cons, List.mem_cons, ih, List.idxOf_cons]
        by_cases h : y = x
        · subst h; simp
        · have h' : (x == y) = false := by simp; exact fun e => h e.symm
          simp only [h', h, false_or, cond_false]
          constructor
          · rintro ⟨a, b⟩; exact ⟨a, by omega⟩
          · rintro ⟨a, b⟩; exact ⟨a, by omega⟩
  by_cases hm : y ∈ L
  · rw [ixI_mem hm]
    by_cases hs : L.idxOf y < s
    · rw [(hasB_iff _ _).2 (key.2 ⟨hm, hs⟩)]; symm; simp; omega
    · rw [(hasB_false _ _).2 (fun hh => hs (key.1 hh).2)]; symm; simp; omega
  · rw [ixI_not hm, (hasB_false _ _).2 (fun hh => hm (key.1 hh).1)]; symm; simp

theorem lru_snd' (t : Nat) (ht : 1 ≤ t) (l : List Int) : (lruRun t l).2 = (recL l).take t := by
  obtain ⟨s, rfl⟩ : ∃ s, t = s + 1 := ⟨t - 1, by omega⟩
  exact lru_snd s l
theorem lru_fst_succ' (t : Nat) (ht : 1 ≤ t) (l : List Int) (k : Nat) (y : Int) (h : l[k]? = some y) : (lruRun t (l.take (k + 1))).1 = (lruRun t (l.take k)).1 ++ [hasB ((recL (l.take k)).take t) y] := by
  obtain ⟨s, rfl⟩ : ∃ s, t = s + 1 := ⟨t - 1, by omega⟩
  exact lru_fst_succ s l k y h

set_option maxRecDepth 100000 in
set_option maxHeartbeats 4000000 in
theorem rlru_ok (A : Option Addr) (n c : Nat) (l : List Int) (t : Nat) (w : World) (h : RI w A n l) (hn : n ≤ 40) (hs1 : 1 ≤ t) (hs2 : t ≤ 8) :
    Calls Tryd.prog 23 #[.slice A n c, .int .i64 (t : Int)] w fun e w' => ReadRes w w' e n (lruRun t l).1 (lruRun t l).2 := by
  have HL := Lib.hid h.len
  have HREC : Hid (recL l = dd l.reverse) := Lib.hid (recL_dd _)
  have HRL : Hid (l.reverse.length = n) := Lib.hid (by rw [List.length_reverse]; exact HL.out)
  have HRAT : Hid (∀ (i j : Nat) (z : Int), l[i]? = some z → i + j + 1 = n → l.reverse[j]? = some z) := Lib.hid (fun i j z hz hij => rev_at (i := i) hz (by rw [HL.out]; exact hij))
  have HSND := Lib.hid (lru_snd' t hs1 l)
  go_enter Tryd.func23, Tryd.ntmps23
  go_wp2
  go_loopw [6, 7, 8] (fun v6 i _ wr => ∃ k : Nat, k ≤ n ∧ i = .int .i64 k ∧ Row wr w.heap.size 4 v6 k ((lruRun t (l.take k)).1.map Value.bool) ∧ Below w.heap.size w wr) (fun _ i _ _ => n - (intOf i).toNat)
  case atStart => exact ⟨0, by omega, by go_num, by simpa [lruRun] using Row.nil_ _ _ _, Below.refl _ _⟩
  case round =>
    obtain ⟨k, hk, rfl, R6, hB⟩ := hrel
    have hbs := hB.size
    by_cases hlt : k < n
    · obtain ⟨ad, y, rfl, HY, hc⟩ := (h.below hB).at_ hlt
      have HF := Lib.hid (lru_fst_succ' t hs1 l k y HY.out)
      have HIX := Lib.hid (mem_take_ix (L := recL (l.take k)) y t)
      have hbd : ixI (recL (l.take k)) y + 1 ≤ 41 ∧ 0 ≤ ixI (recL (l.take k)) y + 1 := by
        have h1 := ixI_bd (recL (l.take k)) y
        have h2 := recL_le (l.take k)
        rw [List.length_take] at h2
        omega
      obtain ⟨hd1, hd2⟩ := hbd
      go_wp2_with fail
      refine (since_ok _ _ _ _ k y _ (h.below hB) hn hk).mono ?_; rintro e w1 ⟨rfl, hB1⟩
      generalize ixI (recL (l.take k)) y + 1 = d at *
      have R6' := R6.below hB1
      have hB2 := hB.trans (hB1.mono hbs)
      have hb2 := hB2.size
      by_cases h0 : 0 < d
      · by_cases h1 : d ≤ (t : Int)
        · have HT : Hid (hasB ((recL (l.take k)).take t) y = true) := Lib.hid (HIX.out.trans (decide_eq_true ⟨h0, h1⟩))
          have h1' : d ≤ (t : Int) := by omega
          rw [HT.out] at HF
          go_wp2_with (at_builtin; refine wpList_push _ rfl (.tmp 24) (.tmp 32) _ rfl w.heap.size 4 _ _ Tryd.underlying24 infoB rfl (by decide) _ _ _ rfl R6' (.bool true) rfl rfl (by omega) hb2 ?_; intro v' w2 R6'' g6)
          go_roundw
          case rel => exact ⟨k + 1, by omega, by go_num, by rw [HF.out, List.map_append]; exact R6'', hB2.grown g6 hb2 (fun b hb => (R6'.lt b hb).1)⟩
          case measure => simp [intOf]; omega
        · have HT : Hid (hasB ((recL (l.take k)).take t) y = false) := Lib.hid (HIX.out.trans (decide_eq_false (fun hh => h1 hh.2)))
          have h1' : ¬ d ≤ (t : Int) := by omega
          have h1d : decide (d ≤ (t : Int)) = false := decide_eq_false h1'
          rw [HT.out] at HF
          go_wp2_with (at_builtin; refine wpList_push _ rfl (.tmp 24) (.tmp 32) _ rfl w.heap.size 4 _ _ Tryd.underlying24 infoB rfl (by decide) _ _ _ rfl R6' (.bool false) rfl rfl (by omega) hb2 ?_; intro v' w2 R6'' g6)
          go_roundw
          case rel => exact ⟨k + 1, by omega, by go_num, by rw [HF.out, List.map_append]; exact R6'', hB2.grown g6 hb2 (fun b hb => (R6'.lt b hb).1)⟩
          case measure => simp [intOf]; omega
      · have HT : Hid (hasB ((recL (l.take k)).take t) y = false) := Lib.hid (HIX.out.trans (decide_eq_false (fun hh => h0 hh.1)))
        rw [HT.out] at HF
        go_wp2_with (at_builtin; refine wpList_push _ rfl (.tmp 24) (.tmp 32) _ rfl w.heap.size 4 _ _ Tryd.underlying24 infoB rfl (by decide) _ _ _ rfl R6' (.bool false) rfl rfl (by omega) hb2 ?_; intro v' w2 R6'' g6)
        go_roundw
        case rel => exact ⟨k + 1, by omega, by go_num, by rw [HF.out, List.map_append]; exact R6'', hB2.grown g6 hb2 (fun b hb => (R6'.lt b hb).1)⟩
        case measure => simp [intOf]; omega
    · have hkn : k = n := by omega
      subst hkn
      have HT : Hid (l.take k = l) := Lib.hid (List.take_of_length_le (by have := HL.out; omega))
      rw [HT.out] at R6
      have hR : Hid (∀ w', Below w.heap.size w w' → ∀ v6, Row w' w.heap.size 4 v6 k ((lruRun t l).1.map Value.bool) → ∃ A1 c1, v6 = .slice A1 k c1 ∧ RB w' A1 k (lruRun t l).1) := Lib.hid (fun w' _ v6 hr => by
        obtain ⟨A1, c1, hv, _, _⟩ := hr.form
        subst hv
        exact ⟨A1, c1, rfl, Row.readsB hr⟩)
      go_wp2
      go_loopw [9, 10] (fun v9 i wj => ∃ j r n9 c9 : Nat, ∃ A9, r + j = k ∧ i = .int .i64 ((r : Int) - 1) ∧ v9 = .slice A9 n9 c9 ∧ n9 ≤ t ∧ Row wj w.heap.size 3 (.slice A9 n9 c9) n9 ((dd (l.reverse.take j)).map (Value.int .i64)) ∧ Row wj w.heap.size 4 u6 k ((lruRun t l).1.map Value.bool) ∧ Below w.heap.size w wj) (fun _ i _ => (intOf i + 1).toNat)
      case atStart => exact ⟨0, k, 0, 0, none, by omega, by go_num, rfl, by omega, by simpa [dd] using Row.nil_ _ _ _, R6, hB⟩
      case round =>
        obtain ⟨j, r, n9, c9, A9, hrj, rfl, rfl, hn9, R9, R6j, hBj⟩ := hrel
        have hl9 : (dd (l.reverse.take j)).length = n9 := by have := R9.len; simpa using this
        rcases r with _ | r
        · have HE : Hid ((lruRun t l).2 = dd (l.reverse.take j)) := Lib.hid (by
            have e1 : l.reverse.take j = l.reverse := List.take_of_length_le (by have := HRL.out; omega)
            rw [e1] at hl9 ⊢
            rw [HSND.out, HREC.out, List.take_of_length_le (by omega)])
          go_wp2
          obtain ⟨A1, c1, hv, hr6⟩ := hR.out _ hBj _ R6j
          refine bodyPost_ret (v := .tuple #[u6, .slice A9 n9 c9]) (by simp [results, Tryd.results23, go_sem]) rfl ?_
          exact ⟨A1, c1, A9, n9, c9, by rw [hv], hr6, by rw [HE.out]; exact Row.reads R9, by omega, hBj⟩
        · have e1 : (((r + 1 : Nat) : Int) - 1) = r := by omega
          rw [e1]
          clear e1
          have hbj := hBj.size
          have hrr : (0 : Int) ≤ r := by omega
          by_cases hroom : n9 < t
          · obtain ⟨ad, z, rfl, HZ, hc⟩ := (h.below hBj).at_ (show r < k by omega)
            have HA := Lib.hid (HRAT.out r j z HZ.out (by omega))
            have hroomI : (n9 : Int) < (t : Int) := by omega
            by_cases hm : z ∈ dd (l.reverse.take j)
            · have HB := Lib.hid ((hasB_iff _ _).2 hm)
              have HD : Hid (dd (l.reverse.take (j + 1)) = dd (l.reverse.take j)) := Lib.hid (by rw [take_succ_of HA.out, dd_snoc, if_pos hm])
              clear hm hl9
              go_wp2_with fail
              refine (has_any _ _ _ _ _ _ (Row.reads R9) (by omega)).mono ?_; rintro e w' ⟨rfl, rfl⟩
              rw [HB.out]
              go_wp2
              go_roundw
              case rel => exact ⟨j + 1, r, n9, c9, A9, by omega, by go_num, rfl, hn9, by rw [HD.out]; exact R9, R6j, hBj⟩
              case measure => simp [intOf] <;> omega
            · have HB := Lib.hid ((hasB_false _ _).2 hm)
              have HD : Hid (dd (l.reverse.take (j + 1)) = dd (l.reverse.take j) ++ [z]) := Lib.hid (by rw [take_succ_of HA.out, dd_snoc, if_neg hm])
              clear hm hl9
              go_wp2_with fail
              refine (has_any _ _ _ _ _ _ (Row.reads R9) (by omega)).mono ?_; rintro e w' ⟨rfl, rfl⟩
              rw [HB.out]
              go_wp2_with (at_builtin; refine wpList_push _ rfl (.tmp 54) (.tmp 59) _ rfl w.heap.size 3 _ _ Tryd.underlying22 infoI rfl (by decide) _ _ _ rfl R9 (.int .i64 z) rfl rfl (by omega) hbj ?_; intro v' w2 R9' g9)
              have F9 := Lib.hid R9'.form
              go_roundw
              case rel =>
                obtain ⟨A', c', hv, _, _⟩ := F9.out
                refine ⟨j + 1, r, n9 + 1, c', A', by omega, by go_num, hv, by omega, ?_, Row.kept R6j g9 R9 (by decide), hBj.grown g9 hbj (fun b hb => (R9.lt b hb).1)⟩
                rw [HD.out, ← hv, List.map_append]; exact R9'
              case measure => simp [intOf] <;> omega
          · have hroomI : ¬ (n9 : Int) < (t : Int) := by omega
            have HE : Hid ((lruRun t l).2 = dd (l.reverse.take j)) := Lib.hid (by
              obtain ⟨q, hq⟩ := dd_prefix (l.reverse.take j) (l.reverse.drop j)
              rw [List.take_append_drop] at hq
              rw [HSND.out, HREC.out, hq, List.take_append_of_le_length (by omega), List.take_of_length_le (by omega)])
            go_wp2
            obtain ⟨A1, c1, hv, hr6⟩ := hR.out _ hBj _ R6j
            refine bodyPost_ret (v := .tuple #[u6, .slice A9 n9 c9]) (by simp [results, Tryd.results23, go_sem]) rfl ?_
            exact ⟨A1, c1, A9, n9, c9, by rw [hv], hr6, by rw [HE.out]; exact Row.reads R9, by omega, hBj⟩
end Go.Proofs.YtcobmiodgfonaaaDoor
