/- The walk of the law ServeMirror: it returns true, for every input. -/
import Derived.Test.YtibefbboilpfmaaServeLaw
import Derived.Test.YtibefbboilpfmaaServeLaws2
namespace Go.Proofs.Ytibefbboilpfmaa
open Go.ChangeShapes Go.WideShapes Go.ChangeAt Go.RowKit

theorem mir_in {l : List Int} (h : AllIn l 0 12) : AllIn (l.map mir) 0 12 := by
  intro y hy
  obtain ⟨x, hx, rfl⟩ := List.mem_map.1 hy
  have := h x hx
  unfold mir; omega
theorem mir_good {s a : List Int} {k j : Nat} (hk : k = s.length ∨ 4 ≤ k) (hj : j = a.length ∨ 21 ≤ j) (h1 : k ≤ s.length) (h2 : j ≤ a.length) (hs : AllIn (s.take k) 0 12) (ha : AllIn (a.take j) 0 12) (hg : ¬ GoodS s a) : ¬ GoodS ((s.take k).map mir) ((a.take j).map mir) := by
  rintro ⟨g1, g2, g3, g4, g5⟩
  simp only [List.length_map, List.length_take] at g2 g3
  have e1 : k = s.length := by omega
  have e2 : j = a.length := by omega
  rw [e1, List.take_length] at hs
  rw [e2, List.take_length] at ha
  refine hg ⟨fun e => g1 (by rw [e]; simp), by omega, by omega, hs, ha⟩
theorem mir_back {L : List Int} {i : Nat} {y : Int} (h : L[i]? = some y) : ((L.map mir).reverse)[L.length - 1 - i]? = some (mir y) := by
  have hi := (List.getElem?_eq_some_iff.1 h).1
  rw [List.getElem?_reverse (by simp; omega)]
  simp only [List.length_map]
  rw [show L.length - 1 - (L.length - 1 - i) = i by omega, List.getElem?_map, h]; rfl

set_option maxRecDepth 100000 in
set_option maxHeartbeats 8000000 in
theorem law_ServeMirror (A Ac : Option Addr) (n c m cc : Nat) (s a : List Int) (w : World) (hs : RI w A n s) (hc : RI w Ac m a) (hn : n ≤ 9223372036854775807) (hm : m ≤ 9223372036854775807) :
    Calls Try.prog 4 #[.slice A n c, .slice Ac m cc] w fun e w' => e = .returned (.bool true) ∧ Below w.heap.size w w' := by
  have HL := Lib.hid hs.len
  have HM := Lib.hid hc.len
  go_enter Try.func4, Try.ntmps4
  go_wp2_with fail
  refine (serveFact_ok _).mono ?_; rintro e w0 ⟨rfl, hB0⟩
  go_wp2
  go_loopw [6, 8] (fun v6 i wr => ∃ k : Nat, k ≤ n ∧ k ≤ 4 ∧ i = .int .i64 k ∧ Row wr w.heap.size 3 v6 k (((s.take k).map mir).map (Value.int .i64)) ∧ Below w.heap.size w wr ∧ Hid (AllIn (s.take k) 0 12)) (fun _ i _ => 4 - (intOf i).toNat)
  case atStart => exact ⟨0, by omega, by omega, by go_num, Row.nil_ _ _ _, hB0, Lib.hid (by simp [AllIn])⟩
  case round =>
    obtain ⟨k, hk, hk4, rfl, R6, hB, hall⟩ := hrel
    have hbs := hB.size
    by_cases hlt : k < n
    · have hki : (k : Int) < n := by omega
      by_cases hlt4 : k < 4
      · have hk4i : (k : Int) < 4 := by omega
        obtain ⟨ad, y, rfl, hy, hcy⟩ := (hs.below hB).at_ hlt
        by_cases hyin : 0 ≤ y ∧ y ≤ 12
        · obtain ⟨y0, y1⟩ := hyin
          have hall2 : Hid (AllIn (s.take (k + 1)) 0 12) := Lib.hid (AllIn.take_succ hall.out hy.out ⟨y0, y1⟩)
          have hw12 : wrap64 (12 - y) = 12 - y := IntWalk.wrap64_in _ (by omega)
          have HT : Hid ((s.take (k + 1)).map mir = (s.take k).map mir ++ [12 - y]) := Lib.hid (by rw [take_succ_of hy.out, List.map_append]; rfl)
          go_wp2_with fail
          refine (sin_ok _ _ _ _ y0 y1).mono ?_; rintro e w' ⟨rfl, rfl⟩
          go_wp2_with (at_builtin; refine wpList_push _ rfl (.tmp 40) (.tmp 46) _ rfl w.heap.size 3 _ _ Try.underlying22 infoI rfl (by decide) _ _ _ rfl R6 (.int .i64 (12 - y)) rfl rfl (by omega) hbs ?_; intro v' w2 R6' g8)
          go_roundw
          case rel =>
            refine ⟨k + 1, by omega, by omega, by go_num, ?_, hB.grown g8 hbs (fun b hb => (R6.lt b hb).1), hall2⟩
            rw [HT.out, List.map_append]; exact R6'
          case measure => simp [intOf]; omega
        · have hyo : y < 0 ∨ 12 < y := by omega
          have HYO := Lib.hid hyo
          clear hyo hyin
          go_wp2_with fail
          refine (sin_no _ _ _ _ HYO.out).mono ?_; rintro e w' ⟨rfl, rfl⟩
          go_wp2
          go_ret
          exact ⟨rfl, hB⟩
      · have hk4i : ¬ (k : Int) < 4 := by omega
        have HK := Lib.hid (show k = s.length ∨ 4 ≤ k from .inr (by omega))
        have hbadn : Hid (¬ GoodS s a) := Lib.hid (fun h => by have := h.2.1; have := HL.out; omega)
        obtain ⟨A6, c6, rfl, _, _⟩ := R6.form
        have P6 := Row.reads R6
        clear R6 hki
        go_wp2
        go_loopw [7, 9] (fun v7 i wr2 => ∃ j : Nat, j ≤ m ∧ j ≤ 21 ∧ i = .int .i64 j ∧ Row wr2 wr.heap.size 3 v7 j (((a.take j).map mir).map (Value.int .i64)) ∧ Below wr.heap.size wr wr2 ∧ Hid (AllIn (a.take j) 0 12)) (fun _ i _ => 21 - (intOf i).toNat)
        case atStart => exact ⟨0, by omega, by omega, by go_num, Row.nil_ _ _ _, Below.refl _ _, Lib.hid (by simp [AllIn])⟩
        case round =>
          obtain ⟨j, hj, hj21, rfl, R7, hB7, hall7⟩ := hrel
          have hbs7 := hB7.size
          have hB2 := hB.trans (hB7.mono hbs)
          by_cases hlj : j < m
          · have hji : (j : Int) < m := by omega
            by_cases hlj21 : j < 21
            · have hj4i : (j : Int) < 21 := by omega
              obtain ⟨ad2, y, rfl, hy, hcy⟩ := (hc.below hB2).at_ hlj
              by_cases hyin : 0 ≤ y ∧ y ≤ 12
              · obtain ⟨y0, y1⟩ := hyin
                have hall2 : Hid (AllIn (a.take (j + 1)) 0 12) := Lib.hid (AllIn.take_succ hall7.out hy.out ⟨y0, y1⟩)
                have hw12 : wrap64 (12 - y) = 12 - y := IntWalk.wrap64_in _ (by omega)
                have HT : Hid ((a.take (j + 1)).map mir = (a.take j).map mir ++ [12 - y]) := Lib.hid (by rw [take_succ_of hy.out, List.map_append]; rfl)
                go_wp2_with fail
                refine (sin_ok _ _ _ _ y0 y1).mono ?_; rintro e w' ⟨rfl, rfl⟩
                go_wp2_with (at_builtin; refine wpList_push _ rfl (.tmp 64) (.tmp 70) _ rfl _ 3 _ _ Try.underlying22 infoI rfl (by decide) _ _ _ rfl R7 (.int .i64 (12 - y)) rfl rfl (by omega) hbs7 ?_; intro v' w2 R7' g8)
                go_roundw
                case rel =>
                  refine ⟨j + 1, by omega, by omega, by go_num, ?_, hB7.grown g8 hbs7 (fun b hb => (R7.lt b hb).1), hall2⟩
                  rw [HT.out, List.map_append]; exact R7'
                case measure => simp [intOf]; omega
              · have hyo : y < 0 ∨ 12 < y := by omega
                have HYO := Lib.hid hyo
                clear hyo hyin
                go_wp2_with fail
                refine (sin_no _ _ _ _ HYO.out).mono ?_; rintro e w' ⟨rfl, rfl⟩
                go_wp2
                go_ret
                exact ⟨rfl, hB2⟩
            · have hj4i : ¬ (j : Int) < 21 := by omega
              have HJ := Lib.hid (show j = a.length ∨ 21 ≤ j from .inr (by omega))
              have hbadm : Hid (¬ GoodS s a) := Lib.hid (fun h => by have := h.2.2.1; have := HM.out; omega)
              have HB1 : Hid (¬ GoodS s a) := hbadm
              have HB2 : Hid (¬ GoodS ((s.take k).map mir) ((a.take j).map mir)) := Lib.hid (mir_good HK.out HJ.out (by have := HL.out; omega) (by have := HM.out; omega) hall.out hall7.out HB1.out)
              obtain ⟨A7, c7, rfl, _, _⟩ := R7.form
              have P7 := Row.reads R7
              have P62 := P6.below hB7
              clear R7 hji
              go_wp2_with fail
              refine (double_no _ _ _ _ _ _ _ _ _ (hs.below hB2) (hc.below hB2) hn hm HB1.out).mono ?_; rintro e w' ⟨rfl, rfl⟩
              go_wp2_with fail
              refine (double_no _ _ _ _ _ _ _ _ _ P62 P7 (by omega) (by omega) HB2.out).mono ?_; rintro e w' ⟨rfl, rfl⟩
              go_wp2_with fail
              refine (sleast_no _ _ _ _ _ _ _ _ _ (hs.below hB2) (hc.below hB2) hn hm HB1.out).mono ?_; rintro e w3 ⟨rfl, hB3⟩
              have hB23 := hB2.trans (hB3.mono hB2.size)
              go_wp2_with fail
              refine (sleast_no _ _ _ _ _ _ _ _ _ (P62.below hB3) (P7.below hB3) (by omega) (by omega) HB2.out).mono ?_; rintro e w4 ⟨rfl, hB4⟩
              go_wp2
              go_ret
              exact ⟨rfl, hB23.trans (hB4.mono hB23.size)⟩
          · have hji : ¬ (j : Int) < m := by omega
            have HJ := Lib.hid (show j = a.length ∨ 21 ≤ j from .inl (by have := HM.out; omega))
            have HB1 : Hid (¬ GoodS s a) := hbadn
            have HB2 : Hid (¬ GoodS ((s.take k).map mir) ((a.take j).map mir)) := Lib.hid (mir_good HK.out HJ.out (by have := HL.out; omega) (by have := HM.out; omega) hall.out hall7.out HB1.out)
            obtain ⟨A7, c7, rfl, _, _⟩ := R7.form
            have P7 := Row.reads R7
            have P62 := P6.below hB7
            clear R7 hji
            go_wp2_with fail
            refine (double_no _ _ _ _ _ _ _ _ _ (hs.below hB2) (hc.below hB2) hn hm HB1.out).mono ?_; rintro e w' ⟨rfl, rfl⟩
            go_wp2_with fail
            refine (double_no _ _ _ _ _ _ _ _ _ P62 P7 (by omega) (by omega) HB2.out).mono ?_; rintro e w' ⟨rfl, rfl⟩
            go_wp2_with fail
            refine (sleast_no _ _ _ _ _ _ _ _ _ (hs.below hB2) (hc.below hB2) hn hm HB1.out).mono ?_; rintro e w3 ⟨rfl, hB3⟩
            have hB23 := hB2.trans (hB3.mono hB2.size)
            go_wp2_with fail
            refine (sleast_no _ _ _ _ _ _ _ _ _ (P62.below hB3) (P7.below hB3) (by omega) (by omega) HB2.out).mono ?_; rintro e w4 ⟨rfl, hB4⟩
            go_wp2
            go_ret
            exact ⟨rfl, hB23.trans (hB4.mono hB23.size)⟩
    · have hki : ¬ (k : Int) < n := by omega
      have HK := Lib.hid (show k = s.length ∨ 4 ≤ k from .inl (by have := HL.out; omega))
      obtain ⟨A6, c6, rfl, _, _⟩ := R6.form
      have P6 := Row.reads R6
      clear R6 hki
      go_wp2
      go_loopw [7, 9] (fun v7 i wr2 => ∃ j : Nat, j ≤ m ∧ j ≤ 21 ∧ i = .int .i64 j ∧ Row wr2 wr.heap.size 3 v7 j (((a.take j).map mir).map (Value.int .i64)) ∧ Below wr.heap.size wr wr2 ∧ Hid (AllIn (a.take j) 0 12)) (fun _ i _ => 21 - (intOf i).toNat)
      case atStart => exact ⟨0, by omega, by omega, by go_num, Row.nil_ _ _ _, Below.refl _ _, Lib.hid (by simp [AllIn])⟩
      case round =>
        obtain ⟨j, hj, hj21, rfl, R7, hB7, hall7⟩ := hrel
        have hbs7 := hB7.size
        have hB2 := hB.trans (hB7.mono hbs)
        by_cases hlj : j < m
        · have hji : (j : Int) < m := by omega
          by_cases hlj21 : j < 21
          · have hj4i : (j : Int) < 21 := by omega
            obtain ⟨ad2, y, rfl, hy, hcy⟩ := (hc.below hB2).at_ hlj
            by_cases hyin : 0 ≤ y ∧ y ≤ 12
            · obtain ⟨y0, y1⟩ := hyin
              have hall2 : Hid (AllIn (a.take (j + 1)) 0 12) := Lib.hid (AllIn.take_succ hall7.out hy.out ⟨y0, y1⟩)
              have hw12 : wrap64 (12 - y) = 12 - y := IntWalk.wrap64_in _ (by omega)
              have HT : Hid ((a.take (j + 1)).map mir = (a.take j).map mir ++ [12 - y]) := Lib.hid (by rw [take_succ_of hy.out, List.map_append]; rfl)
              go_wp2_with fail
              refine (sin_ok _ _ _ _ y0 y1).mono ?_; rintro e w' ⟨rfl, rfl⟩
              go_wp2_with (at_builtin; refine wpList_push _ rfl (.tmp 64) (.tmp 70) _ rfl _ 3 _ _ Try.underlying22 infoI rfl (by decide) _ _ _ rfl R7 (.int .i64 (12 - y)) rfl rfl (by omega) hbs7 ?_; intro v' w2 R7' g8)
              go_roundw
              case rel =>
                refine ⟨j + 1, by omega, by omega, by go_num, ?_, hB7.grown g8 hbs7 (fun b hb => (R7.lt b hb).1), hall2⟩
                rw [HT.out, List.map_append]; exact R7'
              case measure => simp [intOf]; omega
            · have hyo : y < 0 ∨ 12 < y := by omega
              have HYO := Lib.hid hyo
              clear hyo hyin
              go_wp2_with fail
              refine (sin_no _ _ _ _ HYO.out).mono ?_; rintro e w' ⟨rfl, rfl⟩
              go_wp2
              go_ret
              exact ⟨rfl, hB2⟩
          · have hj4i : ¬ (j : Int) < 21 := by omega
            have HJ := Lib.hid (show j = a.length ∨ 21 ≤ j from .inr (by omega))
            have hbadm : Hid (¬ GoodS s a) := Lib.hid (fun h => by have := h.2.2.1; have := HM.out; omega)
            have HB1 : Hid (¬ GoodS s a) := hbadm
            have HB2 : Hid (¬ GoodS ((s.take k).map mir) ((a.take j).map mir)) := Lib.hid (mir_good HK.out HJ.out (by have := HL.out; omega) (by have := HM.out; omega) hall.out hall7.out HB1.out)
            obtain ⟨A7, c7, rfl, _, _⟩ := R7.form
            have P7 := Row.reads R7
            have P62 := P6.below hB7
            clear R7 hji
            go_wp2_with fail
            refine (double_no _ _ _ _ _ _ _ _ _ (hs.below hB2) (hc.below hB2) hn hm HB1.out).mono ?_; rintro e w' ⟨rfl, rfl⟩
            go_wp2_with fail
            refine (double_no _ _ _ _ _ _ _ _ _ P62 P7 (by omega) (by omega) HB2.out).mono ?_; rintro e w' ⟨rfl, rfl⟩
            go_wp2_with fail
            refine (sleast_no _ _ _ _ _ _ _ _ _ (hs.below hB2) (hc.below hB2) hn hm HB1.out).mono ?_; rintro e w3 ⟨rfl, hB3⟩
            have hB23 := hB2.trans (hB3.mono hB2.size)
            go_wp2_with fail
            refine (sleast_no _ _ _ _ _ _ _ _ _ (P62.below hB3) (P7.below hB3) (by omega) (by omega) HB2.out).mono ?_; rintro e w4 ⟨rfl, hB4⟩
            go_wp2
            go_ret
            exact ⟨rfl, hB23.trans (hB4.mono hB23.size)⟩
        · have hji : ¬ (j : Int) < m := by omega
          have HJ := Lib.hid (show j = a.length ∨ 21 ≤ j from .inl (by have := HM.out; omega))
          by_cases hg : GoodS s a
          · obtain rfl : k = n := by omega
            obtain rfl : j = m := by omega
            rw [List.take_of_length_le (by rw [HM.out]; omega)] at R7 hall7
            rw [List.take_of_length_le (by rw [HL.out]; omega)] at P6 hall
            have HG := Lib.hid hg
            have HG2 : Hid (GoodS (s.map mir) (a.map mir)) := Lib.hid ⟨fun e => hg.1 (by simpa using e), by simpa using hg.2.1, by simpa using hg.2.2.1, mir_in hg.2.2.2.1, mir_in hg.2.2.2.2⟩
            have hn0 : 0 < k := by
              have h0 := hs.len
              rcases Nat.eq_zero_or_pos k with e | e
              · exact absurd (List.eq_nil_of_length_eq_zero (by omega)) hg.1
              · exact e
            have hn3 : k ≤ 3 := by have := hs.len; have := hg.2.1; omega
            have HON := Lib.hid (show onL k s from ⟨hs.len, hg.2.2.2.1⟩)
            obtain ⟨A7, c7, rfl, _, _⟩ := R7.form
            have P7 := Row.reads R7
            have P62 := P6.below hB7
            clear R7 hji hg hlt hlj
            go_wp2_with fail
            refine (double_ok _ _ _ _ _ _ _ _ _ (hs.below hB2) (hc.below hB2) HG.out).mono ?_; rintro e w3 ⟨A8, c8, rfl, R8, hB3⟩
            have hB23 := hB2.trans (hB3.mono hB2.size)
            go_wp2_with fail
            refine (double_ok _ _ _ _ _ _ _ _ _ (P62.below hB3) (P7.below hB3) HG2.out).mono ?_; rintro e w4 ⟨A9, c9, rfl, R9, hB4⟩
            have hB24 := hB23.trans (hB4.mono hB23.size)
            rw [mir_run hn0 hn3 HL.out] at R9 ⊢
            go_wp2_with fail
            refine (sleast_ok _ _ _ _ _ _ _ _ _ (hs.below hB24) (hc.below hB24) HG.out).mono ?_; rintro e w5 ⟨v, rfl, hv, hB5⟩
            have hB25 := hB24.trans (hB5.mono hB24.size)
            go_wp2_with fail
            refine (sleast_ok _ _ _ _ _ _ _ _ _ (((P62.below hB3).below hB4).below hB5) (((P7.below hB3).below hB4).below hB5) HG2.out).mono ?_; rintro e w6 ⟨v2, rfl, hv2, hB6⟩
            have hB26 := hB25.trans (hB6.mono hB25.size)
            obtain rfl := mir_best HL.out (best_pad HL.out hv) (best_pad (by rw [List.length_map]; exact HL.out) hv2)
            have P8 := (((Row.reads R8).below hB4).below hB5).below hB6
            have P9 := ((Row.reads R9).below hB5).below hB6
            have HLL := Lib.hid (runS_in' (f := dstep) (fun s x => dstep_in) HON.out a HG.out.2.2.2.2)
            obtain ⟨D, L, hDL⟩ : ∃ D L, runS dstep s a = (D, L) := ⟨_, _, rfl⟩
            rw [hDL] at P8 P9 HLL ⊢
            have HLen := Lib.hid (show L.length = k from HLL.out.2.2.1)
            have HMB := Lib.hid (fun (i : Nat) (y : Int) (h : L[i]? = some y) => mir_back h)
            clear hv hv2 R8 R9 hDL P6 P62 P7 hB3 hB4 hB5 hB6 hB23 hB24 hB25
            go_wp2
            go_loopw [20] (fun i W => ∃ t : Nat, t ≤ k ∧ i = .int .i64 t ∧ Below w6.heap.size w6 W) (fun i _ => k - (intOf i).toNat)
            case atStart => exact ⟨0, by omega, by go_num, Below.refl _ _⟩
            case round =>
              obtain ⟨t, ht, rfl, hBt⟩ := hrel
              by_cases htk : t < k
              · obtain ⟨ad8, y, rfl, hy, hcy⟩ := (P8.below hBt).at_ htk
                obtain ⟨n1, hn1⟩ : ∃ n1, k - 1 = n1 := ⟨_, rfl⟩
                obtain ⟨q, hq⟩ : ∃ q, n1 - t = q := ⟨_, rfl⟩
                have hqk : q < k := by omega
                obtain ⟨ad9, z, rfl, hz, hcz⟩ := (P9.below hBt).at_ hqk
                have hzy : z = mir y := by
                  have h1 := HMB.out t y hy.out
                  rw [HLen.out, hn1, hq] at h1
                  have h2 := hz.out
                  rw [h1] at h2; injection h2 with h2; exact h2.symm
                have hyin := HLL.out.2.2.2 y (List.mem_of_getElem? hy.out)
                have hz1 : ((k : Int) - 1) = n1 := by omega
                have hz2 : ((n1 : Int) - t) = q := by omega
                have hw1 : IntKind.i64.wrap (n1 : Int) = n1 := IntWalk.i64_in _ (by omega)
                have hw2 : IntKind.i64.wrap (q : Int) = q := IntWalk.i64_in _ (by omega)
                have hz3 : (12 : Int) - z = y := by rw [hzy]; unfold mir; omega
                have hw3 : IntKind.i64.wrap y = y := IntWalk.i64_in _ (by omega)
                have hti : (t : Int) < k := by omega
                have hqi : (q : Int) < k := by omega
                have hyy : (y != y) = false := by simp
                clear hn1 hq hzy
                go_wp2
                go_quiet (fail)
                go_wp2
                go_roundw
                case rel => exact ⟨t + 1, by omega, by go_num, belowN hBt _⟩
                case measure => simp [intOf]; omega
              · obtain rfl : t = k := by omega
                go_wp2
                go_ret
                exact ⟨rfl, hB26.trans (hBt.mono hB26.size)⟩
          · have HB1 : Hid (¬ GoodS s a) := Lib.hid hg
            have HB2 : Hid (¬ GoodS ((s.take k).map mir) ((a.take j).map mir)) := Lib.hid (mir_good HK.out HJ.out (by have := HL.out; omega) (by have := HM.out; omega) hall.out hall7.out HB1.out)
            obtain ⟨A7, c7, rfl, _, _⟩ := R7.form
            have P7 := Row.reads R7
            have P62 := P6.below hB7
            clear R7 hji
            go_wp2_with fail
            refine (double_no _ _ _ _ _ _ _ _ _ (hs.below hB2) (hc.below hB2) hn hm HB1.out).mono ?_; rintro e w' ⟨rfl, rfl⟩
            go_wp2_with fail
            refine (double_no _ _ _ _ _ _ _ _ _ P62 P7 (by omega) (by omega) HB2.out).mono ?_; rintro e w' ⟨rfl, rfl⟩
            go_wp2_with fail
            refine (sleast_no _ _ _ _ _ _ _ _ _ (hs.below hB2) (hc.below hB2) hn hm HB1.out).mono ?_; rintro e w3 ⟨rfl, hB3⟩
            have hB23 := hB2.trans (hB3.mono hB2.size)
            go_wp2_with fail
            refine (sleast_no _ _ _ _ _ _ _ _ _ (P62.below hB3) (P7.below hB3) (by omega) (by omega) HB2.out).mono ?_; rintro e w4 ⟨rfl, hB4⟩
            go_wp2
            go_ret
            exact ⟨rfl, hB23.trans (hB4.mono hB23.size)⟩
end Go.Proofs.Ytibefbboilpfmaa
