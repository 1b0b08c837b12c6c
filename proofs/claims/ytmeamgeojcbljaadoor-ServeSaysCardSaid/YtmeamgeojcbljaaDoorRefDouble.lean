/- The walk of larderwickref1.Double: how far all went, where they are. -/
import Derived.Test.YtmeamgeojcbljaaDoorRefNear
namespace Go.Proofs.YtmeamgeojcbljaaDoor
open Go.ChangeShapes Go.WideShapes Go.ChangeAt Go.RowKit

theorem runS_sorted (f : List Int → Int → Int × List Int) (s a : List Int) : (runS f s a).2.Pairwise (· ≤ ·) := by
  induction a using list_snoc_ind with
  | h0 => exact sortI_sorted s
  | h1 a x _ => rw [runS_snoc]; exact sortI_sorted _

set_option maxRecDepth 100000 in
set_option maxHeartbeats 4000000 in
theorem rdouble_ok (A Ac : Option Addr) (n c m cc : Nat) (s a : List Int) (w : World) (h : RI w A n s) (hc : RI w Ac m a) (hg : GoodS s a) :
    Calls Tryd.prog 39 #[.slice A n c, .slice Ac m cc] w fun e w' => ∃ A' c', e = .returned (.tuple #[.int .i64 (runS dstep s a).1, .slice A' n c']) ∧
      Row w' w.heap.size 3 (.slice A' n c') n ((runS dstep s a).2.map (Value.int .i64)) ∧ Below w.heap.size w w' := by
  have HL := Lib.hid h.len
  have HM := Lib.hid hc.len
  have hn3 : n ≤ 3 := by have := h.len; have := hg.2.1; omega
  have hm20 : m ≤ 20 := by have := hc.len; have := hg.2.2.1; omega
  have hn0 : 0 < n := by have := h.len; have := List.length_pos_iff.2 hg.1; omega
  have HON := Lib.hid (show onL n s from ⟨h.len, hg.2.2.2.1⟩)
  have HAI := Lib.hid (show AllIn a 0 12 from hg.2.2.2.2)
  have HRI := Lib.hid (fun k => runS_in' (f := dstep) (n := n) (fun s x h1 h2 => dstep_in h1 h2) HON.out (a.take k) (fun x hx => HAI.out x (List.mem_of_mem_take hx)))
  clear hg
  go_enter Tryd.func39, Tryd.ntmps39
  go_wp2_with fail
  refine (rising_ok _ _ _ _ _ h (by omega)).mono ?_; rintro e w1 ⟨A1, n1, c1, rfl, R1, hB1⟩
  obtain rfl : n1 = n := by have := R1.len; rw [List.length_map, sortI_len, HL.out] at this; omega
  go_wp2
  go_loopw [6, 7, 8] (fun v6 v7 i wr => ∃ (j c6 : Nat) (A6 : Option Addr) (sm : Int) (q : List Int), j ≤ m ∧ i = .int .i64 j ∧ v7 = .int .i64 sm ∧ v6 = .slice A6 n1 c6 ∧ Hid (runS dstep s (a.take j) = (sm, q)) ∧ Row wr w.heap.size 3 v6 n1 (q.map (Value.int .i64)) ∧ Below w.heap.size w wr) (fun _ _ i _ => m - (intOf i).toNat)
  case atStart => exact ⟨0, c1, A1, 0, sortI s, by omega, by go_num, by go_num, rfl, Lib.hid rfl, R1, hB1⟩
  case round =>
    clear R1 hB1
    obtain ⟨W1, hW1⟩ : ∃ W1, W1 = wr := ⟨_, rfl⟩
    subst hW1
    obtain ⟨j, c6, A6, sm, q, hj, rfl, rfl, rfl, HF, R6, hB⟩ := hrel
    have hbs := hB.size
    have HQ := Lib.hid (HRI.out j)
    rw [HF.out] at HQ
    have HQL : Hid (q.length = n1) := Lib.hid HQ.out.2.2.1
    have hsm : 0 ≤ sm ∧ sm ≤ 240 := by
      have h1 := HQ.out.1; have h2 := HQ.out.2.1
      have h1 : 0 ≤ sm := h1
      have h2 : sm ≤ 12 * (a.take j).length := h2
      rw [List.length_take] at h2
      exact ⟨h1, by omega⟩
    by_cases hlt : j < m
    · obtain ⟨adc, x, rfl, HX, hcx⟩ := (hc.below hB).at_ hlt
      have hxb := HAI.out x (mem_of_at HX.out)
      have hne : q ≠ [] := fun e => by have := HQL.out; rw [e] at this; simp at this; omega
      have HNE := Lib.hid hne
      clear hne
      have HSO : Hid (q.Pairwise (· ≤ ·)) := Lib.hid (by have := runS_sorted dstep s (a.take j); rw [HF.out] at this; exact this)
      have HST : Hid (runS dstep s (a.take (j + 1)) = (sm + (dstep q x).1, sortI (dstep q x).2)) := Lib.hid (by rw [take_succ_of HX.out, runS_snoc, HF.out])
      have RI6 := Row.reads R6
      have HL0 : Hid (LeftK q x 0 (-1)) := Lib.hid (.inl ⟨rfl, by simp⟩)
      have HR0 : Hid (RightK q x 0 (-1)) := Lib.hid (.inl ⟨rfl, by simp⟩)
      go_wp2
      go_loop [10, 11, 12] (fun v10 v11 ii => ∃ (k : Nat) (l r : Int), k ≤ n1 ∧ ii = .int .i64 k ∧ v10 = .int .i64 l ∧ v11 = .int .i64 r ∧ Hid (LeftK q x k l) ∧ Hid (RightK q x k r) ∧ -1 ≤ l ∧ l ≤ 12 ∧ -1 ≤ r ∧ r ≤ 12) (fun _ _ ii => n1 - (intOf ii).toNat)
      case atStart => exact ⟨0, -1, -1, by omega, by go_num, rfl, rfl, HL0, HR0, by omega, by omega, by omega, by omega⟩
      case round =>
        obtain ⟨k, l, r, hk, rfl, rfl, rfl, HLK, HRK, hl1, hl2, hr1, hr2⟩ := hrel
        by_cases hkn : k < n1
        · obtain ⟨ad6, y, rfl, HY, hcy⟩ := RI6.at_ hkn
          have hyb := HQ.out.2.2.2 y (mem_of_at HY.out)
          obtain ⟨l', HL', hl'⟩ : ∃ l', Hid (LeftK q x (k + 1) l') ∧ ((y ≤ x ∧ (l < 0 ∨ (¬ l < 0 ∧ l < y)) ∧ l' = y) ∨ (y ≤ x ∧ ¬ l < 0 ∧ ¬ l < y ∧ l' = l) ∨ (¬ y ≤ x ∧ l' = l)) := by
            by_cases h1 : y ≤ x ∧ (l < 0 ∨ l < y)
            · exact ⟨y, Lib.hid (left_yes HLK.out HY.out hyb.1 h1.1 h1.2), by omega⟩
            · exact ⟨l, Lib.hid (left_no HLK.out HY.out h1), by omega⟩
          obtain ⟨r', HR', hr'⟩ : ∃ r', Hid (RightK q x (k + 1) r') ∧ ((x ≤ y ∧ (r < 0 ∨ (¬ r < 0 ∧ y < r)) ∧ r' = y) ∨ (x ≤ y ∧ ¬ r < 0 ∧ ¬ y < r ∧ r' = r) ∨ (¬ x ≤ y ∧ r' = r)) := by
            by_cases h1 : x ≤ y ∧ (r < 0 ∨ y < r)
            · exact ⟨y, Lib.hid (right_yes HRK.out HY.out hyb.1 h1.1 h1.2), by omega⟩
            · exact ⟨r, Lib.hid (right_no HRK.out HY.out h1), by omega⟩
          rcases hl' with ⟨a1, (a2 | ⟨a2, a3⟩), rfl⟩ | ⟨a1, a2, a3, rfl⟩ | ⟨a1, rfl⟩ <;>
          rcases hr' with ⟨b1, (b2 | ⟨b2, b3⟩), rfl⟩ | ⟨b1, b2, b3, rfl⟩ | ⟨b1, rfl⟩
          all_goals first
            | (exfalso; omega)
            | (go_wp2
               go_round
               case rel => exact ⟨k + 1, _, _, by omega, by go_num, rfl, rfl, HL', HR', by omega, by omega, by omega, by omega⟩
               case measure => simp [intOf]; omega)
        · obtain rfl : k = n1 := by omega
          have HLE := Lib.hid (show LeftK q x q.length l by rw [HQL.out]; exact HLK.out)
          have HRE := Lib.hid (show RightK q x q.length r by rw [HQL.out]; exact HRK.out)
          clear HLK HRK
          by_cases hl0 : l < 0
          · obtain ⟨o1, o2, hmem⟩ := double_one HNE.out HSO.out HLE.out HRE.out (.inl hl0)
            rw [if_pos hl0] at o1 o2 hmem
            have hnb := HQ.out.2.2.2 r hmem
            have HEL : Hid ((q.erase r).length + 1 = k) := Lib.hid (by rw [List.length_erase_of_mem hmem, HQL.out]; omega)
            have HST2 : Hid (runS dstep s (a.take (j + 1)) = (sm + absI r x, sortI (q.erase r ++ [x]))) := Lib.hid (by rw [HST.out, o1, o2])
            have HABS := Lib.hid (rabs_ok r x W1 hnb hxb)
            have hab : 0 ≤ absI r x ∧ absI r x ≤ 12 := absI_in hnb hxb
            obtain ⟨ab, hab2⟩ : ∃ ab, absI r x = ab := ⟨_, rfl⟩
            rw [hab2] at HST2 HABS hab
            clear hab2 o1 o2 hmem
            go_wp2_with fail
            refine HABS.out.mono ?_; rintro e w' ⟨rfl, hw⟩
            have hw2 := hw.symm
            subst hw2
            clear hw
            go_wp2_with fail
            refine (without_ok _ _ _ _ r _ RI6 (by omega)).mono ?_; rintro e w3 ⟨A3, m3, c3, rfl, R3, hB3⟩
            have R3b := R3.base_down hbs
            have hm3 : Hid (m3 + 1 = k) := Lib.hid (by have := R3.len; rw [List.length_map] at this; have := HEL.out; omega)
            have hm3b : m3 ≤ 3 := by have := hm3.out; omega
            have hB3w := hB.trans (hB3.mono hbs)
            have hb3 := hB3w.size
            go_wp2_with (at_builtin; refine wpList_push _ rfl (.tmp 94) (.tmp 96) _ rfl w.heap.size 3 _ _ Tryd.underlying22 infoI rfl (by decide) _ _ _ rfl R3b (.int .i64 x) rfl rfl (by omega) hb3 ?_; intro v4 w4 R4 gr4; have hB4 := hB3w.grown gr4 hb3 (fun b hb => (R3b.lt b hb).1); have hb4 := hB4.size; obtain ⟨A4, c4, rfl, _, _⟩ := R4.form; have R4' : Row w4 w.heap.size 3 (.slice A4 (m3 + 1) c4) (m3 + 1) ((q.erase r ++ [x]).map (Value.int .i64)) := (by rw [List.map_append]; exact R4))
            refine (rising_ok _ _ _ _ _ (Row.reads R4') (by omega)).mono ?_; rintro e w5 ⟨A5, m5, c5, rfl, R5, hB5⟩
            obtain rfl : m5 = k := by have := R5.len; rw [List.length_map, sortI_len, List.length_append, List.length_singleton] at this; have := HEL.out; omega
            have R5b := R5.base_down hb4
            have hB5w := hB4.trans (hB5.mono hb4)
            go_wp2
            go_roundw
            case rel => exact ⟨j + 1, c5, A5, sm + ab, _, by omega, by go_num, rfl, rfl, HST2, R5b, hB5w⟩
            case measure => simp [intOf]; omega
          · by_cases hr0 : r < 0
            · obtain ⟨o1, o2, hmem⟩ := double_one HNE.out HSO.out HLE.out HRE.out (.inr hr0)
              rw [if_neg hl0] at o1 o2 hmem
              have hnb := HQ.out.2.2.2 l hmem
              have HEL : Hid ((q.erase l).length + 1 = k) := Lib.hid (by rw [List.length_erase_of_mem hmem, HQL.out]; omega)
              have HST2 : Hid (runS dstep s (a.take (j + 1)) = (sm + absI l x, sortI (q.erase l ++ [x]))) := Lib.hid (by rw [HST.out, o1, o2])
              have HABS := Lib.hid (rabs_ok l x W1 hnb hxb)
              have hab : 0 ≤ absI l x ∧ absI l x ≤ 12 := absI_in hnb hxb
              obtain ⟨ab, hab2⟩ : ∃ ab, absI l x = ab := ⟨_, rfl⟩
              rw [hab2] at HST2 HABS hab
              clear hab2 o1 o2 hmem
              go_wp2_with fail
              refine HABS.out.mono ?_; rintro e w' ⟨rfl, hw⟩
              have hw2 := hw.symm
              subst hw2
              clear hw
              go_wp2_with fail
              refine (without_ok _ _ _ _ l _ RI6 (by omega)).mono ?_; rintro e w3 ⟨A3, m3, c3, rfl, R3, hB3⟩
              have R3b := R3.base_down hbs
              have hm3 : Hid (m3 + 1 = k) := Lib.hid (by have := R3.len; rw [List.length_map] at this; have := HEL.out; omega)
              have hm3b : m3 ≤ 3 := by have := hm3.out; omega
              have hB3w := hB.trans (hB3.mono hbs)
              have hb3 := hB3w.size
              go_wp2_with (at_builtin; refine wpList_push _ rfl (.tmp 94) (.tmp 96) _ rfl w.heap.size 3 _ _ Tryd.underlying22 infoI rfl (by decide) _ _ _ rfl R3b (.int .i64 x) rfl rfl (by omega) hb3 ?_; intro v4 w4 R4 gr4; have hB4 := hB3w.grown gr4 hb3 (fun b hb => (R3b.lt b hb).1); have hb4 := hB4.size; obtain ⟨A4, c4, rfl, _, _⟩ := R4.form; have R4' : Row w4 w.heap.size 3 (.slice A4 (m3 + 1) c4) (m3 + 1) ((q.erase l ++ [x]).map (Value.int .i64)) := (by rw [List.map_append]; exact R4))
              refine (rising_ok _ _ _ _ _ (Row.reads R4') (by omega)).mono ?_; rintro e w5 ⟨A5, m5, c5, rfl, R5, hB5⟩
              obtain rfl : m5 = k := by have := R5.len; rw [List.length_map, sortI_len, List.length_append, List.length_singleton] at this; have := HEL.out; omega
              have R5b := R5.base_down hb4
              have hB5w := hB4.trans (hB5.mono hb4)
              go_wp2
              go_roundw
              case rel => exact ⟨j + 1, c5, A5, sm + ab, _, by omega, by go_num, rfl, rfl, HST2, R5b, hB5w⟩
              case measure => simp [intOf]; omega
            · by_cases hlx : l < x
              · obtain ⟨o1, o2, o3, o4, o5⟩ := double_two HSO.out HLE.out HRE.out ⟨by omega, by omega⟩ hlx
                by_cases hd : r - x < x - l
                · rw [show min (x - l) (r - x) = r - x by omega] at o1 o2
                  have HEL : Hid ((q.erase l).length + 1 = k) := Lib.hid (by rw [List.length_erase_of_mem o3, HQL.out]; omega)
                  have HEL2 : Hid (((q.erase l).erase r).length + 2 = k) := Lib.hid (by
                    have h1 := HEL.out
                    have h2 := List.length_pos_of_mem ((List.mem_erase_of_ne (show r ≠ l by omega)).2 o4)
                    rw [List.length_erase_of_mem ((List.mem_erase_of_ne (by omega)).2 o4)]; omega)
                  have HST2 : Hid (runS dstep s (a.take (j + 1)) = (sm + 2 * (r - x), sortI ((q.erase l).erase r ++ [l + (r - x), r - (r - x)]))) := Lib.hid (by rw [HST.out, o1, o2])
                  clear o1 o2 o3 o4
                  go_wp2_with fail
                  refine (without_ok _ _ _ _ l _ RI6 (by omega)).mono ?_; rintro e w3 ⟨A3, m3, c3, rfl, R3, hB3⟩
                  have hm3b : m3 ≤ 3 := by have := R3.len; rw [List.length_map] at this; have := HEL.out; omega
                  have hB3w := hB.trans (hB3.mono hbs)
                  have hb3 := hB3w.size
                  go_wp2_with fail
                  refine (without_ok _ _ _ _ r _ (Row.reads R3) (by omega)).mono ?_; rintro e w4 ⟨A4, m4, c4, rfl, R4, hB4⟩
                  have hm4 : Hid (m4 + 2 = k) := Lib.hid (by have := R4.len; rw [List.length_map] at this; have := HEL2.out; omega)
                  have hm4b : m4 ≤ 3 := by have := hm4.out; omega
                  have R4b := R4.base_down hb3
                  have hB4w := hB3w.trans (hB4.mono hb3)
                  have hb4 := hB4w.size
                  have HLIT := Lib.hid (RI.lit w4 #[.int .i64 (l + (r - x)), .int .i64 (r - (r - x))] 3 [l + (r - x), r - (r - x)] 2 rfl rfl)
                  have hBl := hB4w.alloc hb4 (.cells #[.int .i64 (l + (r - x)), .int .i64 (r - (r - x))] 3)
                  have hbl := hBl.size
                  go_wp2_with (at_builtin; refine wpList_appendI _ rfl (.tmp 122) (.tmp 129) _ rfl w.heap.size 3 _ _ Tryd.underlying22 infoI rfl _ _ _ rfl (World.ownsRow.alloc R4b _) _ 2 2 [l + (r - x), r - (r - x)] rfl HLIT.out (fun e => by cases e) (by simp only [maxLen]; omega) (by omega) hbl ?_; intro v5 w5 R5 gr5; have hB5 := hBl.grown gr5 hbl (fun b hb => (R4b.lt b hb).1); have hb5 := hB5.size; obtain ⟨A5, c5, rfl, _, _⟩ := R5.form; have R5' : Row w5 w.heap.size 3 (.slice A5 (m4 + 2) c5) (m4 + 2) (((q.erase l).erase r ++ [l + (r - x), r - (r - x)]).map (Value.int .i64)) := (by rw [List.map_append]; exact R5))
                  refine (rising_ok _ _ _ _ _ (Row.reads R5') (by omega)).mono ?_; rintro e w6 ⟨A6', m6, c6', rfl, R6', hB6⟩
                  obtain rfl : m6 = k := by have h1 := R6'.len; rw [List.length_map, sortI_len, List.length_append] at h1; have h2 := HEL2.out; simp at h1; omega
                  have R6b := R6'.base_down hb5
                  have hB6w := hB5.trans (hB6.mono hb5)
                  go_wp2
                  go_roundw
                  case rel => exact ⟨j + 1, c6', A6', sm + 2 * (r - x), _, by omega, by go_num, rfl, rfl, HST2, R6b, hB6w⟩
                  case measure => simp [intOf]; omega
                · rw [show min (x - l) (r - x) = x - l by omega] at o1 o2
                  have HEL : Hid ((q.erase l).length + 1 = k) := Lib.hid (by rw [List.length_erase_of_mem o3, HQL.out]; omega)
                  have HEL2 : Hid (((q.erase l).erase r).length + 2 = k) := Lib.hid (by
                    have h1 := HEL.out
                    have h2 := List.length_pos_of_mem ((List.mem_erase_of_ne (show r ≠ l by omega)).2 o4)
                    rw [List.length_erase_of_mem ((List.mem_erase_of_ne (by omega)).2 o4)]; omega)
                  have HST2 : Hid (runS dstep s (a.take (j + 1)) = (sm + 2 * (x - l), sortI ((q.erase l).erase r ++ [l + (x - l), r - (x - l)]))) := Lib.hid (by rw [HST.out, o1, o2])
                  clear o1 o2 o3 o4
                  go_wp2_with fail
                  refine (without_ok _ _ _ _ l _ RI6 (by omega)).mono ?_; rintro e w3 ⟨A3, m3, c3, rfl, R3, hB3⟩
                  have hm3b : m3 ≤ 3 := by have := R3.len; rw [List.length_map] at this; have := HEL.out; omega
                  have hB3w := hB.trans (hB3.mono hbs)
                  have hb3 := hB3w.size
                  go_wp2_with fail
                  refine (without_ok _ _ _ _ r _ (Row.reads R3) (by omega)).mono ?_; rintro e w4 ⟨A4, m4, c4, rfl, R4, hB4⟩
                  have hm4 : Hid (m4 + 2 = k) := Lib.hid (by have := R4.len; rw [List.length_map] at this; have := HEL2.out; omega)
                  have hm4b : m4 ≤ 3 := by have := hm4.out; omega
                  have R4b := R4.base_down hb3
                  have hB4w := hB3w.trans (hB4.mono hb3)
                  have hb4 := hB4w.size
                  have HLIT := Lib.hid (RI.lit w4 #[.int .i64 (l + (x - l)), .int .i64 (r - (x - l))] 3 [l + (x - l), r - (x - l)] 2 rfl rfl)
                  have hBl := hB4w.alloc hb4 (.cells #[.int .i64 (l + (x - l)), .int .i64 (r - (x - l))] 3)
                  have hbl := hBl.size
                  go_wp2_with (at_builtin; refine wpList_appendI _ rfl (.tmp 122) (.tmp 129) _ rfl w.heap.size 3 _ _ Tryd.underlying22 infoI rfl _ _ _ rfl (World.ownsRow.alloc R4b _) _ 2 2 [l + (x - l), r - (x - l)] rfl HLIT.out (fun e => by cases e) (by simp only [maxLen]; omega) (by omega) hbl ?_; intro v5 w5 R5 gr5; have hB5 := hBl.grown gr5 hbl (fun b hb => (R4b.lt b hb).1); have hb5 := hB5.size; obtain ⟨A5, c5, rfl, _, _⟩ := R5.form; have R5' : Row w5 w.heap.size 3 (.slice A5 (m4 + 2) c5) (m4 + 2) (((q.erase l).erase r ++ [l + (x - l), r - (x - l)]).map (Value.int .i64)) := (by rw [List.map_append]; exact R5))
                  refine (rising_ok _ _ _ _ _ (Row.reads R5') (by omega)).mono ?_; rintro e w6 ⟨A6', m6, c6', rfl, R6', hB6⟩
                  obtain rfl : m6 = k := by have h1 := R6'.len; rw [List.length_map, sortI_len, List.length_append] at h1; have h2 := HEL2.out; simp at h1; omega
                  have R6b := R6'.base_down hb5
                  have hB6w := hB5.trans (hB6.mono hb5)
                  go_wp2
                  go_roundw
                  case rel => exact ⟨j + 1, c6', A6', sm + 2 * (x - l), _, by omega, by go_num, rfl, rfl, HST2, R6b, hB6w⟩
                  case measure => simp [intOf]; omega
              · obtain ⟨o1, o2⟩ := double_none HSO.out HLE.out HRE.out ⟨by omega, by omega⟩ hlx
                have HST2 : Hid (runS dstep s (a.take (j + 1)) = (sm, q)) := Lib.hid (by rw [HST.out, o1, o2, Int.add_zero])
                clear o1 o2
                go_wp2
                go_roundw
                case rel => exact ⟨j + 1, c6, A6, sm, q, by omega, by go_num, rfl, rfl, HST2, R6, hB⟩
                case measure => simp [intOf]; omega
    · obtain rfl : j = m := by omega
      have HE : Hid (runS dstep s a = (sm, q)) := Lib.hid (by have := HF.out; rwa [List.take_of_length_le (by rw [HM.out]; omega)] at this)
      go_wp2
      exact bodyPost_ret (v := .tuple #[.int .i64 sm, .slice A6 n1 c6]) (by simp [results, Tryd.results39, go_sem]) rfl ⟨A6, c6, by rw [HE.out], by rw [HE.out]; exact R6, hB⟩
end Go.Proofs.YtmeamgeojcbljaaDoor
