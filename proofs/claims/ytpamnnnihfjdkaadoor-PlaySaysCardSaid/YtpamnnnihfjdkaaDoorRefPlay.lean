/- The walk of larderwickref1.Play: what it returns. -/
import Derived.Test.YtpamnnnihfjdkaaDoorRefRise
import Derived.Test.YtpamnnnihfjdkaaDoorPlayPlain
namespace Go.Proofs.YtpamnnnihfjdkaaDoor
open Go.ChangeShapes Go.WideShapes Go.ChangeAt Go.RowKit

def RPlayRes (w w' : World) (e : Ending) (r : Nat × List Int × Int) : Prop :=
  ∃ A2 n2 c2, e = .returned (.tuple #[.int .i64 ((r.1 : Nat) : Int), .slice A2 n2 c2, .int .i64 r.2.2]) ∧ RI w' A2 n2 r.2.1 ∧ n2 ≤ 8 ∧ Below w.heap.size w w'
theorem drop_atR {l : List Int} {k : Nat} {y : Int} (h : l[k]? = some y) : l.drop k = y :: l.drop (k + 1) := by
  obtain ⟨hk, rfl⟩ := List.getElem?_eq_some_iff.1 h
  exact List.drop_eq_getElem_cons hk

def RPlayInv (s : Nat) (l out rest : List Int) (w wr : World) (v9 : Value) (n9 k m : Nat) : Prop :=
  ∃ held, playA s held rest (l.drop k) m = playA s [] out l 0 ∧ Row wr w.heap.size 3 v9 n9 (held.map (Value.int .i64)) ∧ n9 ≤ s ∧ Below w.heap.size w wr

set_option maxRecDepth 100000 in
set_option maxHeartbeats 4000000 in
theorem rplay_ok (A A2 : Option Addr) (n c n2 c2 : Nat) (l out : List Int) (s : Nat) (w : World) (h : RI w A n l) (hn : n ≤ 40) (hs1 : 1 ≤ s) (hs2 : s ≤ 8) (h2 : RI w A2 n2 out) (hn2 : n2 ≤ 9223372036854775807) (hnc2 : n2 ≤ c2) :
    Calls Tryd.prog 13 #[.slice A n c, .int .i64 (s : Int), .slice A2 n2 c2] w fun e w' => RPlayRes w w' e (playA s [] out l 0) := by
  have HL := Lib.hid h.len
  go_enter Tryd.func13, Tryd.ntmps13
  go_wp2
  go_loopw [2, 9, 10, 11] (fun v2 v9 v10 i wr => ∃ k m n9 q cq : Nat, ∃ AQ, ∃ rest : List Int, k ≤ n ∧ i = .int .i64 k ∧ m ≤ k ∧ v10 = .int .i64 m ∧ v2 = .slice AQ q cq ∧ q ≤ n2 ∧ q ≤ cq ∧ Hid (RI w AQ q rest) ∧ RPlayInv s l out rest w wr v9 n9 k m ∧ ∃ A9 c9, v9 = .slice A9 n9 c9) (fun _ _ _ i _ => n - (intOf i).toNat)
  case atStart => exact ⟨0, 0, 0, n2, c2, A2, out, by omega, by go_num, by omega, by go_num, rfl, by omega, hnc2, Lib.hid h2, ⟨[], by simp, Row.nil_ _ _ _, by omega, Below.refl _ _⟩, none, 0, rfl⟩
  case round =>
    obtain ⟨k, m, n9, q, cq, AQ, rest, hk, rfl, hm, rfl, rfl, hq, hqc, HQ, ⟨held, HF, R9, hn9, hB⟩, A9, c9, rfl⟩ := hrel
    have HF' := Lib.hid HF
    clear HF
    have hbs := hB.size
    have hl9 : held.length = n9 := by have := R9.len; simpa using this
    by_cases hlt : k < n
    · obtain ⟨ad, y, rfl, HY, hc⟩ := (h.below hB).at_ hlt
      have HD := Lib.hid (drop_atR HY.out)
      by_cases hmem : y ∈ held
      · have HB := Lib.hid ((hasB_iff held y).2 hmem)
        have HN : Hid (playA s held rest (l.drop (k + 1)) m = playA s [] out l 0) := Lib.hid (by rw [← HF'.out, HD.out, playA_hit hmem])
        clear hmem hl9
        go_wp2_with fail
        refine (has_any _ _ _ _ _ _ (Row.reads R9) (by omega)).mono ?_; rintro e w' ⟨rfl, rfl⟩
        rw [HB.out]
        go_wp2
        go_roundw
        case rel => exact ⟨k + 1, m, n9, q, cq, AQ, rest, by omega, by go_num, by omega, rfl, rfl, hq, hqc, HQ, ⟨held, HN.out, R9, hn9, hB⟩, A9, c9, rfl⟩
        case measure => simp [intOf]; omega
      · have HB := Lib.hid ((hasB_false held y).2 hmem)
        by_cases hfull : n9 = s
        · by_cases hq0 : q = 0
          · have hr : rest = [] := List.eq_nil_of_length_eq_zero (by rw [HQ.out.len]; exact hq0)
            have HE : Hid (playA s [] out l 0 = (0, [], 3)) := Lib.hid (by rw [← HF'.out, HD.out, hr, playA_short hmem (by omega)])
            clear hmem hl9 hr
            subst hfull
            subst hq0
            go_wp2_with fail
            refine (has_any _ _ _ _ _ _ (Row.reads R9) (by omega)).mono ?_; rintro e w' ⟨rfl, rfl⟩
            rw [HB.out]
            go_wp2
            refine bodyPost_ret (v := .tuple #[.int .i64 0, .slice none 0 0, .int .i64 3]) (by simp [results, Tryd.results13, go_sem]) rfl ?_
            rw [HE.out]
            exact ⟨none, 0, 0, rfl, RI.nil_, by omega, hB⟩
          · have hq1 : 0 < q := by omega
            obtain ⟨adq, z, hAQ, HZ, hcz⟩ := (HQ.out.below hB).at_ hq1
            subst hAQ
            rw [show adq.add 0 = adq from by simp [Addr.add]] at hcz
            obtain ⟨rest', hrest⟩ : ∃ rest', rest = z :: rest' := by
              have := drop_atR HZ.out
              rw [List.drop_zero] at this
              exact ⟨_, this⟩
            have hqb : ((q : Int) == 0) = false := by simp; omega
            have hqi : (0 : Int) < q := by omega
            by_cases hz : z ∈ held
            · have HBZ := Lib.hid ((hasB_iff held z).2 hz)
              have HN : Hid (playA s (held.erase z ++ [y]) rest' (l.drop (k + 1)) (m + 1) = playA s [] out l 0) := Lib.hid (by rw [← HF'.out, HD.out, hrest, playA_out hmem (by omega) hz])
              have HEL : Hid ((held.erase z).length + 1 = n9) := Lib.hid (by rw [List.length_erase_of_mem hz]; have := List.length_pos_of_mem hz; omega)
              obtain ⟨q', rfl⟩ : ∃ q', q = q' + 1 := ⟨q - 1, by omega⟩
              have hcut := RI.cut HQ.out (k := 1) (cap := cq) (by omega) hqc
              rw [hrest, List.drop_one, List.tail_cons, Nat.add_sub_cancel] at hcut
              have hq1c : (1 : Int) ≤ (q' : Int) + 1 := by omega
              clear hmem hl9 hz
              subst hfull
              by_cases hcq : cq = 1
              all_goals
                first
                  | rw [if_pos hcq] at hcut
                  | rw [if_neg hcq] at hcut
                have HCUT := Lib.hid hcut
                clear hcut
                go_wp2_with fail
                refine (has_any _ _ _ _ _ _ (Row.reads R9) (by omega)).mono ?_; rintro e w' ⟨rfl, rfl⟩
                rw [HB.out]
                go_wp2_with fail
                refine (has_any _ _ _ _ _ _ (Row.reads R9) (by omega)).mono ?_; rintro e w' ⟨rfl, rfl⟩
                rw [HBZ.out]
                go_wp2_with fail
                refine (without_ok _ _ _ _ z _ (Row.reads R9) (by omega)).mono ?_; rintro e w2 ⟨A3, m3, c3, rfl, R3, hB2⟩
                have hm3 : m3 + 1 = n9 := by have := R3.len; have h2 := HEL.out; rw [List.length_map] at this; omega
                have hBw := hB.trans (hB2.mono hbs)
                have hbw := hBw.size
                have R3' := R3.base_down hbs
                have hc1 := RI.cellAt (h.below hBw) HY.out
                clear R3
                go_wp2_with (at_builtin; refine wpList_push _ rfl (.tmp 46) (.tmp 51) _ rfl w.heap.size 3 _ _ Tryd.underlying22 infoI rfl (by decide) _ _ _ rfl R3' (.int .i64 y) rfl rfl (by omega) hbw ?_; intro v' w3 R3'' g3)
                have F3 := Lib.hid R3''.form
                go_roundw
                case rel =>
                  refine ⟨k + 1, m + 1, m3 + 1, q', _, _, rest', by omega, by go_num, by omega, by go_num, rfl, by omega, by omega, HCUT, ⟨_, HN.out, by rw [List.map_append]; exact R3'', by omega, hBw.grown g3 hbw (fun b hb => (R3'.lt b hb).1)⟩, ?_⟩
                  obtain ⟨A', c', hv, _, _⟩ := F3.out
                  exact ⟨A', c', hv⟩
                case measure => simp [intOf]; omega
            · have HBZ := Lib.hid ((hasB_false held z).2 hz)
              have HE : Hid (playA s [] out l 0 = (0, [], 5)) := Lib.hid (by rw [← HF'.out, HD.out, hrest, playA_none hmem (by omega) hz])
              clear hmem hl9 hz
              subst hfull
              go_wp2_with fail
              refine (has_any _ _ _ _ _ _ (Row.reads R9) (by omega)).mono ?_; rintro e w' ⟨rfl, rfl⟩
              rw [HB.out]
              go_wp2_with fail
              refine (has_any _ _ _ _ _ _ (Row.reads R9) (by omega)).mono ?_; rintro e w' ⟨rfl, rfl⟩
              rw [HBZ.out]
              go_wp2
              refine bodyPost_ret (v := .tuple #[.int .i64 0, .slice none 0 0, .int .i64 5]) (by simp [results, Tryd.results13, go_sem]) rfl ?_
              rw [HE.out]
              exact ⟨none, 0, 0, rfl, RI.nil_, by omega, hB⟩
        · have HN : Hid (playA s (held ++ [y]) rest (l.drop (k + 1)) (m + 1) = playA s [] out l 0) := Lib.hid (by rw [← HF'.out, HD.out, playA_room hmem (by omega)])
          have hfb : ((n9 : Int) == (s : Int)) = false := by simp; omega
          clear hmem hl9
          go_wp2_with fail
          refine (has_any _ _ _ _ _ _ (Row.reads R9) (by omega)).mono ?_; rintro e w' ⟨rfl, rfl⟩
          rw [HB.out]
          go_wp2_with (at_builtin; refine wpList_push _ rfl (.tmp 46) (.tmp 51) _ rfl w.heap.size 3 _ _ Tryd.underlying22 infoI rfl (by decide) _ _ _ rfl R9 (.int .i64 y) rfl rfl (by omega) hbs ?_; intro v' w3 R3'' g3)
          have F3 := Lib.hid R3''.form
          go_roundw
          case rel =>
            refine ⟨k + 1, m + 1, n9 + 1, q, cq, AQ, rest, by omega, by go_num, by omega, by go_num, rfl, hq, hqc, HQ, ⟨_, HN.out, by rw [List.map_append]; exact R3'', by omega, hB.grown g3 hbs (fun b hb => (R9.lt b hb).1)⟩, ?_⟩
            obtain ⟨A', c', hv, _, _⟩ := F3.out
            exact ⟨A', c', hv⟩
          case measure => simp [intOf]; omega
    · have HE : Hid (playA s [] out l 0 = (m, sortI held, 0)) := Lib.hid (by
        rw [← HF'.out, List.drop_eq_nil_of_le (show l.length ≤ k by have := HL.out; omega), playA])
      have HSL := Lib.hid (sortI_len held)
      go_wp2_with fail
      refine (rising_ok _ _ _ _ _ (Row.reads R9) (by omega)).mono ?_; rintro e w2 ⟨A3, m3, c3, rfl, R3, hB2⟩
      obtain rfl : m3 = n9 := by have := R3.len; have h2 := HSL.out; rw [List.length_map] at this; omega
      go_wp2
      refine bodyPost_ret (v := .tuple #[.int .i64 (m : Int), .slice A3 m3 c3, .int .i64 0]) (by simp [results, Tryd.results13, go_sem]) rfl ?_
      rw [HE.out]
      exact ⟨A3, m3, c3, rfl, Row.reads R3, by omega, hB.trans (hB2.mono hbs)⟩
end Go.Proofs.YtpamnnnihfjdkaaDoor
