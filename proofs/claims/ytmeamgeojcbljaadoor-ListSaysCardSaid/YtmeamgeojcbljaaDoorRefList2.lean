/- The walk of larderwickref1.List: what looking costs, in each way, and how the list is at the end. -/
import Derived.Test.YtmeamgeojcbljaaDoorRefList1
import Derived.Shelf.RegionOpenPlain
import Derived.Deep.RegionLaw
namespace Go.Proofs.YtmeamgeojcbljaaDoor
open Go.ChangeShapes Go.WideShapes Go.ChangeAt Go.RowKit

theorem erase_cut {l : List Int} {x : Int} (h : x ∈ l) : l.erase x = cutL l (l.idxOf x) := by
  induction l with
  | nil => cases h
  | cons a l ih =>
    by_cases e : a = x
    · subst e; simp [cutL]
    · have hm : x ∈ l := by
        rcases List.mem_cons.1 h with h | h
        · exact (e h.symm).elim
        · exact h
      rw [List.erase_cons_tail (by simpa using e), ih hm, List.idxOf_cons, show (a == x) = false by simpa using e]
      rfl
def tofB (front : Bool) : Nat → Nat := if front then toF else toS

set_option maxRecDepth 100000 in
set_option maxHeartbeats 2000000 in
theorem rlist_ok (n : Nat) (Ac : Option Addr) (m cc : Nat) (a : List Int) (front : Bool) (w : World) (hc : RI w Ac m a) (hg : GoodT n a) :
    Calls Tryd.prog 32 #[.int .i64 n, .slice Ac m cc, .bool front] w fun e w' => ∃ A c, e = .returned (.tuple #[.int .i64 (runL (tofB front) n a).1, .slice A n c]) ∧
      Row w' w.heap.size 3 (.slice A n c) n ((runL (tofB front) n a).2.map (Value.int .i64)) ∧ Below w.heap.size w w' := by
  have HG := Lib.hid hg
  have HM := Lib.hid hc.len
  have hn1 : 1 ≤ n := by have := hg.2.1; omega
  have hn4 : n ≤ 4 := by have := hg.2.2.1; omega
  have hm40 : m ≤ 40 := by have := hc.len; have := hg.1; omega
  clear hg
  go_enter Tryd.func32, Tryd.ntmps32
  go_wp2_with fail
  refine (rcount_ok n w (by omega)).mono ?_; rintro e w1 ⟨A1, c1, rfl, R1, hB1⟩
  go_wp2
  go_loopw [8, 9, 10] (fun v8 v9 i wr => ∃ (j c : Nat) (A : Option Addr) (sm : Int) (l : List Int), j ≤ m ∧ v8 = .slice A n c ∧ v9 = .int .i64 sm ∧ i = .int .i64 j ∧ Hid (runL (tofB front) n (a.take j) = (sm, l)) ∧ Row wr w.heap.size 3 (.slice A n c) n (l.map (Value.int .i64)) ∧ Below w.heap.size w wr) (fun _ _ i _ => m - (intOf i).toNat)
  case atStart => exact ⟨0, c1, A1, 0, risingI n, by omega, rfl, by go_num, by go_num, Lib.hid rfl, R1, hB1⟩
  case round =>
    clear R1 hB1
    obtain ⟨wk, hwk⟩ : ∃ wk, wk = wr := ⟨_, rfl⟩
    subst hwk
    obtain ⟨j, c, A, sm, l, hj, rfl, rfl, rfl, hq, R, hBr⟩ := hrel
    have hrs := hBr.size
    by_cases hlt : j < m
    · obtain ⟨adc, x, rfl, hx, hcx⟩ := (hc.below hBr).at_ hlt
      have hxin := HG.out.2.2.2 x (List.mem_of_getElem? hx.out)
      have hrg := runL_ok (tof := tofB front) (n := n) (a := a.take j) (fun y hy => HG.out.2.2.2 y (List.mem_of_mem_take hy))
      rw [hq.out] at hrg
      obtain ⟨m1, m2, hperm⟩ := hrg
      have hjl : (a.take j).length ≤ 40 := by rw [List.length_take]; have := HG.out.1; omega
      have hmul : (n : Int) * ((a.take j).length : Int) ≤ 4 * 40 := Int.mul_le_mul (by omega) (by omega) (by omega) (by omega)
      have hsm : 0 ≤ sm ∧ sm ≤ 160 := ⟨m1, by dsimp only at m2; omega⟩
      have hxm : x ∈ l := hperm.mem_iff.2 (risingI_mem.2 (by omega))
      have hll : l.length = n := by rw [hperm.length_eq, risingI_len]
      have hix := ixI_mem hxm
      have hil := List.idxOf_lt_length_iff.2 hxm
      have hel := List.length_erase_of_mem hxm
      have hcut := erase_cut hxm
      obtain ⟨i, hi⟩ : ∃ i, l.idxOf x = i := ⟨_, rfl⟩
      have hnext : Hid (runL (tofB front) n (a.take (j + 1)) = (sm + ((i : Int) + 1), putL (l.erase x) (tofB front i) x)) := Lib.hid (by rw [take_succ_of hx.out, runL_snoc, hq.out]; simp only [stepL]; rw [hcut, hi]; rfl)
      rw [hi] at hix hil
      rw [hll] at hil hel
      have HEL := Lib.hid hel
      clear m1 m2 hmul hjl hi hxm hperm hll hcut hel
      have hi3 : (i : Int) ≤ 3 := by omega
      have HPL := Lib.hid (rplace_ok A n c l x wk (Row.reads R) (by omega))
      rw [hix] at HPL
      have HRD := Lib.hid (show RI wk.drew A n l from (Row.reads R).drewN 1)
      have hcxd : wk.drew.cell? (adc.add j) = some (.int .i64 x) := hcx
      have hBd : Hid (Below w.heap.size w wk.drew) := Lib.hid (belowN hBr 1)
      obtain ⟨f, hf⟩ : ∃ f, tofB front i = f := ⟨_, rfl⟩
      rw [hf] at hnext
      have hfi : Hid (f ≤ i) := Lib.hid (by
        rw [← hf]
        cases front
        · exact Nat.sub_le i 1
        · exact Nat.zero_le i)
      have hcase : (front = true ∧ f = 0) ∨ (front = false ∧ i = 0 ∧ f = 0) ∨ (front = false ∧ i = f + 1) := by
        cases front
        · have : i - 1 = f := hf
          rcases Nat.eq_zero_or_pos i with h0 | h0
          · exact .inr (.inl ⟨rfl, h0, by omega⟩)
          · exact .inr (.inr ⟨rfl, by omega⟩)
        · exact .inl ⟨rfl, hf.symm⟩
      have HN1 : Hid (n - 1 + 1 = n) := Lib.hid (by omega)
      clear hf hix
      rcases hcase with ⟨rfl, rfl⟩ | ⟨rfl, rfl, rfl⟩ | ⟨rfl, rfl⟩
      · go_wp2_with fail
        refine HPL.out.mono ?_; rintro e w' ⟨rfl, hw⟩
        have hw2 := hw.symm
        subst hw2
        clear hw
        go_wp2
        go_region_law (first
          | (go_simp; go_at_call 69; refine (without_ok _ _ _ _ x _ HRD.out (by omega)).mono ?_; rintro e w3 ⟨A3, m3, c3, rfl, R3, hB3⟩; have hcx3 := (hB3.cell (cell_lt hcxd)).trans hcxd; have hB3w := hBd.out.trans (hB3.mono hBd.out.size); have hb3 := hB3w.size; obtain rfl : m3 = n - 1 := (by have := R3.len; rw [List.length_map] at this; have := HEL.out; omega))
          | (go_simp; go_at_call 68; refine (rput_ok (f := 0) R3 (Nat.zero_le _) (by omega)).mono ?_; rintro e w4 ⟨A4, c4, rfl, R4, hB4⟩))
        all_goals
          rw [HN1.out] at R4
          try rw [HN1.out]
          have R4b := R4.base_down hb3
          have hB4w := hB3w.trans (hB4.mono hb3)
          go_wp2
          go_roundw
          case rel => exact ⟨j + 1, c4, A4, _, _, by omega, rfl, by go_num, by go_num, hnext, R4b, hB4w⟩
          case measure => simp [intOf]; omega
      · go_wp2_with fail
        refine HPL.out.mono ?_; rintro e w' ⟨rfl, hw⟩
        have hw2 := hw.symm
        subst hw2
        clear hw
        go_wp2
        go_region_law (first
          | (go_simp; go_at_call 69; refine (without_ok _ _ _ _ x _ HRD.out (by omega)).mono ?_; rintro e w3 ⟨A3, m3, c3, rfl, R3, hB3⟩; have hcx3 := (hB3.cell (cell_lt hcxd)).trans hcxd; have hB3w := hBd.out.trans (hB3.mono hBd.out.size); have hb3 := hB3w.size; obtain rfl : m3 = n - 1 := (by have := R3.len; rw [List.length_map] at this; have := HEL.out; omega))
          | (go_simp; go_at_call 68; refine (rput_ok (f := 0) R3 (Nat.zero_le _) (by omega)).mono ?_; rintro e w4 ⟨A4, c4, rfl, R4, hB4⟩))
        all_goals
          rw [HN1.out] at R4
          try rw [HN1.out]
          have R4b := R4.base_down hb3
          have hB4w := hB3w.trans (hB4.mono hb3)
          go_wp2
          go_roundw
          case rel => exact ⟨j + 1, c4, A4, _, _, by omega, rfl, by go_num, by go_num, hnext, R4b, hB4w⟩
          case measure => simp [intOf]; omega
      · go_wp2_with fail
        refine HPL.out.mono ?_; rintro e w' ⟨rfl, hw⟩
        have hw2 := hw.symm
        subst hw2
        clear hw
        go_wp2
        go_region_law (first
          | (go_simp; go_at_call 69; refine (without_ok _ _ _ _ x _ HRD.out (by omega)).mono ?_; rintro e w3 ⟨A3, m3, c3, rfl, R3, hB3⟩; have hcx3 := (hB3.cell (cell_lt hcxd)).trans hcxd; have hB3w := hBd.out.trans (hB3.mono hBd.out.size); have hb3 := hB3w.size; obtain rfl : m3 = n - 1 := (by have := R3.len; rw [List.length_map] at this; have := HEL.out; omega))
          | (go_simp; go_at_call 68; refine (rput_ok (f := f) R3 (by have := hfi.out; omega) (by omega)).mono ?_; rintro e w4 ⟨A4, c4, rfl, R4, hB4⟩))
        all_goals
          rw [HN1.out] at R4
          try rw [HN1.out]
          have R4b := R4.base_down hb3
          have hB4w := hB3w.trans (hB4.mono hb3)
          go_wp2
          go_roundw
          case rel => exact ⟨j + 1, c4, A4, _, _, by omega, rfl, by go_num, by go_num, hnext, R4b, hB4w⟩
          case measure => simp [intOf]; omega
    · obtain rfl : j = m := by omega
      have hv := hq.out
      rw [List.take_of_length_le (by rw [HM.out]; omega)] at hv
      go_wp2
      exact bodyPost_ret (v := .tuple #[.int .i64 sm, .slice A n c]) (by simp [results, Tryd.results32, go_sem]) rfl ⟨_, _, by rw [hv], by rw [hv]; exact R, hBr⟩
end Go.Proofs.YtmeamgeojcbljaaDoor
