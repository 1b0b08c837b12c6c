/- The walks of lists.run, Front, Swap. -/
import Derived.Test.YtmeamgeojcbljaaDoorListRun
namespace Go.Proofs.YtmeamgeojcbljaaDoor
open Go.ChangeShapes Go.WideShapes Go.ChangeAt Go.RowKit

theorem lrun_no (n : Int) (Ac : Option Addr) (m cc : Nat) (a : List Int) (f : Value) (w : World) (hc : RI w Ac m a) (hm : m ≤ 9223372036854775807) (hg : ¬ GoodT n a) :
    Calls Tryd.prog 73 #[.int .i64 n, .slice Ac m cc, f] w fun e w' => e = .returned (.tuple #[.int .i64 0, .slice none 0 0, .iface 65 (.int .i64 (listE n a))]) ∧ w = w' := by
  have HG := Lib.hid hg
  clear hg
  go_enter Tryd.func73, Tryd.ntmps73
  go_wp2_with fail
  refine (lcheck_no _ _ _ _ _ _ hc hm HG.out).mono ?_; rintro e w' ⟨rfl, rfl⟩
  go_wp2
  exact bodyPost_ret (v := .tuple #[.int .i64 0, .slice none 0 0, .iface 65 (.int .i64 (listE n a))]) (by simp [results, Tryd.results73, go_sem]) rfl ⟨rfl, rfl⟩

set_option maxRecDepth 100000 in
set_option maxHeartbeats 2000000 in
theorem lrunF_ok (n : Nat) (Ac : Option Addr) (m cc : Nat) (a : List Int) (w : World) (hc : RI w Ac m a) (hg : GoodT n a) :
    Calls Tryd.prog 73 #[.int .i64 n, .slice Ac m cc, .func (.func 74) #[] #[]] w fun e w' => ∃ A c, e = .returned (.tuple #[.int .i64 (runL toF n a).1, .slice A n c, .nilIface]) ∧
      Row w' w.heap.size 3 (.slice A n c) n ((runL toF n a).2.map (Value.int .i64)) ∧ Below w.heap.size w w' := by
  have HG := Lib.hid hg
  have HM := Lib.hid hc.len
  have hn1 : 1 ≤ n := by have := hg.2.1; omega
  have hn4 : n ≤ 4 := by have := hg.2.2.1; omega
  have hm40 : m ≤ 40 := by have := hc.len; have := hg.1; omega
  clear hg
  go_enter Tryd.func73, Tryd.ntmps73
  go_wp2_with fail
  refine (lcheck_ok _ _ _ _ _ _ hc HG.out).mono ?_; rintro e w' ⟨rfl, rfl⟩
  go_wp2_with fail
  refine (lrising_ok n w (by omega)).mono ?_; rintro e w1 ⟨A1, c1, rfl, R1, hB1⟩
  obtain ⟨g, rfl, hgb⟩ : ∃ g, A1 = some ⟨g, 0, none⟩ ∧ w.heap.size ≤ g := by
    rcases R1.2 with ⟨e, _⟩ | ⟨g, cap, cur, e, hb, hh, _⟩
    · cases e; omega
    · cases e; exact ⟨g, rfl, hb⟩
  have hnc : n ≤ c1 := by obtain ⟨A0, c0, hv0, h0, _⟩ := R1.form; cases hv0; exact h0
  go_wp2
  go_loopw [10, 11, 25] (fun v10 v11 i wr => ∃ (j : Nat) (sm : Int) (l : List Int), j ≤ m ∧ v10 = .slice (some ⟨g, 0, none⟩) n c1 ∧ v11 = .int .i64 sm ∧ i = .int .i64 j ∧ Hid (runL toF n (a.take j) = (sm, l)) ∧ Row wr w.heap.size 3 (.slice (some ⟨g, 0, none⟩) n c1) n (l.map (Value.int .i64)) ∧ Below w.heap.size w wr) (fun _ _ i _ => m - (intOf i).toNat)
  case atStart => exact ⟨0, 0, risingI n, by omega, rfl, by go_num, by go_num, Lib.hid rfl, R1, hB1⟩
  case round =>
    obtain ⟨j, sm, l, hj, rfl, rfl, rfl, hq, R, hBr⟩ := hrel
    have hrs := hBr.size
    by_cases hlt : j < m
    · obtain ⟨adc, x, rfl, hx, hcx⟩ := (hc.below hBr).at_ hlt
      have hxin := HG.out.2.2.2 x (List.mem_of_getElem? hx.out)
      have hrg := runL_ok (tof := toF) (n := n) (a := a.take j) (fun y hy => HG.out.2.2.2 y (List.mem_of_mem_take hy))
      rw [hq.out] at hrg
      obtain ⟨m1, m2, hperm⟩ := hrg
      have hjl : (a.take j).length ≤ 40 := by rw [List.length_take]; have := HG.out.1; omega
      have hmul : (n : Int) * ((a.take j).length : Int) ≤ 4 * 40 := Int.mul_le_mul (by omega) (by omega) (by omega) (by omega)
      have hsm : 0 ≤ sm ∧ sm ≤ 160 := ⟨m1, by dsimp only at m2; omega⟩
      have hxm : x ∈ l := hperm.mem_iff.2 (risingI_mem.2 (by omega))
      have hll : l.length = n := by rw [hperm.length_eq, risingI_len]
      have hix := ixI_mem hxm
      have hil := List.idxOf_lt_length_iff.2 hxm
      obtain ⟨i, hi⟩ : ∃ i, l.idxOf x = i := ⟨_, rfl⟩
      have hnext : Hid (runL toF n (a.take (j + 1)) = (sm + ((i : Int) + 1), moveL l i (toF i) x)) := Lib.hid (by rw [take_succ_of hx.out, runL_snoc, hq.out]; simp only [stepL]; rw [hi])
      rw [hi] at hix hil
      rw [hll] at hil
      obtain ⟨n1, hn1'⟩ : ∃ n1, n - 1 = n1 := ⟨_, rfl⟩
      have HN1 := Lib.hid hn1'
      have hto : Hid (toF i ≤ n1) := Lib.hid (by unfold toF; omega)
      clear m1 m2 hmul hjl hi hxm hperm hn1'
      have hi3 : (i : Int) ≤ 3 := by omega
      go_wp2_with fail
      refine (index_any _ _ _ _ _ _ (Row.reads R) (by omega)).mono ?_; rintro e w' ⟨rfl, rfl⟩
      rw [hix]
      go_wp2_with fail
      refine (delete_at w.heap.size g n c1 l i _ R hil).mono ?_; rintro e w2 ⟨rfl, R2, g2⟩
      have hB2 := hBr.grown g2 hrs (fun b hb => by cases hb; exact hgb)
      rw [HN1.out] at R2 ⊢
      go_wp2_with fail
      refine (frontC_ok i _ (by omega)).mono ?_; rintro e w' ⟨rfl, rfl⟩
      go_wp2_with fail
      refine (insert_room w.heap.size g n1 c1 (cutL l i) (toF i) x _ R2 hto.out (by have := HN1.out; omega)).mono ?_; rintro e w3 ⟨rfl, R3, g3⟩
      rw [show n1 + 1 = n by have := HN1.out; omega] at R3 ⊢
      have hB3 := hB2.grown g3 hB2.size (fun b hb => by cases hb; exact hgb)
      go_wp2
      go_roundw
      case rel => exact ⟨j + 1, _, _, by omega, rfl, by go_num, by go_num, hnext, R3, hB3⟩
      case measure => simp [intOf]; omega
    · obtain rfl : j = m := by omega
      have hv := hq.out
      rw [List.take_of_length_le (by rw [HM.out]; omega)] at hv
      go_wp2
      exact bodyPost_ret (v := .tuple #[.int .i64 sm, .slice (some ⟨g, 0, none⟩) n c1, .nilIface]) (by simp [results, Tryd.results73, go_sem]) rfl ⟨_, _, by rw [hv], by rw [hv]; exact R, hBr⟩
theorem lfront_ok (n : Nat) (Ac : Option Addr) (m cc : Nat) (a : List Int) (w : World) (hc : RI w Ac m a) (hg : GoodT n a) :
    Calls Tryd.prog 34 #[.int .i64 n, .slice Ac m cc] w fun e w' => ∃ A c, e = .returned (.tuple #[.int .i64 (runL toF n a).1, .slice A n c, .nilIface]) ∧
      Row w' w.heap.size 3 (.slice A n c) n ((runL toF n a).2.map (Value.int .i64)) ∧ Below w.heap.size w w' := by
  have HG := Lib.hid hg
  clear hg
  go_enter Tryd.func34, Tryd.ntmps34
  go_wp2_with fail
  refine (lrunF_ok n Ac m cc a w hc HG.out).mono ?_; rintro e w' ⟨A, c, rfl, hr, hb⟩
  go_wp2
  exact bodyPost_ret (v := .tuple #[.int .i64 (runL toF n a).1, .slice A n c, .nilIface]) (by simp [results, Tryd.results34, go_sem]) rfl ⟨A, c, rfl, hr, hb⟩
theorem lfront_no (n : Int) (Ac : Option Addr) (m cc : Nat) (a : List Int) (w : World) (hc : RI w Ac m a) (hm : m ≤ 9223372036854775807) (hg : ¬ GoodT n a) :
    Calls Tryd.prog 34 #[.int .i64 n, .slice Ac m cc] w fun e w' => e = .returned (.tuple #[.int .i64 0, .slice none 0 0, .iface 65 (.int .i64 (listE n a))]) ∧ w = w' := by
  have HG := Lib.hid hg
  clear hg
  go_enter Tryd.func34, Tryd.ntmps34
  go_wp2_with fail
  refine (lrun_no n Ac m cc a (.func (.func 74) #[] #[]) w hc hm HG.out).mono ?_; rintro e w' ⟨rfl, rfl⟩
  go_wp2
  exact bodyPost_ret (v := .tuple #[.int .i64 0, .slice none 0 0, .iface 65 (.int .i64 (listE n a))]) (by simp [results, Tryd.results34, go_sem]) rfl ⟨rfl, rfl⟩

set_option maxRecDepth 100000 in
set_option maxHeartbeats 2000000 in
theorem lrunS_ok (n : Nat) (Ac : Option Addr) (m cc : Nat) (a : List Int) (w : World) (hc : RI w Ac m a) (hg : GoodT n a) :
    Calls Tryd.prog 73 #[.int .i64 n, .slice Ac m cc, .func (.func 75) #[] #[]] w fun e w' => ∃ A c, e = .returned (.tuple #[.int .i64 (runL toS n a).1, .slice A n c, .nilIface]) ∧
      Row w' w.heap.size 3 (.slice A n c) n ((runL toS n a).2.map (Value.int .i64)) ∧ Below w.heap.size w w' := by
  have HG := Lib.hid hg
  have HM := Lib.hid hc.len
  have hn1 : 1 ≤ n := by have := hg.2.1; omega
  have hn4 : n ≤ 4 := by have := hg.2.2.1; omega
  have hm40 : m ≤ 40 := by have := hc.len; have := hg.1; omega
  clear hg
  go_enter Tryd.func73, Tryd.ntmps73
  go_wp2_with fail
  refine (lcheck_ok _ _ _ _ _ _ hc HG.out).mono ?_; rintro e w' ⟨rfl, rfl⟩
  go_wp2_with fail
  refine (lrising_ok n w (by omega)).mono ?_; rintro e w1 ⟨A1, c1, rfl, R1, hB1⟩
  obtain ⟨g, rfl, hgb⟩ : ∃ g, A1 = some ⟨g, 0, none⟩ ∧ w.heap.size ≤ g := by
    rcases R1.2 with ⟨e, _⟩ | ⟨g, cap, cur, e, hb, hh, _⟩
    · cases e; omega
    · cases e; exact ⟨g, rfl, hb⟩
  have hnc : n ≤ c1 := by obtain ⟨A0, c0, hv0, h0, _⟩ := R1.form; cases hv0; exact h0
  go_wp2
  go_loopw [10, 11, 25] (fun v10 v11 i wr => ∃ (j : Nat) (sm : Int) (l : List Int), j ≤ m ∧ v10 = .slice (some ⟨g, 0, none⟩) n c1 ∧ v11 = .int .i64 sm ∧ i = .int .i64 j ∧ Hid (runL toS n (a.take j) = (sm, l)) ∧ Row wr w.heap.size 3 (.slice (some ⟨g, 0, none⟩) n c1) n (l.map (Value.int .i64)) ∧ Below w.heap.size w wr) (fun _ _ i _ => m - (intOf i).toNat)
  case atStart => exact ⟨0, 0, risingI n, by omega, rfl, by go_num, by go_num, Lib.hid rfl, R1, hB1⟩
  case round =>
    obtain ⟨j, sm, l, hj, rfl, rfl, rfl, hq, R, hBr⟩ := hrel
    have hrs := hBr.size
    by_cases hlt : j < m
    · obtain ⟨adc, x, rfl, hx, hcx⟩ := (hc.below hBr).at_ hlt
      have hxin := HG.out.2.2.2 x (List.mem_of_getElem? hx.out)
      have hrg := runL_ok (tof := toS) (n := n) (a := a.take j) (fun y hy => HG.out.2.2.2 y (List.mem_of_mem_take hy))
      rw [hq.out] at hrg
      obtain ⟨m1, m2, hperm⟩ := hrg
      have hjl : (a.take j).length ≤ 40 := by rw [List.length_take]; have := HG.out.1; omega
      have hmul : (n : Int) * ((a.take j).length : Int) ≤ 4 * 40 := Int.mul_le_mul (by omega) (by omega) (by omega) (by omega)
      have hsm : 0 ≤ sm ∧ sm ≤ 160 := ⟨m1, by dsimp only at m2; omega⟩
      have hxm : x ∈ l := hperm.mem_iff.2 (risingI_mem.2 (by omega))
      have hll : l.length = n := by rw [hperm.length_eq, risingI_len]
      have hix := ixI_mem hxm
      have hil := List.idxOf_lt_length_iff.2 hxm
      obtain ⟨i, hi⟩ : ∃ i, l.idxOf x = i := ⟨_, rfl⟩
      have hnext : Hid (runL toS n (a.take (j + 1)) = (sm + ((i : Int) + 1), moveL l i (toS i) x)) := Lib.hid (by rw [take_succ_of hx.out, runL_snoc, hq.out]; simp only [stepL]; rw [hi])
      rw [hi] at hix hil
      rw [hll] at hil
      obtain ⟨n1, hn1'⟩ : ∃ n1, n - 1 = n1 := ⟨_, rfl⟩
      have HN1 := Lib.hid hn1'
      have hto : Hid (toS i ≤ n1) := Lib.hid (by unfold toS; omega)
      clear m1 m2 hmul hjl hi hxm hperm hn1'
      have hi3 : (i : Int) ≤ 3 := by omega
      go_wp2_with fail
      refine (index_any _ _ _ _ _ _ (Row.reads R) (by omega)).mono ?_; rintro e w' ⟨rfl, rfl⟩
      rw [hix]
      go_wp2_with fail
      refine (delete_at w.heap.size g n c1 l i _ R hil).mono ?_; rintro e w2 ⟨rfl, R2, g2⟩
      have hB2 := hBr.grown g2 hrs (fun b hb => by cases hb; exact hgb)
      rw [HN1.out] at R2 ⊢
      go_wp2_with fail
      refine (swapC_ok i _ (by omega)).mono ?_; rintro e w' ⟨rfl, rfl⟩
      go_wp2_with fail
      refine (insert_room w.heap.size g n1 c1 (cutL l i) (toS i) x _ R2 hto.out (by have := HN1.out; omega)).mono ?_; rintro e w3 ⟨rfl, R3, g3⟩
      rw [show n1 + 1 = n by have := HN1.out; omega] at R3 ⊢
      have hB3 := hB2.grown g3 hB2.size (fun b hb => by cases hb; exact hgb)
      go_wp2
      go_roundw
      case rel => exact ⟨j + 1, _, _, by omega, rfl, by go_num, by go_num, hnext, R3, hB3⟩
      case measure => simp [intOf]; omega
    · obtain rfl : j = m := by omega
      have hv := hq.out
      rw [List.take_of_length_le (by rw [HM.out]; omega)] at hv
      go_wp2
      exact bodyPost_ret (v := .tuple #[.int .i64 sm, .slice (some ⟨g, 0, none⟩) n c1, .nilIface]) (by simp [results, Tryd.results73, go_sem]) rfl ⟨_, _, by rw [hv], by rw [hv]; exact R, hBr⟩
theorem lswap_ok (n : Nat) (Ac : Option Addr) (m cc : Nat) (a : List Int) (w : World) (hc : RI w Ac m a) (hg : GoodT n a) :
    Calls Tryd.prog 35 #[.int .i64 n, .slice Ac m cc] w fun e w' => ∃ A c, e = .returned (.tuple #[.int .i64 (runL toS n a).1, .slice A n c, .nilIface]) ∧
      Row w' w.heap.size 3 (.slice A n c) n ((runL toS n a).2.map (Value.int .i64)) ∧ Below w.heap.size w w' := by
  have HG := Lib.hid hg
  clear hg
  go_enter Tryd.func35, Tryd.ntmps35
  go_wp2_with fail
  refine (lrunS_ok n Ac m cc a w hc HG.out).mono ?_; rintro e w' ⟨A, c, rfl, hr, hb⟩
  go_wp2
  exact bodyPost_ret (v := .tuple #[.int .i64 (runL toS n a).1, .slice A n c, .nilIface]) (by simp [results, Tryd.results35, go_sem]) rfl ⟨A, c, rfl, hr, hb⟩
theorem lswap_no (n : Int) (Ac : Option Addr) (m cc : Nat) (a : List Int) (w : World) (hc : RI w Ac m a) (hm : m ≤ 9223372036854775807) (hg : ¬ GoodT n a) :
    Calls Tryd.prog 35 #[.int .i64 n, .slice Ac m cc] w fun e w' => e = .returned (.tuple #[.int .i64 0, .slice none 0 0, .iface 65 (.int .i64 (listE n a))]) ∧ w = w' := by
  have HG := Lib.hid hg
  clear hg
  go_enter Tryd.func35, Tryd.ntmps35
  go_wp2_with fail
  refine (lrun_no n Ac m cc a (.func (.func 75) #[] #[]) w hc hm HG.out).mono ?_; rintro e w' ⟨rfl, rfl⟩
  go_wp2
  exact bodyPost_ret (v := .tuple #[.int .i64 0, .slice none 0 0, .iface 65 (.int .i64 (listE n a))]) (by simp [results, Tryd.results35, go_sem]) rfl ⟨rfl, rfl⟩
end Go.Proofs.YtmeamgeojcbljaaDoor
