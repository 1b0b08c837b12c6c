/- The walk of larderwickref1.Near: how far all went, where they are. -/
import Derived.Test.YtmeamgeojcbljaaDoorRefRise
import Derived.Test.YtmeamgeojcbljaaDoorRefServeRun
import Derived.Test.YtmeamgeojcbljaaDoorServeAbs
import Derived.Test.YtmeamgeojcbljaaDoorPush2
import Derived.StillTailTactics
namespace Go.Proofs.YtmeamgeojcbljaaDoor
open Go.ChangeShapes Go.WideShapes Go.ChangeAt Go.RowKit

theorem still_tlN {P : Program} {id : Nat} {Q : Exit → Act → World → Prop} {a : Act} {w : World} {l : List Oper} (n : Nat) (hm : P.follows .mixedOrders = true) (hB : Region.lexTailB .any l.toArray n = true)
    (h : wpStill P l.toArray w.drew (fun a' => wpList P l.toArray Q (l.drop n) a' w.drew) (l.take n) a) : (Code.region id l.toArray true).wp P Q a w := wp_region_still_tail n hm hB h
theorem still_allN {P : Program} {id : Nat} {Q : Exit → Act → World → Prop} {a : Act} {w : World} {l : List Oper} (hm : P.follows .mixedOrders = true) (hB : Region.lexB .any l.toArray = true)
    (h : wpStill P l.toArray w.drew (fun a' => Q .normal a' w.drew) l a) : (Code.region id l.toArray true).wp P Q a w := wp_region_still_lit hm hB h
theorem row_drew {w : World} {base : Nat} {e : TypeId} {v : Value} {n : Nat} {xs : List Value} (h : Row w base e v n xs) : Row w.drew base e v n xs := h
theorem ri_drew {w : World} {A : Option Addr} {n : Nat} {l : List Int} (h : RI w A n l) : RI w.drew A n l := h

set_option maxRecDepth 100000 in
set_option maxHeartbeats 4000000 in
theorem rnear_ok (A Ac : Option Addr) (n c m cc : Nat) (s a : List Int) (w : World) (h : RI w A n s) (hc : RI w Ac m a) (hg : GoodS s a) :
    Calls Tryd.prog 40 #[.slice A n c, .slice Ac m cc] w fun e w' => ∃ A' c', e = .returned (.tuple #[.int .i64 (runS nstep s a).1, .slice A' n c']) ∧
      Row w' w.heap.size 3 (.slice A' n c') n ((runS nstep s a).2.map (Value.int .i64)) ∧ Below w.heap.size w w' := by
  have HL := Lib.hid h.len
  have HM := Lib.hid hc.len
  have hn3 : n ≤ 3 := by have := h.len; have := hg.2.1; omega
  have hm20 : m ≤ 20 := by have := hc.len; have := hg.2.2.1; omega
  have hn0 : 0 < n := by have := h.len; have := List.length_pos_iff.2 hg.1; omega
  have HON := Lib.hid (show onL n s from ⟨h.len, hg.2.2.2.1⟩)
  have HAI := Lib.hid (show AllIn a 0 12 from hg.2.2.2.2)
  have HRI := Lib.hid (fun k => runS_in' (f := nstep) (n := n) (fun s x h1 h2 => nstep_in h1 h2) HON.out (a.take k) (fun x hx => HAI.out x (List.mem_of_mem_take hx)))
  clear hg
  go_enter Tryd.func40, Tryd.ntmps40
  go_wp2_with fail
  refine (rising_ok _ _ _ _ _ h (by omega)).mono ?_; rintro e w1 ⟨A1, n1, c1, rfl, R1, hB1⟩
  obtain rfl : n1 = n := by have := R1.len; rw [List.length_map, sortI_len, HL.out] at this; omega
  go_wp2
  go_loopw [6, 7, 8] (fun v6 v7 i wr => ∃ (j c6 : Nat) (A6 : Option Addr) (sm : Int) (q : List Int), j ≤ m ∧ i = .int .i64 j ∧ v7 = .int .i64 sm ∧ v6 = .slice A6 n1 c6 ∧ Hid (runS nstep s (a.take j) = (sm, q)) ∧ Row wr w.heap.size 3 v6 n1 (q.map (Value.int .i64)) ∧ Below w.heap.size w wr) (fun _ _ i _ => m - (intOf i).toNat)
  case atStart => exact ⟨0, c1, A1, 0, sortI s, by omega, by go_num, by go_num, rfl, Lib.hid rfl, R1, hB1⟩
  case round =>
    clear R1 hB1
    obtain ⟨W1, hW1⟩ : ∃ W1, W1 = wr := ⟨_, rfl⟩
    subst hW1
    obtain ⟨j, c6, A6, sm, q, hj, rfl, rfl, rfl, HF, R6, hB⟩ := hrel
    have hbs := hB.size
    have HQ := Lib.hid (HRI.out j)
    rw [HF.out] at HQ
    have HQL : Hid (q.length = n1) := Lib.hid HQ.out.2.2.1
    have hsm : 0 ≤ sm ∧ sm ≤ 240 := by
      have h1 := HQ.out.1; have h2 := HQ.out.2.1
      have h1 : 0 ≤ sm := h1
      have h2 : sm ≤ 12 * (a.take j).length := h2
      rw [List.length_take] at h2
      exact ⟨h1, by omega⟩
    by_cases hlt : j < m
    · obtain ⟨adc, x, rfl, HX, hcx⟩ := (hc.below hB).at_ hlt
      have hxb := HAI.out x (mem_of_at HX.out)
      have hne : q ≠ [] := fun e => by have := HQL.out; rw [e] at this; simp at this; omega
      have HNE := Lib.hid hne
      clear hne
      obtain ⟨ad6, q0, rfl, HQ0, hq0⟩ := (Row.reads R6).at_ hn0
      rw [show ad6.add 0 = ad6 from by simp [Addr.add]] at hq0
      have hq0b := HQ.out.2.2.2 q0 (mem_of_at HQ0.out)
      have HZ0 : Hid (q0 = q.getD (bestI q x 0) 0) := Lib.hid (getD_at HQ0.out).symm
      have RI6 := Row.reads R6
      go_wp2
      go_loopw [9, 10] (fun v9 ii wk => ∃ (k : Nat) (z : Int), k ≤ n1 ∧ ii = .int .i64 k ∧ v9 = .int .i64 z ∧ Hid (z = q.getD (bestI q x k) 0) ∧ 0 ≤ z ∧ z ≤ 12 ∧ Below W1.heap.size W1 wk) (fun _ ii _ => n1 - (intOf ii).toNat)
      case atStart => exact ⟨0, q0, by omega, by go_num, rfl, HZ0, hq0b.1, hq0b.2, Below.refl _ _⟩
      case round =>
        clear hq0 hcx
        obtain ⟨wk, hwk⟩ : ∃ wk, wk = wr := ⟨_, rfl⟩
        subst hwk
        obtain ⟨k, z, hk, rfl, rfl, HZ, hz1, hz2, hBk⟩ := hrel
        have hBw : Below w.heap.size w wk := hB.trans (hBk.mono hbs)
        obtain ⟨adc', x', hadc, HX', hcx⟩ := (hc.below hBw).at_ hlt
        obtain rfl : adc = adc' := by injection hadc
        obtain rfl : x' = x := by have := HX'.out.symm.trans HX.out; injection this
        clear hadc
        by_cases hkn : k < n1
        · obtain ⟨ad6', y, had, HY, hcy⟩ := (RI6.below hBk).at_ hkn
          obtain rfl : ad6 = ad6' := by injection had
          have hyb := HQ.out.2.2.2 y (mem_of_at HY.out)
          have HB1 : Hid (bestI q x' (k + 1) = if absI y x' < absI z x' then k else bestI q x' k) := Lib.hid (by
            show (if absI (q.getD k 0) x' < absI (q.getD (bestI q x' k) 0) x' then k else bestI q x' k) = _
            rw [getD_at HY.out, ← HZ.out])
          have HA1 := Lib.hid (rabs_ok y x' wk.drew hyb hxb)
          have HA2 := Lib.hid (rabs_ok z x' wk.drew ⟨hz1, hz2⟩ hxb)
          obtain ⟨a1, ha1⟩ : ∃ a1, absI y x' = a1 := ⟨_, rfl⟩
          obtain ⟨a2, ha2⟩ : ∃ a2, absI z x' = a2 := ⟨_, rfl⟩
          rw [ha1, ha2] at HB1
          rw [ha1] at HA1
          rw [ha2] at HA2
          clear had ha1 ha2
          have e0 : (0 : Int) ≤ (k : Int) := by omega
          have e1 : (k : Int) < (n1 : Int) := by omega
          have e2 : (0 : Int) ≤ (j : Int) := by omega
          have e3 : (j : Int) < (m : Int) := by omega
          go_wp2
          refine still_allN (by kernel_rfl) (by kernel_rfl) ?_
          repeat still_step
          still_call HA1.out
          repeat still_step
          still_call HA2.out
          repeat still_step
          refine wpStill_nil ?_
          by_cases hlt2 : a1 < a2
          · have HZ' : Hid (y = q.getD (bestI q x' (k + 1)) 0) := Lib.hid (by rw [HB1.out, if_pos hlt2, getD_at HY.out])
            go_wp2
            go_roundw
            case rel => exact ⟨k + 1, y, by omega, by go_num, rfl, HZ', hyb.1, hyb.2, belowN hBk 1⟩
            case measure => simp [intOf]; omega
          · have HZ' : Hid (z = q.getD (bestI q x' (k + 1)) 0) := Lib.hid (by rw [HB1.out, if_neg hlt2]; exact HZ.out)
            go_wp2
            go_roundw
            case rel => exact ⟨k + 1, z, by omega, by go_num, rfl, HZ', hz1, hz2, belowN hBk 1⟩
            case measure => simp [intOf]; omega
        · obtain rfl : k = n1 := by omega
          have HST : Hid (runS nstep s (a.take (j + 1)) = (sm + absI z x', sortI (q.erase z ++ [x']))) := Lib.hid (by
            rw [take_succ_of HX.out, runS_snoc, HF.out]
            show (sm + (nstep q x').1, sortI (nstep q x').2) = _
            rw [← near_sort HNE.out, HQL.out, ← HZ.out]
            show (sm + absI (q.getD (bestI q x' q.length) 0) x', _) = _
            rw [HQL.out, ← HZ.out])
          have HZM : Hid (z ∈ q) := Lib.hid (by rw [HZ.out]; exact getD_memK (bestI_lt q x' HNE.out k (by rw [HQL.out]; omega)))
          have hab : 0 ≤ absI z x' ∧ absI z x' ≤ 12 := absI_in ⟨hz1, hz2⟩ hxb
          have HEL : Hid ((q.erase z).length + 1 = k) := Lib.hid (by rw [List.length_erase_of_mem HZM.out, HQL.out]; omega)
          have HABS := Lib.hid (rabs_ok z x' wk ⟨hz1, hz2⟩ hxb)
          obtain ⟨ab, hab2⟩ : ∃ ab, absI z x' = ab := ⟨_, rfl⟩
          rw [hab2] at HST HABS hab
          have R6k := R6.below hBk
          have HRK := Lib.hid (Row.reads R6k)
          clear hab2
          go_wp2_with fail
          refine HABS.out.mono ?_; rintro e w' ⟨rfl, hw⟩
          have hw2 := hw.symm
          subst hw2
          clear hw
          have HRD := Lib.hid (ri_drew HRK.out)
          have hcxd : wk.drew.cell? (adc.add j) = some (.int .i64 x') := hcx
          go_wp2
          have hbw := hBw.size
          have HRA := Lib.hid (ri_drew (HRK.out.below ((Below.refl wk.heap.size wk).alloc (Nat.le_refl _) (.cells #[.int .i64 x'] 3))))
          have hBA : Hid (Below w.heap.size w (wk.alloc (.cells #[.int .i64 x'] 3)).drew) := Lib.hid (belowN (hBw.alloc hbw (.cells #[.int .i64 x'] 3)) 1)
          have hcA : Hid ((wk.alloc (.cells #[.int .i64 x'] 3)).drew.cell? ⟨wk.heap.size, 0, none⟩ = some (.int .i64 x')) := Lib.hid (cell_new wk #[.int .i64 x'] 3 0)
          go_region_law (first
            | (go_simp; go_at_call 69; refine (without_ok _ _ _ _ z _ HRD.out (by omega)).mono ?_; rintro e w3 ⟨A3, m3, c3, rfl, R3, hB3⟩; have hcx3 := (hB3.cell (cell_lt hcxd)).trans hcxd; have R3b := R3.base_down (show w.heap.size ≤ wk.drew.heap.size from hBw.size); have hm3 : Hid (m3 + 1 = k) := Lib.hid (by have := R3.len; rw [List.length_map] at this; have := HEL.out; omega); have hm3b : m3 ≤ 3 := (by have := hm3.out; omega); have hBd : Below w.heap.size w wk.drew := belowN hBw 1; have hB3w := hBd.trans (hB3.mono hBd.size); have hb3 := hB3w.size)
            | (go_simp; go_at_call 69; refine (without_ok _ _ _ _ z _ HRA.out (by omega)).mono ?_; rintro e w3 ⟨A3, m3, c3, rfl, R3, hB3⟩; have hcb3 := (hB3.cell (cell_lt hcA.out)).trans hcA.out; have R3b := R3.base_down hBA.out.size; have hm3 : Hid (m3 + 1 = k) := Lib.hid (by have := R3.len; rw [List.length_map] at this; have := HEL.out; omega); have hm3b : m3 ≤ 3 := (by have := hm3.out; omega); have hB3w := hBA.out.trans (hB3.mono hBA.out.size); have hb3 := hB3w.size)
            | (refine step_push2N _ rfl (.tmp 58) (.tmp 63) _ rfl w.heap.size 3 _ _ Tryd.underlying22 infoI rfl (by decide) _ _ _ _ rfl (World.ownsRow.alloc R3b _) _ x' rfl (by refine (World.cell?_alloc_at _ _ _ _ ?_).trans ?_ <;> first | rfl | (simp; done)) (by omega) (by simp; omega) ?_; intro g4 c4 w4 R4 gr4 far4; have R4' : Row w4 w.heap.size 3 (.slice (some ⟨g4, 0, none⟩) (m3 + 1) c4) (m3 + 1) ((q.erase z ++ [x']).map (Value.int .i64)) := (by rw [List.map_append]; exact R4); have hB4 := (hB3w.alloc hb3 (.cells #[.int .i64 x'] 3)).grown gr4 (by simp; omega) (fun b hb => (R3b.lt b hb).1); have hb4 := hB4.size)
            | (refine step_push2N _ rfl (.tmp 58) (.tmp 63) _ rfl w.heap.size 3 _ _ Tryd.underlying22 infoI rfl (by decide) _ _ _ _ rfl R3b _ x' rfl hcb3 (by omega) hb3 ?_; intro g4 c4 w4 R4 gr4 far4; have R4' : Row w4 w.heap.size 3 (.slice (some ⟨g4, 0, none⟩) (m3 + 1) c4) (m3 + 1) ((q.erase z ++ [x']).map (Value.int .i64)) := (by rw [List.map_append]; exact R4); have hB4 := hB3w.grown gr4 hb3 (fun b hb => (R3b.lt b hb).1); have hb4 := hB4.size)
            | (go_simp; go_at_call 56; refine (rising_ok _ _ _ _ _ (Row.reads R4') (by omega)).mono ?_; rintro e w5 ⟨A5, m5, c5, rfl, R5, hB5⟩))
          all_goals
            obtain rfl : m5 = k := by have := R5.len; rw [List.length_map, sortI_len, List.length_append, List.length_singleton] at this; have := HEL.out; omega
            have R5b := R5.base_down hb4
            have hB5w := hB4.trans (hB5.mono hb4)
            go_wp2
            go_roundw
            case rel => exact ⟨j + 1, c5, A5, sm + ab, _, by omega, by go_num, rfl, rfl, HST, R5b, hB5w⟩
            case measure => simp [intOf]; omega
    · obtain rfl : j = m := by omega
      have HE : Hid (runS nstep s a = (sm, q)) := Lib.hid (by have := HF.out; rwa [List.take_of_length_le (by rw [HM.out]; omega)] at this)
      go_wp2
      exact bodyPost_ret (v := .tuple #[.int .i64 sm, .slice A6 n1 c6]) (by simp [results, Tryd.results40, go_sem]) rfl ⟨A6, c6, by rw [HE.out], by rw [HE.out]; exact R6, hB⟩
end Go.Proofs.YtmeamgeojcbljaaDoor
