/- The walk of lists.Least: it tells the least that all looking could cost. -/
import Derived.Test.YtmeamgeojcbljaaDoorSpread
import Derived.Test.YtmeamgeojcbljaaDoorListPaths
import Derived.StillTailTactics
import Derived.Deep.RegionHeld3
import Derived.Lib.AppendZerosOnto
import Derived.Lib.SliceRun
namespace Go.Proofs.YtmeamgeojcbljaaDoor
open Go.RowKit Go.Maps Go.ChangeAt Go.ChangeShapes Go.WideShapes Go.Shelf

theorem lleast_no (n : Int) (Ac : Option Addr) (m cc : Nat) (a : List Int) (w : World) (hc : RI w Ac m a) (hm : m ≤ 9223372036854775807) (hg : ¬ GoodT n a) :
    Calls Tryd.prog 36 #[.int .i64 n, .slice Ac m cc] w fun e w' => e = .returned (.tuple #[.int .i64 0, .iface 65 (.int .i64 (listE n a))]) ∧ Below w.heap.size w w' := by
  have HG := Lib.hid hg
  have hB := (Below.refl w.heap.size w).alloc (Nat.le_refl _) (.cells #[.int .i64 n] 3)
  have hc1 := hc.below hB
  clear hg
  go_enter Tryd.func36, Tryd.ntmps36
  go_wp2_with fail
  refine (lcheck_no _ _ _ _ _ _ hc1 hm HG.out).mono ?_; rintro e w' ⟨rfl, rfl⟩
  go_wp2
  exact bodyPost_ret (v := .tuple #[.int .i64 0, .iface 65 (.int .i64 (listE n a))]) (by simp [results, Tryd.results36, go_sem]) rfl ⟨rfl, hB⟩

theorem zeros_list (k : Nat) : (Builtin.zeroCells (Value.int .i64 0).cells k).toList = (List.replicate k (0 : Int)).map (Value.int .i64) := by
  rw [List.map_replicate]
  show (Builtin.zeroCells #[Value.int .i64 0] k).toList = _
  simp [Builtin.zeroCells]
  apply List.ext_getElem
  · simp
  · intro i h1 h2
    simp [Nat.mod_one]
set_option maxHeartbeats 1000000 in
/-- append(l, make([]int, k)...). -/
theorem run_zerosI (w : World) (ty : TypeId) (base g n c : Nat) (xs : List Int) (h : Row w base 3 (.slice (some ⟨g, 0, none⟩) n c) n (xs.map (Value.int .i64))) (k : Nat) (hk : k ≤ 1000) (hn : n ≤ 1000) (hb : base ≤ w.heap.size) :
    ∃ g' c' w', (Builtin.append_ #[22, 3] ty #[.slice (some ⟨g, 0, none⟩) n c, .int .i64 k]).run Tryd.prog w = .ok (.slice (some ⟨g', 0, none⟩) (n + k) c') w' ∧
      Row w' base 3 (.slice (some ⟨g', 0, none⟩) (n + k) c') (n + k) ((xs ++ List.replicate k 0).map (Value.int .i64)) ∧ w.grownBy w' (some g) := by
  have hi0 : (Tryd.prog.info? 3).map (fun i => (i.zero, i.size, i.bytes)) = some (some (.int .i64 0), 1, 8) := by kernel_rfl
  obtain ⟨i, hi, hz, hsz, hby⟩ := info_parts hi0
  have ht : Tryd.prog.underlying 22 = some (.slice 3) := Tryd.underlying22
  have htn : Tryd.prog.underlying 3 = some (.int .i64) := Tryd.underlying3
  have hlen : xs.length = n := by have := h.len; simpa using this
  rcases h.2 with ⟨e, _⟩ | ⟨g1, cap, cur, e, hbg, hg, hnc, hcm, hcs, htk⟩
  · cases e
  · injection e with e1 e2 e3
    injection e1 with e1
    injection e1 with e1
    subst e1 e3
    rw [Nat.mul_one] at hcs htk
    by_cases hroom : n + k ≤ c
    · have hvl : ((List.replicate k (0 : Int)).map (Value.int .i64)).length = k := by simp
      have hst := run_storeCells_cells (P := Tryd.prog) g n ((List.replicate k (0 : Int)).map (Value.int .i64)) 0 w
        (fun j hj => by rw [hvl] at hj; simp only [Nat.add_zero]; rw [cell_of_row w g (n + j) cur _ _ hg, Array.getElem?_eq_getElem (by omega)]; rfl)
        (fun j hj => by simp [World.frozen?, hg])
        (fun v hv => by obtain ⟨y, _, rfl⟩ := List.mem_map.1 hv; rfl)
      simp only [Nat.add_zero] at hst
      obtain ⟨cur', c1, c2, c3⟩ := row_setCells g 3 ((List.replicate k (0 : Int)).map (Value.int .i64)) n w cur hg (by rw [hvl]; omega)
      refine ⟨g, c, w.setCells g n ((List.replicate k (0 : Int)).map (Value.int .i64)), ?_, ⟨by simp [hlen], .inr ⟨g, c, cur', rfl, hbg, c1, hroom, hcm, by rw [c2, hcs, Nat.mul_one], ?_⟩⟩, grownBy_setCells g _ _ _⟩
      · have hw : IntKind.i64.wrap (k : Int) = k := by rw [IntKind.wrap_i64]; omega
        have hneg : ¬ ((k : Int) < 0) := by omega
        have h48 : ¬ (281474976710656 < (k : Int) * (i.bytes : Int)) := by rw [hby]; omega
        rcases Nat.eq_zero_or_pos k with rfl | hk0
        · have hw0 : IntKind.i64.wrap (0 : Int) = 0 := by decide
          have hr0 : n ≤ c := hnc
          simp [Builtin.append_, run_underlying ht, run_underlying htn, sizeOf, typeInfo, zeroValue, hi, hz, hsz, asInt, asIntOf, hw0, hr0, Addr.add_lit]
          have hst0 : (storeCells ⟨g, n, none⟩ []).run Tryd.prog w = .ok () w := hst
          rw [hst0]; rfl
        · have hns : ¬ (k * i.size = 0) := by rw [hsz]; omega
          have hns2 : ¬ (k = 0) := by omega
          simp [Builtin.append_, run_underlying ht, run_underlying htn, sizeOf, typeInfo, zeroValue, hi, hz, hsz, asInt, asIntOf, hw, hneg, h48, hroom, Addr.add_lit, hns, hns2]
          rw [zeros_list, hst, List.map_replicate]; rfl
      · rw [c3, Nat.mul_one, List.map_append, ← htk]
        have : (cur.toList.take n ++ (List.replicate k (0 : Int)).map (Value.int .i64)).length = n + k := by simp; omega
        rw [← this]
        exact List.take_left
    · have hold : (Builtin.firstCells i.size n (.slice (some ⟨g, 0, none⟩) n c)).run Tryd.prog w.drew = .ok (xs.map (Value.int .i64)).toArray w.drew := by
        refine run_firstCells_some (P := Tryd.prog) w.drew i.size n _ n c (xs.map (Value.int .i64)) (by rw [hsz]; simp [hlen]) (fun j u hu => ?_)
        exact World.ownsRow.cells (v := .slice (some ⟨g, 0, none⟩) n c) h (g := g) rfl j u hu
      have hbig : (n + k) * i.bytes ≤ 140737488355328 := by rw [hby]; omega
      have hr := Lib.run_append_grow_zeros (P := Tryd.prog) w 22 3 ty 3 i _ .i64 .i64 ht htn hi hz (some ⟨g, 0, none⟩) n c (xs.map (Value.int .i64)) hold k (by omega) (by omega) (by omega) (by omega) (by rw [hby]; omega) (growslice_fits (by omega) hbig)
      refine ⟨_, _, _, hr, ⟨by simp [hlen], .inr ⟨_, _, _, rfl, hb, World.alloc_heap_new w.drew _, grownCap_ge _ _ _ _, grownCap_le_maxLen _ _ _ _ (by simp only [maxLen]; omega), ?_, ?_⟩⟩, ⟨rfl, rfl, rfl, by simp, fun m hm _ => Below.heap_alloc w.drew _ m hm⟩⟩
      · have := grownCap_ge w (n + k) c 3
        simp only [Array.size_append, List.size_toArray, size_zeroCells, List.length_map, hlen, Nat.mul_one]
        simp [Value.cells]; omega
      · rw [Nat.mul_one]
        simp only [Array.toList_append, zeros_list, List.map_append]
        have : (xs.map (Value.int .i64) ++ (List.replicate k (0 : Int)).map (Value.int .i64)).length = n + k := by simp [hlen]
        conv => lhs; rw [← this]
        exact List.take_left
end Go.Proofs.YtmeamgeojcbljaaDoor
