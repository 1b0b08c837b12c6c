/- The walks of lists.Check, rising, run, Front, Swap. -/
import Derived.Test.YtmeamgeojcbljaaDoorInts
import Derived.Test.YtmeamgeojcbljaaDoorListPlain
import Derived.Test.YtmeamgeojcbljaaDoorInsert
import Derived.IntWalk
namespace Go.Proofs.YtmeamgeojcbljaaDoor
open Go.ChangeShapes Go.WideShapes Go.ChangeAt Go.RowKit

theorem shift_gen {α : Type} (x : α) (cur L R : List α) (i : Nat) (h : i + 1 ≤ cur.length) (m : Nat) (hm : L.length = m) : ((cur.take (i + 1) ++ L ++ R).take i ++ [x] ++ (cur.take (i + 1) ++ L ++ R).drop (i + 1)).take (i + 1 + m) = cur.take i ++ x :: L := by
  have hl : (cur.take (i + 1)).length = i + 1 := by simp; omega
  have e1 : (cur.take (i + 1) ++ L ++ R).take i = cur.take i := by
    rw [List.append_assoc, List.take_append_of_le_length (by omega), List.take_take, Nat.min_eq_left (by omega)]
  have e2 : (cur.take (i + 1) ++ L ++ R).drop (i + 1) = L ++ R := by
    rw [List.append_assoc]; exact List.drop_left' hl
  rw [e1, e2, show cur.take i ++ [x] ++ (L ++ R) = (cur.take i ++ x :: L) ++ R by simp]
  exact List.take_left' (by simp; omega)
set_option maxHeartbeats 1000000 in
/-- slices.Insert where there is room. -/
theorem insert_room (base g n c : Nat) (l : List Int) (i : Nat) (p : Int) (w : World) (h : Row w base 3 (.slice (some ⟨g, 0, none⟩) n c) n (l.map (Value.int .i64))) (hi : i ≤ n) (hroom : n + 1 ≤ c) :
    Calls Tryd.prog 83 #[.slice (some ⟨g, 0, none⟩) n c, .int .i64 i, .slice (some ⟨w.heap.size, 0, none⟩) 1 1] (w.alloc (.cells #[.int .i64 p] 3)) fun e w' =>
      e = .returned (.slice (some ⟨g, 0, none⟩) (n + 1) c) ∧ Row w' base 3 (.slice (some ⟨g, 0, none⟩) (n + 1) c) (n + 1) ((putL l i p).map (Value.int .i64)) ∧ w.grownBy w' (some g) := by
  have hlen : l.length = n := by have := h.len; simpa using this
  have hvs : ∀ j v, [Value.int .i64 p][j]? = some v → (w.alloc (.cells #[.int .i64 p] 3)).cell? ⟨w.heap.size, 0 + j, none⟩ = some v := by
    intro j v hv
    match j with
    | 0 => simp at hv; subst hv; rw [World.cell?_alloc_at _ _ _ _ rfl]; rfl
    | j + 1 => simp at hv
  have h1v : ∀ v ∈ [Value.int .i64 p], v.oneCell' = true := by intro v hv; simp at hv; subst hv; rfl
  have h1c : ∀ v ∈ l.map (Value.int .i64), v.oneCell' = true := ints_oneCell .i64 l
  have hga : w.grownBy (w.alloc (.cells #[.int .i64 p] 3)) (some g) := World.grownBy_alloc w _ _
  rcases Row.some_form h with ⟨e, _, _⟩ | ⟨g', cur, e, hbg, hh, hnc, hcm, hcs, ht⟩
  · cases e
  · injection e with e
    injection e with e
    subst e
    have hgl := heap_lt hh
    have hcells : ∀ j v, (l.map (Value.int .i64))[j]? = some v → (w.alloc (.cells #[.int .i64 p] 3)).cell? ⟨g, 0 + j, none⟩ = some v := by
      intro j v hv
      have hx := World.ownsRow.cells (v := .slice (some ⟨g, 0, none⟩) n c) h (g := g) rfl j v hv
      rw [add_lit] at hx
      rw [World.cell?_alloc_past _ _ _ hgl]; exact hx
    have hhA : (w.alloc (.cells #[.int .i64 p] 3)).heap[g]? = some (.cells cur 3 (0, 0)) := by rw [Below.heap_alloc w _ g hgl]; exact hh
    have hfz : ∀ j, (w.alloc (.cells #[.int .i64 p] 3)).frozen? ⟨g, j, none⟩ = false := by intro j; simp [World.frozen?, hhA]
    have hsp : ∀ j, j < c → ((w.alloc (.cells #[.int .i64 p] 3)).cell? ⟨g, j, none⟩).isSome = true := by
      intro j hj
      rw [cell_of_row _ g j cur 3 (0, 0) hhA, Array.getElem?_eq_getElem (by omega)]; rfl
    by_cases hin : i = n
    · subst hin
      refine (Any2.slices_Insert_int_end_room Tryd.laysNm221 g 0 i c w.heap.size 0 1 1 [.int .i64 p] _ (by omega) (by omega) (by simp only [maxLen] at hcm; exact hcm) rfl (fun j hj => by simpa using hsp (i + j) (by omega)) (fun j _ => by simpa using hfz (i + j)) hvs h1v).mono ?_
      rintro e w' ⟨rfl, rfl⟩
      obtain ⟨cur', e1, e2, e3⟩ := row_setCells g 3 [.int .i64 p] (0 + i) _ cur hhA (by simp; omega)
      refine ⟨rfl, ⟨by simp [putL]; omega, .inr ⟨g, c, cur', rfl, hbg, e1, by omega, hcm, by omega, ?_⟩⟩, grownBy_trans hga (grownBy_setCells g _ _ _)⟩
      rw [e3, Nat.zero_add, ht]
      have e4 : (putL l i p).map (Value.int .i64) = l.map (Value.int .i64) ++ [.int .i64 p] := by
        unfold putL
        rw [List.take_of_length_le (by omega), List.drop_of_length_le (by omega)]; simp
      rw [e4, Nat.mul_one]
      exact List.take_left' (by simp; omega)
    · have hgne : w.heap.size ≠ g := by omega
      refine (Any2.slices_Insert_int_shift Tryd.laysNm221 g 0 n c i w.heap.size 0 1 1 (l.map (Value.int .i64)) [.int .i64 p] _ (by omega) (by omega) hroom (by simp only [maxLen] at hcm; exact hcm) hgne (by simpa using hlen) rfl hcells
        (fun j hj => by simpa using hsp j (by omega)) (fun j _ => by simpa using hfz j) hvs h1c h1v 3 3 1 c (shape_new w _ _) (by simp [World.shape?, hhA, hcs]) (by omega) (frozen_new w _ _ _) (frozen_new w _ _ _)).mono ?_
      rintro e w' ⟨rfl, rfl⟩
      obtain ⟨cur1, a1, a2, a3⟩ := row_setCells g 3 ((l.map (Value.int .i64)).drop i) (0 + (i + 1)) (w.alloc (.cells #[.int .i64 p] 3)).drew cur hhA (by simp; omega)
      obtain ⟨cur2, b1, b2, b3⟩ := row_setCells g 3 [.int .i64 p] (0 + i) _ cur1 a1 (by simp; omega)
      refine ⟨rfl, ⟨by simp [putL]; omega, .inr ⟨g, c, cur2, rfl, hbg, b1, by omega, hcm, by omega, ?_⟩⟩, grownBy_trans hga (grownBy_trans (grownBy_drew _ _) (grownBy_trans (grownBy_setCells g _ _ _) (grownBy_setCells g _ _ _)))⟩
      rw [b3, a3]
      simp only [Nat.zero_add, List.length_singleton, Nat.mul_one]
      have := shift_gen (Value.int .i64 p) cur.toList ((l.map (Value.int .i64)).drop i) (cur.toList.drop (i + 1 + ((l.map (Value.int .i64)).drop i).length)) i (by simp; omega) (n - i) (by simp; omega)
      rw [show i + 1 + (n - i) = n + 1 by omega] at this
      rw [this]
      have e5 : cur.toList.take i = (l.map (Value.int .i64)).take i := by
        rw [← ht, List.take_take, Nat.min_eq_left hi]
      rw [e5]
      unfold putL
      simp [List.map_take, List.map_drop]
/-- slices.Delete of one. -/
theorem delete_at (base g n c : Nat) (l : List Int) (i : Nat) (w : World) (h : Row w base 3 (.slice (some ⟨g, 0, none⟩) n c) n (l.map (Value.int .i64))) (hi : i < n) :
    Calls Tryd.prog 82 #[.slice (some ⟨g, 0, none⟩) n c, .int .i64 i, .int .i64 ((i : Int) + 1)] w fun e w' =>
      e = .returned (.slice (some ⟨g, 0, none⟩) (n - 1) c) ∧ Row w' base 3 (.slice (some ⟨g, 0, none⟩) (n - 1) c) (n - 1) ((cutL l i).map (Value.int .i64)) ∧ w.grownBy w' (some g) := by
  have hlen : l.length = n := by have := h.len; simpa using this
  rcases h.2 with ⟨hv', h0⟩ | ⟨g', cap, cur, hv', hb, hh, hnc, hcm, hcs, ht⟩
  · omega
  · injection hv' with hA _ hC
    injection hA with hA
    injection hA with hA
    subst hA hC
    have hd := Tryd.slices_Delete_int_cells g 0 n c i (i + 1) l w (by omega) hnc (by simp only [maxLen] at hcm; exact hcm) (by omega) (by omega) (by
      intro k hk
      obtain ⟨ad, e, hc⟩ := (Row.reads h).2 (by omega)
      injection e with e
      subst e
      have hx := hc k _ (List.getElem?_eq_getElem hk)
      rw [add_lit] at hx
      rw [hx, List.getD_eq_getElem?_getD, List.getElem?_eq_getElem hk]; rfl) (by
      intro k hk
      exact World.ownsRow.frozenAt (e := 3) (size := 1) (base := base) h (0 + k))
    refine hd.mono ?_
    rintro e w' ⟨rfl, q, rfl⟩
    have hl1 : l.take n = l := List.take_of_length_le (by omega)
    rw [hl1]
    have hvl : ((l.take i ++ l.drop (i + 1) ++ List.replicate (i + 1 - i) 0).map (Value.int .i64)).length = n := by simp; omega
    have hr := Row.setCells (h.drewN q) ((l.take i ++ l.drop (i + 1) ++ List.replicate (i + 1 - i) 0).map (Value.int .i64)) (by omega) (n - (i + 1 - i)) (by omega)
    have h2 : (l.take i ++ l.drop (i + 1)).length = n - (i + 1 - i) := by simp; omega
    rw [← List.map_take, ← h2, List.take_left, h2] at hr
    rw [show n - (i + 1 - i) = n - 1 by omega] at hr ⊢
    exact ⟨rfl, hr, grownBy_drewN (grownBy_setCells g _ 0 _)⟩

theorem lcheck_ok (n : Int) (Ac : Option Addr) (m cc : Nat) (a : List Int) (w : World) (hc : RI w Ac m a) (hg : GoodT n a) :
    Calls Tryd.prog 31 #[.int .i64 n, .slice Ac m cc] w fun e w' => e = .returned .nilIface ∧ w = w' := by
  obtain ⟨g1, g2, g3, g4⟩ := hg
  have hm : m ≤ 40 := by have := hc.len; omega
  have H4 := Lib.hid g4
  clear g1 g4
  have hw : wrap64 (n - 1) = n - 1 := IntWalk.wrap64_in _ (by omega)
  go_enter Tryd.func31, Tryd.ntmps31
  go_wp2_with fail
  refine (within_ok _ _ _ _ g2 g3).mono ?_; rintro e w' ⟨rfl, rfl⟩
  go_wp2_with fail
  refine (all_ok _ _ _ _ _ _ _ hc (by omega) H4.out).mono ?_; rintro e w' ⟨rfl, rfl⟩
  go_wp2
  go_ret
  exact ⟨rfl, rfl⟩
theorem lcheck_no (n : Int) (Ac : Option Addr) (m cc : Nat) (a : List Int) (w : World) (hc : RI w Ac m a) (hm : m ≤ 9223372036854775807) (hg : ¬ GoodT n a) :
    Calls Tryd.prog 31 #[.int .i64 n, .slice Ac m cc] w fun e w' => e = .returned (.iface 65 (.int .i64 (listE n a))) ∧ w = w' := by
  by_cases h4 : 40 < m
  · rw [show listE n a = 4 by unfold listE; rw [if_pos (by rw [hc.len]; exact h4)]]
    clear hg
    go_enter Tryd.func31, Tryd.ntmps31
    go_wp2
    go_ret
    exact ⟨rfl, rfl⟩
  · have hno : ¬ (1 ≤ n ∧ n ≤ 4 ∧ AllIn a 0 (n - 1)) := fun ⟨h1, h2, h3⟩ => hg ⟨by rw [hc.len]; omega, h1, h2, h3⟩
    rw [show listE n a = 1 by unfold listE; rw [if_neg (by rw [hc.len]; exact h4), if_neg hno]]
    clear hg
    by_cases hn : 1 ≤ n ∧ n ≤ 4
    · obtain ⟨n1, n4⟩ := hn
      have HA := Lib.hid (show ¬ AllIn a 0 (n - 1) from fun h => hno ⟨n1, n4, h⟩)
      clear hno
      have hw : wrap64 (n - 1) = n - 1 := IntWalk.wrap64_in _ (by omega)
      go_enter Tryd.func31, Tryd.ntmps31
      go_wp2_with fail
      refine (within_ok _ _ _ _ n1 n4).mono ?_; rintro e w' ⟨rfl, rfl⟩
      go_wp2_with fail
      refine (all_no _ _ _ _ _ _ _ hc hm HA.out).mono ?_; rintro e w' ⟨rfl, rfl⟩
      go_wp2
      go_ret
      exact ⟨rfl, rfl⟩
    · have HN := Lib.hid (show n < 1 ∨ 4 < n by omega)
      clear hno hn
      go_enter Tryd.func31, Tryd.ntmps31
      go_wp2_with fail
      refine (within_no _ _ _ _ HN.out).mono ?_; rintro e w' ⟨rfl, rfl⟩
      go_wp2
      go_ret
      exact ⟨rfl, rfl⟩

set_option maxHeartbeats 1000000 in
theorem lrising_ok (n : Nat) (w : World) (hn : n ≤ 1048576) :
    Calls Tryd.prog 77 #[.int .i64 n] w fun e w' => ∃ A c, e = .returned (.slice A n c) ∧ Row w' w.heap.size 3 (.slice A n c) n ((risingI n).map (Value.int .i64)) ∧ Below w.heap.size w w' := by
  go_enter Tryd.func77, Tryd.ntmps77
  go_wp2
  go_loopw [3, 6] (fun v3 i wr => ∃ k : Nat, k ≤ n ∧ i = .int .i64 k ∧ Row wr w.heap.size 3 v3 k ((risingI k).map (Value.int .i64)) ∧ Below w.heap.size w wr) (fun _ i _ => n - (intOf i).toNat)
  case atStart => exact ⟨0, by omega, by go_num, Row.nil_ _ _ _, Below.refl _ _⟩
  case round =>
    obtain ⟨k, hk, rfl, R, hB⟩ := hrel
    have hbs := hB.size
    by_cases hlt : k < n
    · go_wp2_with (at_builtin; refine wpList_push _ rfl (.tmp 9) (.tmp 11) _ rfl w.heap.size 3 _ _ Tryd.underlying22 infoI rfl (by decide) _ _ _ rfl R (.int .i64 (k : Int)) rfl rfl (by omega) hbs ?_; intro v' w2 R' g8)
      go_roundw
      case rel =>
        refine ⟨k + 1, by omega, by go_num, ?_, hB.grown g8 hbs (fun b hb => (R.lt b hb).1)⟩
        rw [risingI_succ, List.map_append]; exact R'
      case measure => simp [intOf]; omega
    · obtain rfl : k = n := by omega
      obtain ⟨A, c, hv, _, _⟩ := R.form
      subst hv
      go_wp2
      go_ret
      exact ⟨A, c, rfl, R, hB⟩

theorem frontC_ok (i : Nat) (w : World) (_hi : i ≤ 4) : Calls Tryd.prog 74 #[.int .i64 i] w fun e w' => e = .returned (.int .i64 ((toF i : Nat) : Int)) ∧ w = w' := by
  go_enter Tryd.func74, Tryd.ntmps74
  go_wp2
  go_ret
  exact ⟨rfl, rfl⟩
theorem swapC_ok (i : Nat) (w : World) (hi : i ≤ 4) : Calls Tryd.prog 75 #[.int .i64 i] w fun e w' => e = .returned (.int .i64 ((toS i : Nat) : Int)) ∧ w = w' := by
  have e2 : wrap64 ((i : Int) - 1) = (i : Int) - 1 := IntWalk.wrap64_in _ (by omega)
  obtain ⟨v, hv⟩ : ∃ v : Int, ((toS i : Nat) : Int) = v := ⟨_, rfl⟩
  have hm : max 0 ((i : Int) - 1) = v := by rw [← hv]; unfold toS; omega
  rw [hv]
  clear hv
  go_enter Tryd.func75, Tryd.ntmps75
  go_wp2
  all_goals (go_ret; exact ⟨by first | rfl | (congr 2; omega), rfl⟩)
end Go.Proofs.YtmeamgeojcbljaaDoor
