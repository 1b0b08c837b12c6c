/- The contract of slices.Insert(s, 0, x) at a row of the call's own, in the words of Words. -/
import Derived.Test.YtmeamgeojcbljaaDoorLib
namespace Go.Proofs.YtmeamgeojcbljaaDoor
open Go.ChangeShapes Go.WideShapes Go.ChangeAt Go.RowKit

theorem Row.some_form {w : World} {base : Nat} {e : TypeId} {A : Option Addr} {n c : Nat} {xs : List Value} (h : Row w base e (.slice A n c) n xs) :
    (A = none ∧ n = 0 ∧ c = 0) ∨ ∃ g cur, A = some ⟨g, 0, none⟩ ∧ base ≤ g ∧ w.heap[g]? = some (.cells cur e (0, 0)) ∧ n ≤ c ∧ c ≤ maxLen ∧ cur.size = c ∧ cur.toList.take n = xs := by
  rcases h.2 with ⟨hv', h0⟩ | ⟨g, cap, cur, hv', hb, hh, hnc, hcm, hcs, ht⟩
  · injection hv' with hA _ hC
    exact .inl ⟨hA, h0, hC⟩
  · injection hv' with hA _ hC
    subst hA hC
    exact .inr ⟨g, cur, rfl, hb, hh, hnc, hcm, by omega, by simpa using ht⟩

theorem add_lit (g k : Nat) : (⟨g, 0, none⟩ : Addr).add k = ⟨g, 0 + k, none⟩ := by unfold Addr.add; split <;> simp_all
theorem heap_lt {w : World} {g : Nat} {o : Obj} (h : w.heap[g]? = some o) : g < w.heap.size := (Array.getElem?_eq_some_iff.1 h).1

theorem zero_cells (k : Nat) : (Builtin.zeroCells (Value.int .i64 0).cells k).size = k := by simp [Builtin.zeroCells, Value.cells]

theorem grownBy_drew (w : World) (row : Option Nat) : w.grownBy w.drew row := ⟨rfl, rfl, rfl, Nat.le_refl _, fun _ _ _ => rfl⟩
theorem shape_new (w : World) (cs : Array Value) (e : TypeId) : (w.alloc (.cells cs e)).shape? w.heap.size = some (e, cs.size) := by simp only [World.shape?, heap_alloc_new]
theorem frozen_new (w : World) (cs : Array Value) (e : TypeId) (j : Nat) : (w.alloc (.cells cs e)).frozen? ⟨w.heap.size, j, none⟩ = false := by simp only [World.frozen?, heap_alloc_new]; simp
/-- A row made anew behind a draw, of the block's first cells. -/
theorem grown_row (w : World) (base : Nat) (e : TypeId) (cs : Array Value) (n cap : Nat) (xs : List Value) (hb : base ≤ w.heap.size) (hn : n ≤ cap) (hc : cap ≤ maxLen) (hs : cs.size = cap) (ht : cs.toList.take n = xs) (hx : xs.length = n) :
    Row (w.drew.alloc (.cells cs e)) base e (.slice (some ⟨w.heap.size, 0, none⟩) n cap) n xs :=
  ⟨by omega, .inr ⟨w.heap.size, cap, cs, rfl, hb, heap_alloc_new w.drew _, hn, hc, by omega, by simpa using ht⟩⟩

theorem shift_list {α : Type} (x : α) (cur L R : List α) (m : Nat) (h : 1 ≤ cur.length) (hm : L.length = m) : ((cur.take 1 ++ L ++ R).take 0 ++ [x] ++ (cur.take 1 ++ L ++ R).drop 1).take (m + 1) = x :: L := by
  subst hm
  cases cur with
  | nil => simp at h
  | cons a t => simp
theorem grownBy_new {w W F : World} {r : Option Nat} {b : Nat} (h : w.grownBy W r) (k : W.grownBy F (some b)) (hb : w.heap.size ≤ b) : w.grownBy F r :=
  ⟨k.os.trans h.os, k.tape.trans h.tape, k.output.trans h.output, Nat.le_trans h.size k.size, fun j hj hne => (k.block j (Nat.lt_of_lt_of_le hj h.size) (fun e => by injection e with e; omega)).trans (h.block j hj hne)⟩
theorem set_two (W : World) (base g : Nat) (e : TypeId) (cur : Array Value) (gc m : Nat) (p : Value) (vs : List Value) (hW : W.heap[g]? = some (.cells cur e (0, 0))) (hs : cur.size = gc) (hm : vs.length = m) (hv : m + 1 ≤ gc) (hgm : gc ≤ maxLen) (hb : base ≤ g) :
    Row (((W.setCells g 0 [p]).drew).setCells g (0 + 1) vs) base e (.slice (some ⟨g, 0, none⟩) (m + 1) gc) (m + 1) (p :: vs) ∧ W.grownBy (((W.setCells g 0 [p]).drew).setCells g (0 + 1) vs) (some g) := by
  obtain ⟨cur1, a1, a2, a3⟩ := row_setCells g e [p] 0 W cur hW (by simp; omega)
  obtain ⟨cur2, b1, b2, b3⟩ := row_setCells g e vs (0 + 1) (W.setCells g 0 [p]).drew cur1 a1 (by omega)
  refine ⟨⟨by simp [hm], .inr ⟨g, gc, cur2, rfl, hb, b1, hv, hgm, by omega, ?_⟩⟩, grownBy_trans (grownBy_setCells g _ _ _) (grownBy_trans (grownBy_drew _ _) (grownBy_setCells g _ _ _))⟩
  rw [b3, a3]
  subst hm
  simp

set_option maxHeartbeats 1000000 in
theorem insert0_at (base : Nat) (A : Option Addr) (n c : Nat) (l : List Int) (p : Int) (w : World) (h : Row w base 3 (.slice A n c) n (l.map (Value.int .i64))) (hn : n ≤ 1048576) (hbase : base ≤ w.heap.size) :
    Calls Tryd.prog 83 #[.slice A n c, .int .i64 0, .slice (some ⟨w.heap.size, 0, none⟩) 1 1] (w.alloc (.cells #[.int .i64 p] 3)) fun e w' =>
      ∃ v', e = .returned v' ∧ Row w' base 3 v' (n + 1) ((p :: l).map (Value.int .i64)) ∧ w.grownBy w' (Value.slice A n c).ownBlock ∧ Far w.heap.size (Value.slice A n c).ownBlock v'.ownBlock := by
  have hlen : l.length = n := by have := h.len; simpa using this
  have hvs : ∀ j v, [Value.int .i64 p][j]? = some v → (w.alloc (.cells #[.int .i64 p] 3)).cell? ⟨w.heap.size, 0 + j, none⟩ = some v := by
    intro j v hv
    match j with
    | 0 => simp at hv; subst hv; rw [World.cell?_alloc_at _ _ _ _ rfl]; rfl
    | j + 1 => simp at hv
  have h1v : ∀ v ∈ [Value.int .i64 p], v.oneCell' = true := by intro v hv; simp at hv; subst hv; rfl
  have h1c : ∀ v ∈ l.map (Value.int .i64), v.oneCell' = true := ints_oneCell .i64 l
  have hga : w.grownBy (w.alloc (.cells #[.int .i64 p] 3)) (Value.slice A n c).ownBlock := World.grownBy_alloc w _ _
  rcases Row.some_form h with ⟨rfl, rfl, rfl⟩ | ⟨g, cur, rfl, hbg, hh, hnc, hcm, hcs, ht⟩
  · have hl : l = [] := List.eq_nil_of_length_eq_zero hlen
    subst hl
    refine (Any2.slices_Insert_int_end_grow Tryd.laysNm221 none 0 0 w.heap.size 0 1 1 [] [.int .i64 p] _ (by omega) (by omega) (by omega) (by omega) rfl rfl (fun _ => rfl) (by intro a ha; cases ha) hvs h1v).mono ?_
    rintro e w' ⟨rfl, rfl⟩
    have hg1 : 1 ≤ grownCap (w.alloc (.cells #[.int .i64 p] 3)) (0 + 1) 0 (Tryd.laysNm221_ren.t 3) := grownCap_ge _ _ _ _
    have hgm : grownCap (w.alloc (.cells #[.int .i64 p] 3)) (0 + 1) 0 (Tryd.laysNm221_ren.t 3) ≤ maxLen := grownCap_le_maxLen _ _ _ _ (by simp [maxLen])
    generalize grownCap (w.alloc (.cells #[.int .i64 p] 3)) (0 + 1) 0 (Tryd.laysNm221_ren.t 3) = gc at *
    exact ⟨_, rfl, grown_row _ base 3 _ 1 gc _ (by simp; omega) hg1 hgm (by simp [zero_cells]; omega) (by simp) rfl, grownBy_trans hga (grownBy_trans (grownBy_drew _ _) (World.grownBy_alloc (World.drew _) _ _)), .inr ⟨_, rfl, by simp⟩⟩
  · have hgl := heap_lt hh
    have hcells : ∀ j v, (l.map (Value.int .i64))[j]? = some v → (w.alloc (.cells #[.int .i64 p] 3)).cell? ⟨g, 0 + j, none⟩ = some v := by
      intro j v hv
      have hx := World.ownsRow.cells (v := .slice (some ⟨g, 0, none⟩) n c) h (g := g) rfl j v hv
      rw [add_lit] at hx
      rw [World.cell?_alloc_past _ _ _ hgl]; exact hx
    have hhA : (w.alloc (.cells #[.int .i64 p] 3)).heap[g]? = some (.cells cur 3 (0, 0)) := by rw [Below.heap_alloc w _ g hgl]; exact hh
    have hfz : ∀ j, (w.alloc (.cells #[.int .i64 p] 3)).frozen? ⟨g, j, none⟩ = false := by intro j; simp [World.frozen?, hhA]
    have hsp : ∀ j, j < c → ((w.alloc (.cells #[.int .i64 p] 3)).cell? ⟨g, j, none⟩).isSome = true := by
      intro j hj
      rw [cell_of_row _ g j cur 3 (0, 0) hhA, Array.getElem?_eq_getElem (by omega)]; rfl
    by_cases hroom : n + 1 ≤ c
    · by_cases hn0 : n = 0
      · subst hn0
        have hl : l = [] := List.eq_nil_of_length_eq_zero hlen
        subst hl
        refine (Any2.slices_Insert_int_end_room Tryd.laysNm221 g 0 0 c w.heap.size 0 1 1 [.int .i64 p] _ (by omega) (by omega) (by simp only [maxLen] at hcm; exact hcm) rfl (fun j hj => by simpa using hsp j (by omega)) (fun j _ => by simpa using hfz j) hvs h1v).mono ?_
        rintro e w' ⟨rfl, rfl⟩
        obtain ⟨cur', e1, e2, e3⟩ := row_setCells g 3 [.int .i64 p] (0 + 0) _ cur hhA (by simp; omega)
        refine ⟨_, rfl, ⟨rfl, .inr ⟨g, c, cur', rfl, hbg, e1, by omega, hcm, by omega, ?_⟩⟩, grownBy_trans hga (grownBy_setCells g _ _ _), .inl rfl⟩
        rw [e3]; simp
      · have hgne : w.heap.size ≠ g := by omega
        refine (Any2.slices_Insert_int_shift Tryd.laysNm221 g 0 n c 0 w.heap.size 0 1 1 (l.map (Value.int .i64)) [.int .i64 p] _ (by omega) (by omega) hroom (by simp only [maxLen] at hcm; exact hcm) hgne (by simpa using hlen) rfl hcells
          (fun j hj => by simpa using hsp j (by omega)) (fun j _ => by simpa using hfz j) hvs h1c h1v 3 3 1 c (shape_new w _ _) (by simp [World.shape?, hhA, hcs]) (by omega) (frozen_new w _ _ _) (frozen_new w _ _ _)).mono ?_
        rintro e w' ⟨rfl, rfl⟩
        obtain ⟨cur1, a1, a2, a3⟩ := row_setCells g 3 ((l.map (Value.int .i64)).drop 0) (0 + (0 + 1)) (w.alloc (.cells #[.int .i64 p] 3)).drew cur hhA (by simp; omega)
        obtain ⟨cur2, b1, b2, b3⟩ := row_setCells g 3 [.int .i64 p] (0 + 0) _ cur1 a1 (by simp; omega)
        refine ⟨_, rfl, ⟨by simp; omega, .inr ⟨g, c, cur2, rfl, hbg, b1, by omega, hcm, by omega, ?_⟩⟩, grownBy_trans hga (grownBy_trans (grownBy_drew _ _) (grownBy_trans (grownBy_setCells g _ _ _) (grownBy_setCells g _ _ _))), .inl rfl⟩
        rw [b3, a3]
        simp only [Nat.zero_add, List.length_singleton, Nat.mul_one, List.drop_zero, List.map_cons]
        exact shift_list _ _ _ _ _ (by simp; omega) (by simpa using hlen)
    · have hcn : c = n := by omega
      subst hcn
      by_cases hn0 : c = 0
      · subst hn0
        have hl : l = [] := List.eq_nil_of_length_eq_zero hlen
        subst hl
        refine (Any2.slices_Insert_int_end_grow Tryd.laysNm221 (some ⟨g, 0, none⟩) 0 0 w.heap.size 0 1 1 [] [.int .i64 p] _ (by omega) (by omega) (by omega) (by omega) rfl rfl (fun _ => rfl) (by intro a ha j v hv; simp at hv) hvs h1v).mono ?_
        rintro e w' ⟨rfl, rfl⟩
        have hg1 : 1 ≤ grownCap (w.alloc (.cells #[.int .i64 p] 3)) (0 + 1) 0 (Tryd.laysNm221_ren.t 3) := grownCap_ge _ _ _ _
        have hgm : grownCap (w.alloc (.cells #[.int .i64 p] 3)) (0 + 1) 0 (Tryd.laysNm221_ren.t 3) ≤ maxLen := grownCap_le_maxLen _ _ _ _ (by simp [maxLen])
        generalize grownCap (w.alloc (.cells #[.int .i64 p] 3)) (0 + 1) 0 (Tryd.laysNm221_ren.t 3) = gc at *
        exact ⟨_, rfl, grown_row _ base 3 _ 1 gc _ (by simp; omega) hg1 hgm (by simp [zero_cells]; omega) (by simp) rfl, grownBy_trans hga (grownBy_trans (grownBy_drew _ _) (World.grownBy_alloc (World.drew _) _ _)), .inr ⟨_, rfl, by simp⟩⟩
      · refine (Any2.slices_Insert_int_grow Tryd.laysNm221 g 0 c c 0 w.heap.size 0 1 1 (l.map (Value.int .i64)) [.int .i64 p] _ (by omega) (by omega) (by omega) (by omega) (by omega) (by simpa using hlen) rfl hcells hvs h1c h1v).mono ?_
        rintro e w' ⟨rfl, rfl⟩
        have hg1 : c + 1 ≤ grownCap (w.alloc (.cells #[.int .i64 p] 3)) (c + 1) c (Tryd.laysNm221_ren.t 3) := grownCap_ge _ _ _ _
        have hgm : grownCap (w.alloc (.cells #[.int .i64 p] 3)) (c + 1) c (Tryd.laysNm221_ren.t 3) ≤ maxLen := grownCap_le_maxLen _ _ _ _ (by simp only [maxLen]; omega)
        generalize grownCap (w.alloc (.cells #[.int .i64 p] 3)) (c + 1) c (Tryd.laysNm221_ren.t 3) = gc at *
        have hsz : (w.alloc (.cells #[.int .i64 p] 3)).heap.size = w.heap.size + 1 := by simp
        have hr := set_two ((w.alloc (.cells #[.int .i64 p] 3)).alloc (.cells (((l.map (Value.int .i64)).take 0).toArray ++ Builtin.zeroCells (Value.int .i64 0).cells (c + 1 - 0) ++ Builtin.zeroCells (Value.int .i64 0).cells (gc - (c + 1))) 3)).drew base
          (w.alloc (.cells #[.int .i64 p] 3)).heap.size 3 _ gc c (.int .i64 p) ((l.map (Value.int .i64)).drop 0) (heap_alloc_new _ _) (by simp [zero_cells]; omega) (by simpa using hlen) hg1 hgm (by omega)
        refine ⟨_, rfl, hr.1, grownBy_new (grownBy_trans hga (grownBy_trans (World.grownBy_alloc (w.alloc (.cells #[.int .i64 p] 3)) _ _) (grownBy_drew _ _))) hr.2 ?_, .inr ⟨_, rfl, by simp⟩⟩
        omega

theorem insert0_own (base : Nat) (A : Option Addr) (n c : Nat) (l : List Int) (p : Int) (w : World) (h : Row w base 3 (.slice A n c) n (l.map (Value.int .i64))) (hn : n ≤ 1048576) (hbase : base ≤ w.heap.size) :
    Calls Tryd.prog 83 #[.slice A n c, .int .i64 0, .slice (some ⟨w.heap.size, 0, none⟩) 1 1] (w.alloc (.cells #[.int .i64 p] 3)) fun e w' =>
      ∃ v', e = .returned v' ∧ Row w' base 3 v' (n + 1) ((p :: l).map (Value.int .i64)) ∧ w.grownBy w' (Value.slice A n c).ownBlock :=
  (insert0_at base A n c l p w h hn hbase).mono fun _ _ ⟨v', h1, h2, h3, _⟩ => ⟨v', h1, h2, h3⟩

theorem delete_one (base : Nat) (A : Option Addr) (n c : Nat) (l : List Int) (i : Nat) (w : World) (h : Row w base 3 (.slice A n c) n (l.map (Value.int .i64))) (hi : i < n) :
    Calls Tryd.prog 82 #[.slice A n c, .int .i64 i, .int .i64 ((i : Int) + 1)] w fun e w' =>
      ∃ v', e = .returned v' ∧ Row w' base 3 v' (n - 1) ((l.take i ++ l.drop (i + 1)).map (Value.int .i64)) ∧ w.grownBy w' (Value.slice A n c).ownBlock ∧ v'.ownBlock = (Value.slice A n c).ownBlock := by
  have h := delete_own base A n c l i (i + 1) w h (by omega) (by omega) (by omega)
  rw [Nat.add_sub_cancel_left] at h
  exact h
end Go.Proofs.YtmeamgeojcbljaaDoor
