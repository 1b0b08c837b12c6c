/- A row of states (a row of 4 numbers, and a cost), which the call made itself and from whose head it takes; what append does to it. -/
import Derived.Test.YtmeamgeojcbljaaDoorListRun
import Derived.Test.YtmeamgeojcbljaaDoorSpreadPlain
import Derived.Test.YtmeamgeojcbljaaDoorMemoLstW
import Derived.Deep.AppendSrc
import Derived.Lib.AppendZeros
namespace Go.Proofs.YtmeamgeojcbljaaDoor
open Go.ChangeShapes Go.WideShapes Go.ChangeAt Go.RowKit Go.Maps

def cellsS (q : List Int × Int) : List Value := (q.1 ++ [q.2]).map (Value.int .i64)
def cellsQ (l : List (List Int × Int)) : List Value := l.flatMap cellsS
theorem cellsS_len {q : List Int × Int} (h : q.1.length = 4) : (cellsS q).length = 5 := by simp [cellsS, h]
theorem cellsQ_len {l : List (List Int × Int)} (h : ∀ q ∈ l, q.1.length = 4) : (cellsQ l).length = l.length * 5 := by
  induction l with
  | nil => rfl
  | cons q l ih =>
    have h1 := ih (fun r hr => h r (by simp [hr]))
    have h2 := cellsS_len (h q (by simp))
    simp only [cellsQ, List.flatMap_cons, List.length_append, List.length_cons] at *
    omega
theorem cellsQ_append (l m : List (List Int × Int)) : cellsQ (l ++ m) = cellsQ l ++ cellsQ m := List.flatMap_append
theorem cellsQ_one (q : List Int × Int) : cellsQ [q] = cellsS q := by simp [cellsQ]
theorem cellsS_one (q : List Int × Int) : ∀ u ∈ cellsS q, u.oneCell' = true := by
  intro u hu
  obtain ⟨y, _, rfl⟩ := List.mem_map.1 hu
  rfl
theorem infoS : (Tryd.prog.info? 132).map (fun i => (i.zero, i.size, i.bytes)) = some (some (.agg #[.int .i64 0, .int .i64 0, .int .i64 0, .int .i64 0, .int .i64 0]), 5, 40) := by kernel_rfl

/-- The row: the slice begins somewhere in a block of the call's own. -/
def RowQ (w : World) (base : Nat) (v : Value) (n : Nat) (l : List (List Int × Int)) : Prop :=
  (∀ q ∈ l, q.1.length = 4) ∧ l.length = n ∧ ((v = .slice none 0 0 ∧ n = 0) ∨
    ∃ g o cap cur, v = .slice (some ⟨g, o, none⟩) n cap ∧ base ≤ g ∧ w.heap[g]? = some (.cells cur 132 (0, 0)) ∧ n ≤ cap ∧ cap ≤ maxLen ∧ o + cap * 5 ≤ cur.size ∧ (cur.toList.drop o).take (n * 5) = cellsQ l)
theorem RowQ.nil (w : World) (base : Nat) : RowQ w base (.slice none 0 0) 0 [] := ⟨by simp, rfl, .inl ⟨rfl, rfl⟩⟩
theorem RowQ.keep {w w' : World} {base : Nat} {v : Value} {n : Nat} {l : List (List Int × Int)} (h : RowQ w base v n l) (hk : ∀ g, v.ownBlock = some g → base ≤ g → g < w.heap.size → (∃ cur, w.heap[g]? = some (.cells cur 132 (0, 0))) → w'.heap[g]? = w.heap[g]?) : RowQ w' base v n l := by
  refine ⟨h.1, h.2.1, ?_⟩
  rcases h.2.2 with hn | ⟨g, o, cap, cur, rfl, hb, hg, rest⟩
  · exact .inl hn
  · exact .inr ⟨g, o, cap, cur, rfl, hb, (hk g rfl hb (Array.getElem?_eq_some_iff.1 hg).1 ⟨cur, hg⟩).trans hg, rest⟩
theorem RowQ.below {w w' : World} {base : Nat} {v : Value} {n : Nat} {l : List (List Int × Int)} (h : RowQ w base v n l) (hb : Below w.heap.size w w') : RowQ w' base v n l :=
  h.keep fun g _ _ hg _ => hb.block g hg
/-- Its form. -/
theorem RowQ.form {w : World} {base : Nat} {v : Value} {n : Nat} {l : List (List Int × Int)} (h : RowQ w base v n l) : ∃ A c, v = .slice A n c ∧ n ≤ c ∧ c ≤ maxLen := by
  rcases h.2.2 with ⟨rfl, rfl⟩ | ⟨g, o, cap, cur, rfl, _, _, h1, h2, _⟩
  · exact ⟨none, 0, rfl, by omega, by simp [maxLen]⟩
  · exact ⟨_, _, rfl, h1, h2⟩
/-- The cells of its head. -/
theorem RowQ.head {w : World} {base : Nat} {v : Value} {n : Nat} {x : List Int × Int} {l : List (List Int × Int)} (h : RowQ w base v n (x :: l)) :
    ∃ g o c, v = .slice (some ⟨g, o, none⟩) n c ∧ base ≤ g ∧ g < w.heap.size ∧ 1 ≤ n ∧ n ≤ c ∧ (∀ j u, (cellsS x)[j]? = some u → w.cell? ⟨g, o + j, none⟩ = some u) ∧
      RowQ w base (.slice (some ⟨g, o + 5, none⟩) (n - 1) (c - 1)) (n - 1) l ∧ (c = 1 → RowQ w base (.slice (some ⟨g, o, none⟩) (n - 1) 0) (n - 1) l) := by
  obtain ⟨h1, h2, h3⟩ := h
  rw [List.length_cons] at h2
  rcases h3 with ⟨_, e⟩ | ⟨g, o, cap, cur, rfl, hb, hg, hnc, hcm, hcs, ht⟩
  · omega
  · have hx : (cellsS x).length = 5 := cellsS_len (h1 x (by simp))
    have hl : (cellsQ l).length = l.length * 5 := cellsQ_len (fun q hq => h1 q (by simp [hq]))
    have hq : cellsQ (x :: l) = cellsS x ++ cellsQ l := rfl
    rw [hq] at ht
    have hn5 : n * 5 = 5 + (n - 1) * 5 := by omega
    refine ⟨g, o, cap, rfl, hb, (Array.getElem?_eq_some_iff.1 hg).1, by omega, hnc, ?_, ?_, ?_⟩
    · intro j u hu
      have hj : j < 5 := by have := (List.getElem?_eq_some_iff.1 hu).1; omega
      have : ((cur.toList.drop o).take (n * 5))[j]? = some u := by rw [ht, List.getElem?_append_left (by omega)]; exact hu
      rw [List.getElem?_take_of_lt (by omega), List.getElem?_drop] at this
      unfold World.cell?
      simp only [hg]
      simpa using this
    · refine ⟨fun q hq => h1 q (by simp [hq]), by omega, .inr ⟨g, o + 5, cap - 1, cur, rfl, hb, hg, by omega, by omega, by omega, ?_⟩⟩
      rw [hn5] at ht
      have h7 : (cur.toList.drop o).take (5 + (n - 1) * 5) = (cur.toList.drop o).take 5 ++ ((cur.toList.drop o).drop 5).take ((n - 1) * 5) := List.take_add
      rw [h7] at ht
      have hlen : ((cur.toList.drop o).take 5).length = (cellsS x).length := by
        rw [List.length_take, List.length_drop, Array.length_toList]; omega
      have := (List.append_inj ht hlen).2
      rw [List.drop_drop] at this
      exact this
    · rintro rfl
      have : l = [] := List.eq_nil_of_length_eq_zero (by omega)
      subst this
      have hn1 : n - 1 = 0 := by omega
      rw [hn1]
      exact ⟨by simp, rfl, .inr ⟨g, o, 0, cur, rfl, hb, hg, by omega, by simp [maxLen], by omega, by simp [cellsQ]⟩⟩

/-- append of one state that lies in a block. -/
theorem run_pushQ (w : World) (ty : TypeId) (base : Nat) (v : Value) (n : Nat) (l : List (List Int × Int)) (h : RowQ w base v n l) (hn : n ≤ 1099511627776) (hbase : base ≤ w.heap.size) (B : Nat) (q : List Int × Int) (hq : q.1.length = 4)
    (hB : ∀ j u, (cellsS q)[j]? = some u → w.cell? ⟨B, j, none⟩ = some u) :
    ∃ v' w', (Builtin.append_ #[130, 130] ty #[v, .slice (some ⟨B, 0, none⟩) 1 1]).run Tryd.prog w = .ok v' w' ∧ RowQ w' base v' (n + 1) (l ++ [q]) ∧ w.grownBy w' v.ownBlock ∧ (v'.ownBlock = v.ownBlock ∨ v'.ownBlock = some w.heap.size) := by
  obtain ⟨i, hi, hz, hsz, hby⟩ := info_parts infoS
  have ht : Tryd.prog.underlying 130 = some (.slice 132) := Tryd.underlying130
  have h5 := cellsS_len hq
  have hsrc : Src Tryd.prog i.size 130 (.slice (some ⟨B, 0, none⟩) 1 1) 1 (cellsS q) w := by
    refine Src.ofSlice w ht _ 1 1 _ (by rw [h5, hsz]) (fun j u hu => ?_) (cellsS_one q)
    have hadd : (⟨B, 0, none⟩ : Addr).add j = ⟨B, j, none⟩ := by unfold Addr.add; split <;> simp_all
    rw [hadd]; exact hB j u hu
  have hlen : (cellsQ l).length = n * 5 := by rw [cellsQ_len h.1, h.2.1]
  have hall : ∀ r ∈ l ++ [q], r.1.length = 4 := fun r hr => by
    rw [List.mem_append, List.mem_singleton] at hr
    rcases hr with hr | rfl
    · exact h.1 r hr
    · exact hq
  have hl1 : (l ++ [q]).length = n + 1 := by rw [List.length_append, h.2.1]; rfl
  have hnm : n + 1 ≤ maxLen := by simp only [maxLen]; omega
  have hbytes : (n + 1) * i.bytes ≤ 140737488355328 := by rw [hby]; omega
  have grown : ∀ (old : Nat), old < n + 1 → RowQ (w.drew.alloc (.cells ((cellsQ l ++ cellsS q).toArray ++ Builtin.zeroCells (.agg #[.int .i64 0, .int .i64 0, .int .i64 0, .int .i64 0, .int .i64 0] : Value).cells (grownCap w (n + 1) old 132 - (n + 1))) 132)) base
      (.slice (some ⟨w.heap.size, 0, none⟩) (n + 1) (grownCap w (n + 1) old 132)) (n + 1) (l ++ [q]) := by
    intro old ho
    have hge := grownCap_ge w (n + 1) old 132
    have hcm : grownCap w (n + 1) old 132 ≤ maxLen := grownCap_le_maxLen w (n + 1) old 132 hnm
    refine ⟨hall, hl1, .inr ⟨w.heap.size, 0, _, _, rfl, hbase, World.alloc_heap_new w.drew _, hge, hcm, ?_, ?_⟩⟩
    · simp only [Array.size_append, List.size_toArray, size_zeroCells, List.length_append, hlen, h5]
      simp [Value.cells]; omega
    · simp only [Array.toList_append, List.drop_zero]
      rw [cellsQ_append, cellsQ_one]
      have : (cellsQ l ++ cellsS q).length = (n + 1) * 5 := by rw [List.length_append, hlen, h5]; omega
      rw [← this]
      exact List.take_left
  have grew : ∀ (o : Obj) (row : Option Nat), w.grownBy (w.drew.alloc o) row := fun o row => ⟨rfl, rfl, rfl, by simp, fun k hk _ => by
    have := Below.heap_alloc w.drew o k hk; exact this⟩
  rcases h.2.2 with ⟨rfl, rfl⟩ | ⟨g, o, cap, cur, rfl, hbg, hg, hnc, hcm, hcs, htk⟩
  · have hl0 : l = [] := List.eq_nil_of_length_eq_zero h.2.1
    subst hl0
    have hr := run_append_grow_src (P := Tryd.prog) w 130 130 ty 132 i _ ht hi hz none 0 0 [] (run_firstCells_none (P := Tryd.prog) w.drew i.size 0 0 0) _ 1 _ hsrc (by omega) (by decide) (growslice_fits (by omega) hbytes)
    exact ⟨_, _, hr, grown 0 (by omega), grew _ _, .inr rfl⟩
  · by_cases hroom : n + 1 ≤ cap
    · have hfit : (o + n * i.size) + (cellsS q).length ≤ cur.size := by rw [h5, hsz]; omega
      have hcc : ∀ j, w.cell? ⟨g, j, none⟩ = cur[j]? := fun j => by unfold World.cell?; simp only [hg]; rfl
      have hr := run_append_room_src (P := Tryd.prog) w 130 130 ty 132 i ht hi g o n cap _ 1 _ hsrc hroom
        (fun j hj => by rw [hcc, Array.getElem?_eq_getElem (by omega)]; rfl)
        (fun j hj => by simp [World.frozen?, hg])
      obtain ⟨cur', e1, e2, e3⟩ := row_setCells g 132 (cellsS q) (o + n * i.size) w cur hg hfit
      refine ⟨_, _, hr, ⟨hall, hl1, .inr ⟨g, o, cap, cur', rfl, hbg, e1, hroom, hcm, by rw [e2]; exact hcs, ?_⟩⟩, grownBy_setCells g _ _ _, .inl rfl⟩
      rw [e3, hsz, cellsQ_append, cellsQ_one, ← htk]
      have hto : (cur.toList.take (o + n * 5)).length = o + n * 5 := by rw [List.length_take, Array.length_toList]; omega
      rw [List.append_assoc, List.drop_append_of_le_length (by omega), List.drop_take, show o + n * 5 - o = n * 5 by omega]
      have hlt : ((cur.toList.drop o).take (n * 5)).length = n * 5 := by rw [htk]; exact hlen
      rw [← List.append_assoc]
      refine List.take_left' ?_
      rw [List.length_append, hlt, h5]; omega
    · have hold : (Builtin.firstCells i.size n (.slice (some ⟨g, o, none⟩) n cap)).run Tryd.prog w.drew = .ok (cellsQ l).toArray w.drew := by
        refine run_firstCells_some (P := Tryd.prog) w.drew i.size n _ n cap (cellsQ l) (by rw [hlen, hsz]) (fun j u hu => ?_)
        rw [Addr.add_lit]
        have hj : j < n * 5 := by have := (List.getElem?_eq_some_iff.1 hu).1; omega
        rw [← htk, List.getElem?_take_of_lt hj, List.getElem?_drop] at hu
        show w.cell? _ = _
        unfold World.cell?
        simp only [hg]
        simpa using hu
      have hr := run_append_grow_src (P := Tryd.prog) w 130 130 ty 132 i _ ht hi hz (some ⟨g, o, none⟩) n cap (cellsQ l) hold _ 1 _ hsrc (by omega) (by omega) (growslice_fits (by omega) hbytes)
      exact ⟨_, _, hr, grown cap (by omega), grew _ _, .inr rfl⟩
end Go.Proofs.YtmeamgeojcbljaaDoor
