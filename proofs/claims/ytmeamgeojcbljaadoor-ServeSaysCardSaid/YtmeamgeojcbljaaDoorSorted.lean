/- slices.Sorted at what slices.Values handed back: a new row, sorted. -/
import Derived.Test.YtmeamgeojcbljaaDoorSorts
import Derived.Test.YtmeamgeojcbljaaDoorRound
import Derived.Test.YtmeamgeojcbljaaDoorInfo
import Derived.RangeFuncMany
import Derived.TacticsInMore
import Derived.RegionIn
import Derived.LoopNIn
import Derived.LoopIn
import Derived.Shelf.Abstract
import Derived.Shelf.RegionOpen
namespace Go.Proofs.YtmeamgeojcbljaaDoor
open Go.RowKit Go.ChangeAt Go.ChangeShapes Go.WideShapes Go.Shelf

theorem values_ok (A : Option Addr) (n c : Nat) (w : World) : Calls Tryd.prog 87 #[.slice A n c] w fun e w' =>
    e = .returned (.func (.func 104) #[] #[.pointer (some ⟨w.heap.size, 0, none⟩)]) ∧ w' = w.alloc (.cells #[.slice A n c] 22) := by
  go_enter Tryd.func87, Tryd.ntmps87
  go_wp2
  go_ret
  exact ⟨rfl, rfl⟩

set_option maxRecDepth 100000 in
set_option maxHeartbeats 2000000 in
theorem values_seq (n Bs : Nat) (A : Option Addr) (k c : Nat) (l : List Int) (w w1 : World) (h : RI w A k l) (hB : Bs < w.heap.size) (hc : w.cell? ⟨Bs, 0, none⟩ = some (.slice A k c)) (hw1 : Below w.heap.size w w1) (hk8 : k ≤ 1048576) :
    SeqB Fence.wide n Tryd.prog 104 #[.pointer (some ⟨Bs, 0, none⟩)] (fun x : Int => #[.int .i64 x]) (fun X Y => Below w.heap.size X Y) (fun xs => xs = l) (fun ps x => ∃ rest, l = ps ++ x :: rest) w1 := by
  intro lp J W hW hJ hY h0
  have hW2 : Below w.heap.size w W := hw1.trans (hW.mono hw1.size)
  have hc' := (hW2.cell (p := ⟨Bs, 0, none⟩) hB).trans hc
  have HL := Lib.hid h.len
  clear hc hW hw1
  refine callsIn_of_wp Tryd.func104 rfl trivial ?_ rfl
  simp only [Tryd.ntmps104, List.size_toArray, List.length_cons, List.length_nil, Nat.reduceAdd, Nat.reduceSub, Array.replicate_succ, Array.replicate_zero, List.push_toArray, List.append_toArray, List.nil_append, List.cons_append]
  gi_wp2
  gi_loopw [7] (fun i wr => ∃ j : Nat, j ≤ k ∧ i = .int .i64 j ∧ J (l.take j) wr ∧ Below w.heap.size w wr) (fun i _ => k - (intOf i).toNat)
  case atStart => exact ⟨0, by omega, by go_num, by simpa using h0, hW2⟩
  case round =>
    obtain ⟨j, hj, rfl, hJs, hb⟩ := hrel
    by_cases hlt : j < k
    · obtain ⟨ad, y, rfl, hy, hcy⟩ := (h.below hb).at_ hlt
      have htk := Lib.hid (take_succ_of hy.out)
      obtain ⟨fn, tmps, assign, body, hy', hR⟩ := hY (l.take j) y wr hJs ⟨l.drop (j + 1), by
        have := List.take_append_drop (j + 1) l
        rw [htk.out, List.append_assoc] at this
        exact this.symm⟩
      gi_wp2
      refine ⟨fun h => (by cases h), hR.mono ?_⟩
      rintro e W3 ⟨rfl, hJ3, hk3⟩
      gi_wp2
      go_roundw
      case rel => exact ⟨j + 1, by omega, by go_num, by rw [htk.out]; exact hJ3, hb.trans hk3⟩
      case measure => simp [intOf]; omega
    · obtain rfl : j = k := by omega
      gi_wp2
      go_end0
      exact ⟨⟨_, rfl⟩, l, rfl, by rwa [List.take_of_length_le (by rw [HL.out]; omega)] at hJs⟩

theorem below_putLoop {B l : Nat} {W : World} {o' : Obj} (h : B ≤ l) : Below B W (W.putObj l o') := ⟨rfl, rfl, rfl, by simp, fun k hk => World.putObj_heap_other (by omega)⟩
attribute [local go_sem] Oper.semAt_some
/-- What AppendSeq keeps between rounds. -/
def AppI (w : World) (Bx base : Nat) (pre : List Int) (V : World) : Prop := ∃ v, Boxed V Bx 22 v ∧ Row V base 3 v pre.length (pre.map (Value.int .i64)) ∧ Below w.heap.size w V
theorem appI_own {w : World} {Bx base B : Nat} (hB : w.heap.size ≤ B) (hBx : Bx < B) : OwnB B (AppI w Bx base) := by
  rintro s W W' row ⟨v, h1, h2, h3⟩ hg hr
  refine ⟨v, (hg.block Bx (Array.getElem?_eq_some_iff.1 h1).1 (fun e => by have := (hr _ e.symm).1; omega)).trans h1, ?_, h3.grown hg h3.size (fun k e => by have := (hr k e).1; omega)⟩
  refine h2.apart hg ?_
  rcases h2.2 with ⟨rfl, _⟩ | ⟨g, cap, cur, rfl, _, hh, _⟩
  · exact .inl rfl
  · right
    intro e
    obtain ⟨_, o, ho, hb⟩ := hr g (by rw [← e]; rfl)
    rw [hh] at ho; cases ho; cases hb

set_option maxRecDepth 100000 in
set_option maxHeartbeats 4000000 in
theorem appendSeq_ok (Bs : Nat) (A : Option Addr) (k c : Nat) (l : List Int) (w : World) (h : RI w A k l) (hB : Bs < w.heap.size) (hc : w.cell? ⟨Bs, 0, none⟩ = some (.slice A k c)) (hk8 : k ≤ 1048576) :
    Calls Tryd.prog 113 #[.slice none 0 0, .func (.func 104) #[] #[.pointer (some ⟨Bs, 0, none⟩)]] w fun e w' =>
      ∃ A' c', e = .returned (.slice A' k c') ∧ Row w' w.heap.size 3 (.slice A' k c') k (l.map (Value.int .i64)) ∧ Below w.heap.size w w' := by
  have HL := Lib.hid h.len
  refine (callsIn_wide (n := 9)).1 ?_
  refine callsIn_of_wp_marks Tryd.func113 rfl trivial ?_ rfl
  simp only [Tryd.ntmps113, List.size_toArray, List.length_cons, List.length_nil, Nat.reduceAdd, Nat.reduceSub, Array.replicate_succ, Array.replicate_zero, List.push_toArray, List.append_toArray, List.nil_append, List.cons_append]
  gi_wp2_with fail
  obtain ⟨W0, hW0⟩ : ∃ W0, w.alloc (.cells #[.slice none 0 0] 22) = W0 := ⟨_, rfl⟩
  have b0 : Below w.heap.size w W0 := hW0 ▸ (Below.refl _ w).alloc (Nat.le_refl _) _
  have s0 : W0.heap.size = w.heap.size + 1 := by rw [← hW0]; simp
  have x0 : Boxed W0 w.heap.size 22 (.slice none 0 0) := hW0 ▸ Boxed.new w _ _
  rw [hW0]
  refine range_book rfl (by omega) (gf := 104) (lb := #[.pointer (some ⟨Bs, 0, none⟩)]) rfl trivial (enters_of Tryd.func104 (by kernel_rfl) rfl)
    (values_seq 8 Bs A k c l w W0 h hB hc b0 hk8) (fun h k => h.trans k) (fun W l o o' hl h => below_putLoop (by omega)) (Below.refl _ _) (fun _ => rfl)
    (AppI w w.heap.size w.heap.size) (appI_own (by omega) (by omega)) ⟨_, x0, Row.nil_ _ _ _, b0⟩
    (fun x a' _ => a' = { tmps := #[.slice none 0 0, .func (.func 104) #[] #[.pointer (some ⟨Bs, 0, none⟩)], .pointer (some ⟨w.heap.size, 0, none⟩), undef, .slice none 0 0, .int .i64 x, .func (.func 104) #[] #[.pointer (some ⟨Bs, 0, none⟩)], .int .i64 x, undef, undef, undef, undef, undef], defers := [] })
    (fun x a' => ownB_pure _ _) ?assign ?body ?done
  case assign =>
    intro lp pre x V K hI hK
    gi_wp2
    exact hK _ _ (.refl _) (Below.refl _ _) hI rfl
  case body =>
    rintro lp pre x a' V hl ⟨r, hr⟩ ⟨v, hx, hrow, hb⟩ rfl ⟨rest, hrest⟩
    have hpl : pre.length ≤ 1048576 := by
      have := HL.out
      rw [hrest] at this
      simp at this; omega
    have hcx := hx.cell
    have hVs := hb.size
    have hcm : ∀ {l : List Oper}, (l.all calm) = true → ∀ o ∈ l, calm o = true := fun h => List.all_eq_true.1 h
    gi_wp2_with (refine list_in (by rintro ⟨a, w, h⟩; exact h) _ _ _ (hcm (by rfl)) (wpList_push _ rfl (.tmp 8) (.tmp 10) _ rfl w.heap.size 3 _ _ Tryd.underlying22 infoI rfl (by decide) _ _ _ rfl hrow (.int .i64 x) rfl rfl hpl hVs ?_); intro v' w2 R2 g2'; have g2 : V.grownBy w2 v.ownBlock := g2'; clear g2')
    have hne : v.ownBlock = none ∨ v.ownBlock ≠ some w.heap.size := by
      rcases hrow.2 with ⟨rfl, _⟩ | ⟨g, cap, cur, rfl, _, hh, _⟩
      · exact .inl rfl
      · right
        intro e
        have e' : g = w.heap.size := Option.some.inj e
        subst e'
        have hx' : V.heap[w.heap.size]? = some (.cells #[.slice (some ⟨w.heap.size, 0, none⟩) pre.length cap] 22 (0, 0)) := hx
        rw [hh] at hx'; cases hx'
    have hne2 : some w.heap.size ≠ v.ownBlock := by
      rcases hne with e | e
      · rw [e]; exact fun e => nomatch e
      · exact fun e' => e e'.symm
    have x2 : Boxed w2 w.heap.size 22 v := (g2.block _ (Array.getElem?_eq_some_iff.1 hx).1 hne2).trans hx
    have hnb : ∀ j o, v.ownBlock = some j → V.heap[j]? = some o → isBook o = false := by
      rcases hrow.2 with ⟨rfl, _⟩ | ⟨g, cap, cur, rfl, _, hh, _⟩
      · intro j o e; cases e
      · intro j o e ho; cases e; rw [hh] at ho; cases ho; rfl
    have K2 : KeepsBook V w2 := .of_grownBy g2 hnb
    have B2 : Below w.heap.size V w2 := (Below.refl _ V).grown g2 (by omega) (fun k e => (hrow.lt k e).1)
    have cx2 := x2.cell
    have fx2 := x2.frozen
    obtain ⟨A2, c2, rfl, _, _⟩ := R2.form
    clear hcx
    go_wp2
    have gS := grownBy_setCell' w2 w.heap.size (.slice A2 (pre.length + 1) c2)
    have hnr : some w.heap.size ≠ (Value.slice A2 (pre.length + 1) c2).ownBlock := Boxed.not_row x2 (by decide) R2
    have h3 : Row (w2.setCell ⟨w.heap.size, 0, none⟩ (.slice A2 (pre.length + 1) c2)) w.heap.size 3 (.slice A2 (pre.length + 1) c2) (pre ++ [x]).length ((pre ++ [x]).map (Value.int .i64)) := by
      have := R2.apart gS (.inr (fun e => hnr e.symm))
      rw [List.length_append, List.map_append]; exact this
    have B3 : Below w.heap.size V (w2.setCell ⟨w.heap.size, 0, none⟩ (.slice A2 (pre.length + 1) c2)) := B2.grown gS (by have := B2.size; omega) (fun k e => by cases e; exact Nat.le_refl _)
    exact ⟨K2.trans (KeepsBook.setCell _ _ _), B3, _, x2.set _, h3, hb.trans B3⟩
  case done =>
    intro D xs V hD hS hI hK hKD
    subst hS
    obtain ⟨v, hx, hrow, hb⟩ := hI
    have hcx := hx.cell
    obtain ⟨A', c', rfl, _, _⟩ := hrow.form
    have e1 := HL.out
    gi_wp2
    refine ⟨by simp, .inl ⟨D, _, rfl, run_takeDeferred hKD, ?_⟩⟩
    have hg : V.grownBy (V.putObj D (.deferred none)) (some D) := grownBy_putObj' V D _
    have hrow' : Row (V.putObj D (.deferred none)) w.heap.size 3 (.slice A' xs.length c') xs.length (xs.map (Value.int .i64)) := by
      refine hrow.apart hg ?_
      rcases hrow.2 with ⟨e, _⟩ | ⟨g, cap, cur, e, _, hh, _⟩
      · rw [e]; exact .inl rfl
      · right
        rw [e]
        intro e2
        cases e2
        rw [hh] at hKD; cases hKD
    subst e1
    exact ⟨.slice A' xs.length c', by simp [results, Tryd.results113, go_sem], A', c', rfl, hrow', hb.grown hg hb.size (fun k e => by cases e; omega)⟩

theorem collect_ok (Bs : Nat) (A : Option Addr) (k c : Nat) (l : List Int) (w : World) (h : RI w A k l) (hB : Bs < w.heap.size) (hc : w.cell? ⟨Bs, 0, none⟩ = some (.slice A k c)) (hk8 : k ≤ 1048576) :
    Calls Tryd.prog 103 #[.func (.func 104) #[] #[.pointer (some ⟨Bs, 0, none⟩)]] w fun e w' =>
      ∃ A' c', e = .returned (.slice A' k c') ∧ Row w' w.heap.size 3 (.slice A' k c') k (l.map (Value.int .i64)) ∧ Below w.heap.size w w' := by
  go_enter Tryd.func103, Tryd.ntmps103
  go_wp2_with fail
  refine (appendSeq_ok Bs A k c l w h hB hc hk8).mono ?_; rintro e w' ⟨A', c', rfl, hr, hb⟩
  go_wp2
  go_ret
  exact ⟨A', c', rfl, hr, hb⟩

/-- slices.Sorted. -/
theorem sorted_ok (Bs : Nat) (A : Option Addr) (k c : Nat) (l : List Int) (w : World) (h : RI w A k l) (hB : Bs < w.heap.size) (hc : w.cell? ⟨Bs, 0, none⟩ = some (.slice A k c)) (hk8 : k ≤ 1048576) :
    Calls Tryd.prog 86 #[.func (.func 104) #[] #[.pointer (some ⟨Bs, 0, none⟩)]] w fun e w' =>
      ∃ A' c', e = .returned (.slice A' k c') ∧ Row w' w.heap.size 3 (.slice A' k c') k ((sortI l).map (Value.int .i64)) ∧ Below w.heap.size w w' := by
  go_enter Tryd.func86, Tryd.ntmps86
  go_wp2_with fail
  refine (collect_ok Bs A k c l w h hB hc hk8).mono ?_; rintro e w' ⟨A', c', rfl, hr, hb⟩
  go_wp2_with fail
  refine (sort_own _ _ _ _ _ _ hr hk8).mono ?_; rintro e w2 ⟨rfl, hr2, hg2⟩
  go_wp2
  go_ret
  exact ⟨A', c', rfl, hr2, hb.grown hg2 hb.size (fun k e => (hr.lt k e).1)⟩
end Go.Proofs.YtmeamgeojcbljaaDoor

