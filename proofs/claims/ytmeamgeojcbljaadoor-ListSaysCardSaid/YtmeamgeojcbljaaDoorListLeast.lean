/- The walk of lists.Least, the loop. -/
import Derived.Test.YtmeamgeojcbljaaDoorListLst
import Derived.Laws.Cover3
import Derived.Deep.RegionLaw
namespace Go.Proofs.YtmeamgeojcbljaaDoor
open Go.RowKit Go.Maps Go.ChangeAt Go.ChangeShapes Go.WideShapes Go.Shelf

set_option maxHeartbeats 1000000 in
/-- slices.Clone. -/
theorem clone_ok (ad : Addr) (n c : Nat) (l : List Int) (w : World) (h : RI w (some ad) n l) (hn : n ≤ 1000) :
    Calls Tryd.prog 81 #[.slice (some ad) n c] w fun e w' => ∃ A' c', e = .returned (.slice A' n c') ∧ Row w' w.heap.size 3 (.slice A' n c') n (l.map (Value.int .i64)) ∧ Below w.heap.size w w' := by
  have hi0 : (Tryd.prog.info? 3).map (fun i => (i.zero, i.size, i.bytes)) = some (some (.int .i64 0), 1, 8) := by kernel_rfl
  have hB0 := (Below.refl w.heap.size w).alloc (Nat.le_refl _) (.cells #[] 3)
  have h1 := h.below hB0
  have hr0 : Row (w.alloc (.cells #[] 3)) w.heap.size 3 (.slice (some ⟨w.heap.size, 0, none⟩) 0 0) 0 [] :=
    ⟨rfl, .inr ⟨w.heap.size, 0, #[], rfl, Nat.le_refl _, World.alloc_heap_new w _, Nat.le_refl _, by simp [maxLen], rfl, rfl⟩⟩
  have he : (binOp .eql 22 (.slice (some ad) n c) (.slice none 0 0)).run Tryd.prog w = .ok (.bool false) w := Lib.run_eql_slice_nil w 22 3 (some ad) n c 0 0 Tryd.underlying22
  go_enter Tryd.func81, Tryd.ntmps81
  go_wp2_with (first
    | (at_builtin; refine wpList_appendI _ rfl _ _ 22 rfl w.heap.size 3 (.int .i64 0) 8 Tryd.underlying22 hi0 rfl _ 0 [] rfl hr0 (some ad) n c l rfl h1 (fun e => by cases e) (by simp [maxLen]; omega) (by omega) (by simp) ?_; intro v' w' h1 h2; obtain ⟨A', c', rfl, _⟩ := h1.form; have H12 := Lib.hid (And.intro h1 h2); clear h1 h2)
    | fail)
  obtain ⟨h1, h2⟩ := H12.out
  rw [Nat.zero_add] at h1
  go_ret
  have hge : ∀ k, some w.heap.size = some k → w.heap.size ≤ k := fun k e => by injection e with e; omega
  exact ⟨A', c', by simp, by simpa using h1, hB0.grown h2 (by simp) hge⟩

theorem Row.some_form' {w : World} {base : Nat} {e : TypeId} {A : Option Addr} {n c : Nat} {xs : List Value} (h : Row w base e (.slice A n c) n xs) : n = 0 ∨ ∃ g cur, A = some ⟨g, 0, none⟩ ∧ base ≤ g ∧ cur = c := by
  rcases h.2 with ⟨_, e⟩ | ⟨g, cap, cur, e, hb, _⟩
  · exact .inl e
  · injection e with e1
    exact .inr ⟨g, c, e1, hb, rfl⟩
theorem step_zerosI (w : World) {ops : Array Oper} {o : Oper} {a : Act} {K : Act → World → Prop} {Q : Exit → Act → World → Prop} {E : Prop} (hgd : o.guard = none) (s x : Operand)
    (ho : o.op = .call { callee := .builtin .append, args := #[s, x], argTypes := #[22, 3] }) (base g n c : Nat) (xs : List Int) (hs : a.eval s = .slice (some ⟨g, 0, none⟩) n c) (h : Row w base 3 (.slice (some ⟨g, 0, none⟩) n c) n (xs.map (Value.int .i64))) (k : Nat) (hk : k ≤ 1000) (hn : n ≤ 1000) (hb : base ≤ w.heap.size)
    (hx : a.eval x = .int .i64 k)
    (hK : ∀ g' c' w', Row w' base 3 (.slice (some ⟨g', 0, none⟩) (n + k) c') (n + k) ((xs ++ List.replicate k 0).map (Value.int .i64)) → w.grownBy w' (some g) → K (a.put o.dst (.slice (some ⟨g', 0, none⟩) (n + k) c')) w') :
    if Region.wanted o (yielded ops a.tmps) = true then Oper.wp Tryd.prog o a w K Q else E := by
  have hw : Region.wanted o (yielded ops a.tmps) = true := by simp [Region.wanted, hgd]
  rw [if_pos hw]
  obtain ⟨g', c', w', hr, h1, h2⟩ := run_zerosI w o.type base g n c xs h k hk hn hb
  exact Lib.wp_append_run w s x _ _ ho _ _ hs hx _ w' hr (hK g' c' w' h1 h2)

/-- What the first statement leans on. -/
def LeS (w : World) (w' : World) : Prop := Below w.heap.size w w' ∧ w.heap.size + 2 ≤ w'.heap.size
theorem LeS.below {w w1 w2 : World} (h : LeS w w1) (hb : Below w1.heap.size w1 w2) : LeS w w2 :=
  ⟨h.1.trans (hb.mono h.1.size), Nat.le_trans h.2 hb.size⟩
theorem LeS_drew {w w' : World} {v : Value} (h : w'.cell? ⟨w.heap.size, 0, none⟩ = some v ∧ LeS w w') : w'.drew.cell? ⟨w.heap.size, 0, none⟩ = some v ∧ LeS w w'.drew := ⟨h.1, h.2.below (Below.refl _ _).drew⟩
theorem lrising_S (n : Nat) (w w1 : World) (hn : n ≤ 4) (hn1 : 1 ≤ n) (hs : w1.cell? ⟨w.heap.size, 0, none⟩ = some (.int .i64 n) ∧ LeS w w1) (hM : MemoW w1 (w.heap.size + 1) none []) :
    Calls Tryd.prog 77 #[.int .i64 n] w1 fun e w2 => ∃ g c, e = .returned (.slice (some ⟨g, 0, none⟩) n c) ∧ Row w2 w1.heap.size 3 (.slice (some ⟨g, 0, none⟩) n c) n ((risingI n).map (Value.int .i64)) ∧ w1.heap.size ≤ g ∧ w1.heap.size ≤ w2.heap.size ∧ w.heap.size + 2 ≤ w1.heap.size ∧ MemoW w2 (w.heap.size + 1) none [] ∧ (w2.cell? ⟨w.heap.size, 0, none⟩ = some (.int .i64 n) ∧ LeS w w2) := by
  refine (lrising_ok n w1 (by omega)).mono ?_
  rintro e w2 ⟨A, c, rfl, R, hB⟩
  obtain ⟨g, cur, hg, hb⟩ : ∃ g cur, A = some ⟨g, 0, none⟩ ∧ w1.heap.size ≤ g ∧ cur = c := by
    rcases Row.some_form' R with h | h
    · omega
    · exact h
  have := hs.2.2
  exact ⟨g, c, by rw [hg], by rw [hg] at R; exact R, hb.1, hB.size, this, hM.keep fun k hk _ => hB.block k hk, (hB.cell (by show w.heap.size < w1.heap.size; omega)).trans hs.1, hs.2.below hB⟩
theorem less_S {w w3 w4 : World} {v : Value} (h : w3.cell? ⟨w.heap.size, 0, none⟩ = some v ∧ LeS w w3) (hT : Turned (memoS (w.heap.size + 1) none) w3 w4) : w4.cell? ⟨w.heap.size, 0, none⟩ = some v ∧ LeS w w4 := by
  have hS : ∀ k, memoS (w.heap.size + 1) none k → k = w.heap.size + 1 := by
    rintro k (e | e)
    · exact e
    · cases e
  exact ⟨hT.cell h.1 (fun e => by have := hS _ e; simp at this), h.2.1.trans (hT.below h.2.1.size (fun k hk => by have := hS k hk; omega)), Nat.le_trans h.2.2 hT.size⟩

theorem row4_form {w w1 : World} {A : Option Addr} {n c b : Nat} {xs : List Value} {t : TypeId} {v : Value} (h : Row w1 w.heap.size 3 (.slice A (n + 1) c) (n + 1) xs) (hb : Below w.heap.size w w1) (hx : Boxed w b t v) : ∃ g, A = some ⟨g, 0, none⟩ ∧ w.heap.size ≤ g ∧ n + 1 ≤ c ∧ Boxed w1 b t v := by
  rcases Row.some_form' h with e | ⟨g, _, e, hg, _⟩
  · omega
  · obtain ⟨_, _, e2, h1, _⟩ := h.form
    injection e2 with _ _ e3
    subst e3
    exact ⟨g, e, hg, h1, (hb.block b hx.lt).trans hx⟩
theorem boxed_far {w w1 : World} {g b : Nat} {t : TypeId} {v : Value} (hx : Boxed w b t v) (h : w.grownBy w1 (some g)) (hg : b ≠ g) : Boxed w1 b t v := hx.kept h (fun e => hg (by injection e))
theorem row_slice (B n : Nat) (hn : n ≤ 4) (w : World) : (Instr.sliceAt 102 (.pointer (some ⟨B, 0, none⟩)) none (some (.int .i64 n)) none).run Tryd.prog w = .ok (.slice (some ⟨B, 0, none⟩) n 4) w := by
  have h4 : Tryd.prog.arrayLen 102 = 4 := by kernel_rfl
  have he : Tryd.prog.elem 102 = 3 := by kernel_rfl
  have hs := Tryd.sizeOf3
  rw [run_sliceAt_array_h w 102 ⟨B, 0, none⟩ (by rw [h4, he]; exact Tryd.underlying102) .i64 n (by omega) (by rw [h4]; omega)]
  rw [h4, he, hs]
  simp [Result.andThen, slicedAt, Addr.add]
theorem array4_at (g c : Nat) (w : World) : (Instr.arrayAt 102 (.slice (some ⟨g, 0, none⟩) 4 c)).run Tryd.prog w = .ok (.pointer (some ⟨g, 0, none⟩)) w := run_arrayAt w 102 _ 4 _ 4 c Tryd.underlying102 (by omega)
theorem row4_cells {w : World} {base : Nat} {e : TypeId} {g n c : Nat} {xs : List Int} {s0 s1 s2 s3 : Int} (h : Row w base e (.slice (some ⟨g, 0, none⟩) n c) n (xs.map (Value.int .i64))) (hx : xs = [s0, s1, s2, s3]) : w.cell? ⟨g, 0, none⟩ = some (.int .i64 s0) ∧ w.cell? ⟨g, 1, none⟩ = some (.int .i64 s1) ∧ w.cell? ⟨g, 2, none⟩ = some (.int .i64 s2) ∧ w.cell? ⟨g, 3, none⟩ = some (.int .i64 s3) := by
  subst hx
  have hc := fun j v hv => World.ownsRow.cells (v := .slice (some ⟨g, 0, none⟩) n c) h (g := g) rfl j v hv
  refine ⟨?_, ?_, ?_, ?_⟩
  · have := hc 0 _ rfl; rwa [add_lit] at this
  · have := hc 1 _ rfl; rwa [add_lit] at this
  · have := hc 2 _ rfl; rwa [add_lit] at this
  · have := hc 3 _ rfl; rwa [add_lit] at this
theorem step_zeros4 (w : World) {ops : Array Oper} {o : Oper} {a : Act} {K : Act → World → Prop} {Q : Exit → Act → World → Prop} {E : Prop} (hgd : o.guard = none) (s x : Operand)
    (ho : o.op = .call { callee := .builtin .append, args := #[s, x], argTypes := #[22, 3] }) (base g n c : Nat) (xs : List Int) (hs : a.eval s = .slice (some ⟨g, 0, none⟩) n c) (h : Row w base 3 (.slice (some ⟨g, 0, none⟩) n c) n (xs.map (Value.int .i64))) (k : Nat) (hnk : n + k = 4) (hb : base ≤ w.heap.size)
    (hx : a.eval x = .int .i64 k) (s0 s1 s2 s3 : Int) (hxs : xs ++ List.replicate k 0 = [s0, s1, s2, s3])
    (hK : ∀ g' c' w', w'.cell? ⟨g', 0, none⟩ = some (.int .i64 s0) → w'.cell? ⟨g', 1, none⟩ = some (.int .i64 s1) → w'.cell? ⟨g', 2, none⟩ = some (.int .i64 s2) → w'.cell? ⟨g', 3, none⟩ = some (.int .i64 s3) → w.grownBy w' (some g) → K (a.put o.dst (.slice (some ⟨g', 0, none⟩) 4 c')) w') :
    if Region.wanted o (yielded ops a.tmps) = true then Oper.wp Tryd.prog o a w K Q else E := by
  refine step_zerosI w hgd s x ho base g n c xs hs h k (by omega) (by omega) hb hx fun g' c' w' h1 h2 => ?_
  obtain ⟨c0, c1, c2, c3⟩ := row4_cells h1 hxs
  rw [hnk]
  exact hK g' c' w' c0 c1 c2 c3 h2
theorem zeros_S {w w2 w3 : World} {v : Value} {g : Nat} (h : w2.cell? ⟨w.heap.size, 0, none⟩ = some v ∧ LeS w w2) (hM : MemoW w2 (w.heap.size + 1) none []) (hg : w2.grownBy w3 (some g)) (hgw : w.heap.size + 2 ≤ g) : MemoW w3 (w.heap.size + 1) none [] ∧ (w3.cell? ⟨w.heap.size, 0, none⟩ = some v ∧ LeS w w3) := by
  have hlt := cell_lt h.1
  have hz := h.2.2
  refine ⟨hM.keep fun k hk hS => hg.block k hk (fun e => ?_), (World.cell?_of_block (hg.block w.heap.size hlt (by simp; omega))).trans h.1, h.2.1.grown hg h.2.1.size (fun k e => by injection e with e; omega), Nat.le_trans hz hg.size⟩
  injection e with e
  rcases hS with e2 | e2
  · omega
  · cases e2

abbrev ThenW (n : Nat) (W0 : World) (q : Nat) (R : List Int → Int → Prop) (V : World) : Prop := ThenI Tryd.prog 102 3 99 litW okW W0 q (goodW n) R V
theorem less_thenW {n : Nat} {W0 V : World} {q : Nat} {R : List Int → Int → Prop} (hn1 : 1 ≤ n) (hn4 : n ≤ 4) (x : List Int) (c : Int) (h : ThenW n W0 q R V) (hq : q < W0.heap.size) (hg : goodW n x) (hc : (Lit.int .i64 c).wf = true) :
    Calls Tryd.prog 76 #[.pointer (some ⟨q, 0, none⟩), encW x, .int .i64 c] V fun e w' => (∃ y, e = .returned (.bool y)) ∧ ThenW n W0 q (fun k c' => R k c' ∨ (k = x ∧ c' = c)) w' ∧ KeepsBook V w' ∧ KeepsC q V w' ∧
      (∀ b, b < W0.heap.size → b ≠ q → w'.heap[b]? = V.heap[b]?) :=
  ThenI.less (enc := encW) (fun T h1 h2 => by have := goodW_many hn1 hn4 h1 h2; omega) hg (fun mb T hm hl => less_W q mb T x c V hm (goodW_ok hn1 hn4 hg) hc hl) h hq
/-- What a round lays ahead of its calls. -/
def lpW (W : World) (x : Int) : World := ((W.alloc (.cells #[.int .i64 x] 3)).alloc (.cells #[.map none] 99)).alloc (.cells #[.pointer (some ⟨W.heap.size + 1, 0, none⟩)] 96)
theorem lpW_facts (W : World) (x : Int) : (lpW W x).heap.size = W.heap.size + 3 ∧ Boxed (lpW W x) W.heap.size 3 (.int .i64 x) ∧ Boxed (lpW W x) (W.heap.size + 1) 99 (.map none) ∧
    Boxed (lpW W x) (W.heap.size + 1 + 1) 96 (.pointer (some ⟨W.heap.size + 1, 0, none⟩)) ∧ Below W.heap.size W (lpW W x) := by
  unfold lpW
  refine ⟨by simp, (Boxed.new W _ _).alloc _ |>.alloc _, ?_, ?_, ((Below.refl _ W).alloc (Nat.le_refl _) _).alloc (by simp) _ |>.alloc (by simp; omega) _⟩
  · have := Boxed.new (W.alloc (.cells #[.int .i64 x] 3)) 99 (.map none)
    rw [World.size_alloc] at this
    exact this.alloc _
  · have := Boxed.new ((W.alloc (.cells #[.int .i64 x] 3)).alloc (.cells #[.map none] 99)) 96 (.pointer (some ⟨W.heap.size + 1, 0, none⟩))
    rw [World.size_alloc, World.size_alloc] at this
    exact this

attribute [local go_sem] Oper.semAt_some

set_option maxRecDepth 100000 in
set_option maxHeartbeats 4000000 in
theorem lleast_ok (n : Nat) (Ac : Option Addr) (m cc : Nat) (a0 : List Int) (w : World) (hc : RI w Ac m a0) (hg : GoodT n a0) :
    Calls Tryd.prog 36 #[.int .i64 n, .slice Ac m cc] w fun e w' => ∃ v, e = .returned (.tuple #[.int .i64 v, .nilIface]) ∧ Best (NxW n) (startW n) (stepsW a0) v ∧ Below w.heap.size w w' := by
  have HG := Lib.hid hg
  have hn1 : 1 ≤ n := by have := hg.2.1; omega
  have hn4 : n ≤ 4 := by have := hg.2.2.1; omega
  have hB0 := (Below.refl w.heap.size w).alloc (Nat.le_refl _) (.cells #[.int .i64 n] 3)
  have hc1 := hc.below hB0
  have hx2 : Boxed (w.alloc (.cells #[.int .i64 n] 3)) w.heap.size 3 (.int .i64 n) := Boxed.new w _ _
  clear hg
  refine (callsIn_wide (n := 9)).1 ?_
  refine callsIn_of_wp_marks Tryd.func36 rfl trivial ?_ rfl
  simp only [Tryd.ntmps36, List.size_toArray, List.length_cons, List.length_nil, Nat.reduceAdd, Nat.reduceSub, Array.replicate_succ, Array.replicate_zero, List.push_toArray, List.append_toArray, List.nil_append, List.cons_append]
  gi_wp2_with (first
    | (refine ⟨trivial, ?_⟩; gi_at_call 31; refine (callsIn_wide.2 (lcheck_ok _ _ _ _ _ _ hc1 HG.out)).mono ?_; rintro e w' ⟨rfl, rfl⟩)
    | fail)
  refine wpIn_wide.2 ?_
  have hx2c := (hx2.alloc (.cells #[.map none] 99)).cell
  have hS0 : LeS w ((w.alloc (.cells #[.int .i64 n] 3)).alloc (.cells #[.map none] 99)) := by
    exact ⟨hB0.alloc (by simp) _, by simp⟩
  have hM1 : MemoW ((w.alloc (.cells #[.int .i64 n] 3)).alloc (.cells #[.map none] 99)) (w.heap.size + 1) none [] := by
    refine ⟨?_, rfl⟩
    have := Boxed.new (w.alloc (.cells #[.int .i64 n] 3)) 99 (.map none)
    rwa [World.size_alloc] at this
  obtain ⟨W1, hW1⟩ : ∃ W1, (w.alloc (.cells #[.int .i64 n] 3)).alloc (.cells #[.map none] 99) = W1 := ⟨_, rfl⟩
  rw [hW1] at hx2c hS0 hM1 ⊢
  have hS1 := And.intro hx2c hS0
  have hM1' : MemoW W1.drew (w.heap.size + 1) none [] := hM1.keep fun k hk _ => rfl
  have hni : (4 : Int) - n = ((4 - n : Nat) : Int) := by omega
  have hwn : IntKind.i64.wrap ((4 - n : Nat) : Int) = ((4 - n : Nat) : Int) := by rw [IntKind.wrap_i64]; omega
  have hat := array4_at
  obtain ⟨s0, s1, s2, s3, hst'⟩ := okP_decW (goodW_ok hn1 hn4 (startW_good n))
  have hst := Lib.hid (show risingI n ++ List.replicate (4 - n) 0 = [s0, s1, s2, s3] from hst')
  have hokS := Lib.hid (goodW_ok hn1 hn4 (startW_good n))
  rw [hst'] at hokS
  clear hst'
  refine Code.wp_mono (Q := fun e a w4 => match e with | .normal => (∃ g c1 g3 c3 mb0, a = { tmps := #[.int .i64 n, .slice Ac m cc, .pointer (some ⟨w.heap.size, 0, none⟩), undef, .int .i64 0, .nilIface, .nilIface, .pointer (some ⟨w.heap.size + 1, 0, none⟩), undef, undef, undef, undef, undef, undef, undef, undef, .int .i64 n, .slice Ac m cc, .nilIface, .nilIface, .bool false, undef, .agg #[.map none], .pointer (some ⟨w.heap.size + 1, 0, none⟩), .pointer (some ⟨w.heap.size + 1, 0, none⟩), .int .i64 n, .slice (some ⟨g, 0, none⟩) n c1, .int .i64 n, .int .i64 (4 - n : Nat), .slice (some ⟨g3, 0, none⟩) 4 c3, .pointer (some ⟨g3, 0, none⟩), .agg #[.int .i64 s0, .int .i64 s1, .int .i64 s2, .int .i64 s3], .bool (lessB ([] : List (List Int × Int)) [s0, s1, s2, s3] 0), undef, undef, undef, undef, undef, undef, undef, undef, undef, undef, undef, undef, undef, undef, undef, undef, undef, undef, undef, undef, undef, undef, undef, undef, undef, undef, undef, undef, undef, undef, undef, undef, undef, undef, undef, undef, undef, undef, undef, undef, undef, undef, undef, undef, undef, undef, undef, undef, undef], defers := [] } ∧ MemoW w4 (w.heap.size + 1) mb0 (lessL [] [s0, s1, s2, s3] 0) ∧ (w4.cell? ⟨w.heap.size, 0, none⟩ = some (.int .i64 n) ∧ LeS w w4)) | _ => False) ?_ ?reg5
  case reg5 =>
    go_region_law (first
      | (refine step_zeros4 _ rfl _ _ rfl _ g n c1 (risingI n) rfl R2 (4 - n) (by omega) hz2 rfl s0 s1 s2 s3 hst.out ?_; intro g3 c3 w3 q0 q1 q2 q3 G3; obtain ⟨hM3, hS3⟩ := zeros_S hS2 hM2 G3 (Nat.le_trans hz1 hg2))
      | (go_simp; go_at_call 77; refine (lrising_S n w _ hn4 hn1 (by first | assumption | (refine LeS_drew ?_; assumption)) hM1').mono ?_; rintro e w2 ⟨g, c1, rfl, R2, hg2, hz2, hz1, hM2, hS2⟩; have hc2 := hS2.1)
      | (go_simp; go_at_call 76; refine (less_W (w.heap.size + 1) none [] [s0, s1, s2, s3] 0 _ hM3 hokS.out (by decide) (by simp)).mono ?_; rintro e w4 ⟨rfl, mb0, hM0, hmb0, hT0⟩; have hS4 := less_S hS3 hT0))
    all_goals exact ⟨g, c1, g3, c3, mb0, rfl, hM0, hS4⟩
  intro e a w4 hpost
  cases e <;> try exact hpost.elim
  obtain ⟨g, c1, g3, c3, mb0, rfl, hM0, hS4⟩ := hpost
  obtain ⟨b0, rfl⟩ : ∃ b0, mb0 = some b0 := by
    cases mb0 with
    | none => exact absurd (show lessL ([] : List (List Int × Int)) [s0, s1, s2, s3] 0 = [] from hM0.2) (by simp [lessL])
    | some b0 => exact ⟨b0, rfl⟩
  obtain ⟨c2, hB1, hsz1⟩ := hS4
  clear hS1 hM1 hM1' hwn hni hx2c hS0 hc1 hx2 hB0
  gi_wp2_with fail
  have HST := Lib.hid (show startW n = [s0, s1, s2, s3] from hst.out)
  refine wpIn_loop (fun a W => ∃ (j pn b : Nat) (L : List (List Int × Int)) (ds : List Deferred) (v9 v10 v36 v37 v38 v39 v40 v41 v42 v43 v44 v78 v79 : Value), a = { tmps := #[.int .i64 n, .slice Ac m cc, .pointer (some ⟨w.heap.size, 0, none⟩), undef, .int .i64 0, .nilIface, .nilIface, .pointer (some ⟨pn, 0, none⟩), undef, v9, v10, undef, undef, undef, undef, undef, .int .i64 n, .slice Ac m cc, .nilIface, .nilIface, .bool false, undef, .agg #[.map none], .pointer (some ⟨w.heap.size + 1, 0, none⟩), .pointer (some ⟨w.heap.size + 1, 0, none⟩), .int .i64 n, .slice (some ⟨g, 0, none⟩) n c1, .int .i64 n, .int .i64 (4 - n : Nat), .slice (some ⟨g3, 0, none⟩) 4 c3, .pointer (some ⟨g3, 0, none⟩), .agg #[.int .i64 s0, .int .i64 s1, .int .i64 s2, .int .i64 s3], .bool (lessB ([] : List (List Int × Int)) [s0, s1, s2, s3] 0), .slice Ac m cc, .int .i64 m, .int .i64 j, v36, v37, v38, v39, v40, v41, v42, v43, v44, undef, undef, undef, undef, undef, undef, undef, undef, undef, undef, undef, undef, undef, undef, undef, undef, undef, undef, undef, undef, undef, undef, undef, undef, undef, undef, undef, undef, undef, undef, undef, undef, undef, v78, v79, undef, undef], defers := ds } ∧ j ≤ m ∧ L ≠ [] ∧ MemoW W pn (some b) L ∧ MemoR (RunTo (NxW n) (startW n) (stepsW (a0.take j))) L ∧
      (∀ q ∈ L, goodW n q.1 ∧ 0 ≤ q.2 ∧ q.2 ≤ (260 * j : Nat)) ∧ Marks w.heap.size W ds ∧ Below w4.heap.size w4 W)
    (fun a W => m - (intOf (a.tmps.getD 35 undef)).toNat) ?start ?round
  case start =>
    refine ⟨0, w.heap.size + 1, b0, [([s0, s1, s2, s3], 0)], [], _, _, _, _, _, _, _, _, _, _, _, _, _, rfl, by omega, by simp, by simpa [lessL] using hM0, ?_, ?_, trivial, Below.refl _ _⟩
    · refine ⟨fun q hq => ?_, fun k c hk => ?_⟩
      · simp at hq; subst hq; exact ⟨HST.out.symm, rfl⟩
      · obtain ⟨rfl, rfl⟩ := hk; exact ⟨([s0, s1, s2, s3], 0), by simp, HST.out.symm, by simp⟩
    · intro q hq
      simp at hq; subst hq
      exact ⟨HST.out ▸ startW_good n, by simp, by simp⟩
  case round =>
    rintro a W ⟨j, pn, b, L, ds, v9, v10, v36, v37, v38, v39, v40, v41, v42, v43, v44, v78, v79, rfl, hj, hLne, hM, hR, hLg, hMk, hBW⟩
    have hBt : Below w.heap.size w W := hB1.trans (hBW.mono (by omega))
    have hszW : w4.heap.size ≤ W.heap.size := hBW.size
    have hcs := hc.below hBt
    have b2 : W.cell? ⟨w.heap.size, 0, none⟩ = some (.int .i64 n) := (hBW.cell (by show w.heap.size < w4.heap.size; omega)).trans c2
    have hm40 : m ≤ 40 := by have := hc.len; have := HG.out.1; omega
    have HR := Lib.hid hR
    have HL := Lib.hid hLg
    clear hR hLg
    by_cases hjn : j < m
    · obtain ⟨adc, y, rfl, hy, hcell⟩ := hcs.at_ hjn
      have hyin : 0 ≤ y ∧ y < n := by have := HG.out.2.2.2 y (List.mem_of_getElem? hy.out); omega
      obtain ⟨z0, z1, z2, z3, z5⟩ := lpW_facts W y
      have hM3 : MemoW (lpW W y) pn (some b) L := hM.keep fun k hk _ => z5.block k hk
      have b3 : (lpW W y).cell? ⟨w.heap.size, 0, none⟩ = some (.int .i64 n) := (z5.cell (by show w.heap.size < W.heap.size; omega)).trans b2
      have hsp := spread_ok pn b L n (260 * j) (lpW W y) hM3 hLne hn1 hn4 (by omega) HL.out
      have b3' := b3
      unfold lpW at b3'
      have HYI := Lib.hid hyin
      clear hyin
      gi_wp2_with (first
        | (refine ⟨trivial, ?_⟩; gi_at_call 78; refine (callsIn_wide.2 hsp).mono ?_; rintro e W2 ⟨q, bq, T, rfl, hMT, hq, hbq, hRT, hTne, hTg, hBT⟩; have HRT := Lib.hid hRT; have HTG := Lib.hid hTg; clear hRT hTg)
        | (refine ⟨trivial, ?_⟩; gi_at_call 79; refine (callsIn_wide.2 (all_W q _)).mono ?_; rintro e w' ⟨rfl, rfl⟩)
        | fail)
      have hqz : W.heap.size + 3 ≤ q := by omega
      have hbz : W.heap.size + 3 ≤ bq := by omega
      have hz2 : W.heap.size + 3 ≤ W2.heap.size := by have := hBT.size; omega
      have x0 : Boxed W2 W.heap.size 3 (.int .i64 y) := (hBT.block _ (by omega)).trans z1
      have x1 : Boxed W2 (W.heap.size + 1) 99 (.map none) := (hBT.block _ (by omega)).trans z2
      have x2 : Boxed W2 (W.heap.size + 1 + 1) 96 (.pointer (some ⟨W.heap.size + 1, 0, none⟩)) := (hBT.block _ (by omega)).trans z3
      have x3 : W2.cell? ⟨w.heap.size, 0, none⟩ = some (.int .i64 n) := (hBT.cell (by show w.heap.size < _; omega)).trans b3
      have y5 : Below W.heap.size W W2 := z5.trans (hBT.mono (by omega))
      have x4 := Boxed.new W2 96 (.pointer (some ⟨q, 0, none⟩))
      have y0 : Boxed (W2.alloc (.cells #[.pointer (some ⟨q, 0, none⟩)] 96)) W.heap.size 3 (.int .i64 y) := x0.alloc _
      have y1 : Boxed (W2.alloc (.cells #[.pointer (some ⟨q, 0, none⟩)] 96)) (W.heap.size + 1) 99 (.map none) := x1.alloc _
      have y2 : Boxed (W2.alloc (.cells #[.pointer (some ⟨q, 0, none⟩)] 96)) (W.heap.size + 1 + 1) 96 (.pointer (some ⟨W.heap.size + 1, 0, none⟩)) := x2.alloc _
      have gA : Below W2.heap.size W2 (W2.alloc (.cells #[.pointer (some ⟨q, 0, none⟩)] 96)) := (Below.refl _ W2).alloc (Nat.le_refl _) _
      have y3 : (W2.alloc (.cells #[.pointer (some ⟨q, 0, none⟩)] 96)).cell? ⟨w.heap.size, 0, none⟩ = some (.int .i64 n) := (gA.cell (by show w.heap.size < W2.heap.size; omega)).trans x3
      have y6 : Below W.heap.size W (W2.alloc (.cells #[.pointer (some ⟨q, 0, none⟩)] 96)) := y5.trans (gA.mono (by omega))
      have yM : MemoW (W2.alloc (.cells #[.pointer (some ⟨q, 0, none⟩)] 96)) q (some bq) T := hMT.keep fun k hk _ => gA.block k hk
      have yz : (W2.alloc (.cells #[.pointer (some ⟨q, 0, none⟩)] 96)).heap.size = W2.heap.size + 1 := by simp
      have hbW : bq < W2.heap.size := hMT.lt bq (.inr rfl)
      obtain ⟨W0, hW0⟩ : ∃ W0, W2.alloc (.cells #[.pointer (some ⟨q, 0, none⟩)] 96) = W0 := ⟨_, rfl⟩
      rw [hW0] at x4 y0 y1 y2 y3 y6 yM yz gA ⊢
      clear x0 x1 x2 x3 y5 b3 b3' hsp hMT hW0 hM3 z1 z2 z3
      refine range_bookV rfl (by omega) (gf := 100) (lb := #[.pointer (some ⟨W2.heap.size, 0, none⟩)]) rfl trivial (enters_of Tryd.func100 (by kernel_rfl) rfl)
        (alls_W 8 W2.heap.size q bq T W0 (by omega) x4.cell yM) (fun h k => KeepsIt.trans h k) (fun W l o o' hl h => KeepsIt.putObj (by omega) hl h) (Below.refl _ _) (fun _ => rfl)
        (fun pre V => ThenW n W0 (W.heap.size + 1) (After (NxW n) (some y) pre) V) (ThenI.own (Nat.le_refl _))
        ((ThenI.start y1).congr (fun k c => ⟨fun h => h.elim, fun h => after_nil h⟩))
        (fun x a' V => ∃ Bn, W0.heap.size ≤ Bn ∧ V.heap[Bn]? = some (.cells (x.1.map (Value.int .i64)).toArray 102 (0, 0)) ∧ a' = { tmps := #[.int .i64 n, .slice (some adc) m cc, .pointer (some ⟨w.heap.size, 0, none⟩), undef, .int .i64 0, .nilIface, .nilIface, .pointer (some ⟨pn, 0, none⟩), undef, .pointer (some ⟨W.heap.size, 0, none⟩), .pointer (some ⟨W.heap.size + 1 + 1, 0, none⟩), .pointer (some ⟨Bn, 0, none⟩), .int .i64 x.2, undef, undef, undef, .int .i64 n, .slice (some adc) m cc, .nilIface, .nilIface, .bool false, undef, .agg #[.map none], .pointer (some ⟨w.heap.size + 1, 0, none⟩), .pointer (some ⟨w.heap.size + 1, 0, none⟩), .int .i64 n, .slice (some ⟨g, 0, none⟩) n c1, .int .i64 n, .int .i64 (4 - n : Nat), .slice (some ⟨g3, 0, none⟩) 4 c3, .pointer (some ⟨g3, 0, none⟩), .agg #[.int .i64 s0, .int .i64 s1, .int .i64 s2, .int .i64 s3], .bool (lessB ([] : List (List Int × Int)) [s0, s1, s2, s3] 0), .slice (some adc) m cc, .int .i64 m, .int .i64 j, .bool true, .pointer (some (adc.add j)), .int .i64 y, .agg #[.map none], .pointer (some ⟨W.heap.size + 1, 0, none⟩), .pointer (some ⟨pn, 0, none⟩), .int .i64 n, .pointer (some ⟨q, 0, none⟩), .func (.func 100) #[] #[.pointer (some ⟨W2.heap.size, 0, none⟩)], encW x.1, .int .i64 x.2, undef, undef, undef, undef, undef, undef, undef, undef, undef, undef, undef, undef, undef, undef, undef, undef, undef, undef, undef, undef, undef, undef, undef, undef, undef, undef, undef, undef, undef, undef, undef, v78, v79, undef, undef], defers := [] })
        (fun x a' => fun s A B row hs hg hr => by
          obtain ⟨Bn, h1, h2, h3⟩ := hs
          exact ⟨Bn, h1, ownB_cellsAtW (β := Unit) s A B row h2 hg hr, h3⟩) ?assign ?body ?done
      case assign =>
        rintro lp pre ⟨xk, xc⟩ V K hI ⟨rest, hP⟩ hK
        obtain ⟨k0, k1, k2⟩ := HTG.out (xk, xc) (hP.mem_iff.2 (by simp))
        obtain ⟨a0, a1, a2, a3, rfl⟩ := okP_decW (goodW_ok hn1 hn4 k0)
        rw [show encW [a0, a1, a2, a3] = .agg #[.int .i64 a0, .int .i64 a1, .int .i64 a2, .int .i64 a3] from rfl] at hK
        rw [show encsW ([a0, a1, a2, a3], xc) = #[.agg #[.int .i64 a0, .int .i64 a1, .int .i64 a2, .int .i64 a3], .int .i64 xc] from rfl]
        gi_wp2
        exact hK _ _ (KeepsBook.alloc _ _) (KeepsIt.below ((Below.refl _ V).alloc (Nat.le_refl _) _)) (hI.below ((Below.refl _ V).alloc (Nat.le_refl _) _)) ⟨V.heap.size, hI.turned.size, World.alloc_heap_new V _, rfl⟩
      case body =>
        rintro lp pre ⟨xk, xc⟩ a' V hl ⟨r, hr⟩ hI ⟨Bn, hBn, hrow, rfl⟩ ⟨rest, hP⟩
        obtain ⟨k0, k1, k2⟩ := HTG.out (xk, xc) (hP.mem_iff.2 (by simp))
        obtain ⟨e0, e1, e2, e3, rfl⟩ := okP_decW (goodW_ok hn1 hn4 k0)
        have hT := hI.turned
        have t2 : V.cell? ⟨w.heap.size, 0, none⟩ = some (.int .i64 n) := hT.cell y3 (by show ¬ w.heap.size = W.heap.size + 1; omega)
        have t9 : Boxed V W.heap.size 3 (.int .i64 y) := (hT.block _ (by omega) (by omega)).trans y0
        have t10 : Boxed V (W.heap.size + 1 + 1) 96 (.pointer (some ⟨W.heap.size + 1, 0, none⟩)) := (hT.block _ (by omega) (by omega)).trans y2
        have hszV : W0.heap.size ≤ V.heap.size := hT.size
        have hBnV : Bn < V.heap.size := (Array.getElem?_eq_some_iff.1 hrow).1
        have t9c := t9.cell
        have hmx2 : Tryd.prog.follows .mixedOrders = true := by kernel_rfl
        have hqW : W.heap.size + 1 < W0.heap.size := by omega
        have hxc : 0 ≤ xc ∧ xc ≤ 10656 := ⟨k1, by omega⟩
        obtain ⟨i1, i2, i3⟩ := goodW_idx k0 HYI.out
        obtain ⟨i, hi⟩ : ∃ i, ([e0, e1, e2, e3].take n).idxOf y = i := ⟨_, rfl⟩
        have HIX := Lib.hid (show ixI ([e0, e1, e2, e3].take n) y = (i : Int) by rw [ixI_mem i1, hi])
        rw [hi] at i2
        have hri : RI V.drew (some ⟨Bn, 0, none⟩) n ([e0, e1, e2, e3].take n) := ⟨i3, fun _ => ⟨_, rfl, fun k v hv => by
          have hk4 : k < 4 ∧ [e0, e1, e2, e3][k]? = some v := by
            have hk : k < n := by have h9 := (List.getElem?_eq_some_iff.1 hv).1; rw [i3] at h9; exact h9
            rw [List.getElem?_take_of_lt hk] at hv
            exact ⟨by omega, hv⟩
          obtain ⟨c0, c1, c2, c3⟩ := cells4 hrow
          have hadd : (⟨Bn, 0, none⟩ : Addr).add k = ⟨Bn, k, none⟩ := by unfold Addr.add; split <;> simp_all
          show V.cell? _ = _
          rw [hadd]
          obtain ⟨h4, hv4⟩ := hk4
          rcases (show k = 0 ∨ k = 1 ∨ k = 2 ∨ k = 3 by omega) with e | e | e | e <;> subst e <;> simp at hv4 <;> subst hv4 <;> assumption⟩⟩
        have KG := Lib.hid k0
        have HI := Lib.hid hi
        clear k0 k1 k2 i1 i3 hi
        have hsl := row_slice Bn n hn4
        gi_wp2_with fail
        refine still_tail_in 4 (by kernel_rfl) (by rintro ⟨a, w, h⟩; exact h) (by kernel_rfl) (by kernel_rfl) ?_
        simp only [List.take_succ_cons, List.take_zero, List.drop_succ_cons, List.drop_zero]
        repeat still_step
        still_call ((index_any _ _ _ _ y _ hri (by omega)).mono (fun _ _ ⟨x1, x2⟩ => ⟨x1, x2.symm⟩))
        repeat still_step
        refine wpStill_nil ?_
        rw [HIX.out]
        have hi3 : (i : Int) ≤ 3 := by omega
        go_wp2
        gi_wp2_with fail
        gi_loopw [53] (fun ii wr => ∃ k : Nat, k ≤ i + 1 ∧ ii = .int .i64 k ∧ KeepsBook V wr ∧ KeepsIt bq V wr ∧ KeepsC (W.heap.size + 1) V wr ∧
          ThenW n W0 (W.heap.size + 1) (fun kk cc => After (NxW n) (some y) pre kk cc ∨ ∃ to, to < k ∧ kk = moveL [e0, e1, e2, e3] i to y ∧ cc = xc + ((i : Int) + 1)) wr) (fun ii _ => i + 1 - (intOf ii).toNat)
        case atStart => exact ⟨0, by omega, by go_num, KeepsBook.drew _, KeepsIt.below (Below.refl _ V).drew, KeepsC.below (Below.refl _ V).drew, (hI.below (Below.refl _ V).drew).congr (fun kk cc => by simp)⟩
        case round =>
          obtain ⟨k, hk, rfl, hKB, hKI, hKC, hIr⟩ := hrel
          have hszr : W0.heap.size ≤ wr.heap.size := Nat.le_trans hszV hKC.size
          have r9 := hKC.boxed t9 (by omega)
          have r10 := hKC.boxed t10 (by omega)
          have rrow := hKC.cells _ _ hrow rfl (by omega)
          obtain ⟨d0, d1, d2, d3⟩ := cells4 rrow
          by_cases hlt : k < i + 1
          · have hri4 : RI wr (some ⟨Bn, 0, none⟩) 4 [e0, e1, e2, e3] := ⟨rfl, fun _ => ⟨_, rfl, fun k v hv => by
              have hadd : (⟨Bn, 0, none⟩ : Addr).add k = ⟨Bn, k, none⟩ := by unfold Addr.add; split <;> simp_all
              rw [hadd]
              have hk4 : k < 4 := (List.getElem?_eq_some_iff.1 hv).1
              rcases (show k = 0 ∨ k = 1 ∨ k = 2 ∨ k = 3 by omega) with e | e | e | e <;> subst e <;> simp at hv <;> subst hv <;> assumption⟩⟩
            have hcl := clone_ok ⟨Bn, 0, none⟩ 4 4 [e0, e1, e2, e3] wr hri4 (by omega)
            have hk3 : k ≤ 3 := by omega
            have hi4 : i < 4 := by omega
            gi_wp2_with (first
              | (refine ⟨trivial, ?_⟩; gi_at_call 81; refine (CallsIn.inRound lp (callsIn_wide.2 hcl)).mono ?_; rintro e w1 ⟨A', c', rfl, R1, hb1⟩; obtain ⟨g5, rfl, hg5, hc4, r91⟩ := row4_form R1 hb1 r9)
              | (refine ⟨trivial, ?_⟩; gi_at_call 82; refine (CallsIn.inRound lp (callsIn_wide.2 (delete_at wr.heap.size g5 4 c' [e0, e1, e2, e3] i w1 R1 hi4))).mono ?_; rintro e w2 ⟨rfl, R2, hb2⟩; have r92 := (boxed_far r91 hb2 (by omega)).cell)
              | (refine ⟨trivial, ?_⟩; gi_at_call 83; refine (CallsIn.inRound lp (callsIn_wide.2 (insert_room wr.heap.size g5 3 c' (cutL [e0, e1, e2, e3] i) k y w2 R2 hk3 hc4))).mono ?_; rintro e w3 ⟨rfl, R3, hb3⟩)
              | fail)
            have hki : k ≤ i := by omega
            have hgm : goodW n (moveL [e0, e1, e2, e3] i k y) := by
              have := goodW_move (to := k) KG.out HYI.out (by rw [HI.out]; exact hki)
              rwa [HI.out] at this
            obtain ⟨f0, f1, f2, f3, hf⟩ := okP_decW (goodW_ok hn1 hn4 hgm)
            have hfg : goodW n [f0, f1, f2, f3] := hf ▸ hgm
            obtain ⟨q0, q1, q2, q3⟩ := row4_cells R3 hf
            have hg5l : ∀ b, some g5 = some b → wr.heap.size ≤ b := fun b e => by injection e with e; omega
            have g8 : Below wr.heap.size wr w3 := (hb1.grown hb2 hb1.size hg5l).grown hb3 (by have := hb1.size; have := hb2.size; omega) hg5l
            have s10 : Boxed w3 (W.heap.size + 1 + 1) 96 (.pointer (some ⟨W.heap.size + 1, 0, none⟩)) := (g8.block _ (by omega)).trans r10
            have s10c := s10.cell
            have HF := Lib.hid hf
            have hat := array4_at
            clear hf hb1 hb2 hb3 R1 R2 R3 r91 r92 hcl hri4 d0 d1 d2 d3 hgm
            refine still_tail_in 8 (by kernel_rfl) (by rintro ⟨a, w, h⟩; exact h) (by kernel_rfl) (by kernel_rfl) ?_
            simp only [List.take_succ_cons, List.take_zero, List.drop_succ_cons, List.drop_zero]
            repeat still_step
            refine wpStill_nil ?_
            go_wp2_with fail
            refine (less_thenW hn1 hn4 [f0, f1, f2, f3] (xc + (i : Int) + 1) ((hIr.below g8).below (Below.refl _ w3).drew) hqW hfg (WalkArith.wf_i64 (by omega))).mono ?_
            rintro e V2 ⟨⟨yb, rfl⟩, hI2, hKB2, hKC2, hbk⟩
            have gd : Below wr.heap.size wr w3.drew := g8.drew
            have HI2 := Lib.hid hI2
            clear hI2 s10 s10c q0 q1 q2 q3
            go_wp2
            gi_wp2
            go_roundw
            case rel =>
              refine ⟨k + 1, by omega, by go_num, hKB.trans ((KeepsBook.below gd).trans hKB2), hKI.trans ((KeepsIt.below gd).trans (hKB2.it (fun _ => hbk bq (by omega) (by omega)))), hKC.trans ((KeepsC.below gd).trans hKC2), HI2.out.congr (fun kk cc => ?_)⟩
              constructor
              · rintro ((h | ⟨to, h1, h2, h3⟩) | ⟨rfl, rfl⟩)
                · exact .inl h
                · exact .inr ⟨to, by omega, h2, h3⟩
                · exact .inr ⟨k, by omega, HF.out.symm, by omega⟩
              · rintro (h | ⟨to, h1, h2, h3⟩)
                · exact .inl (.inl h)
                · rcases Nat.lt_or_ge to k with h4 | h4
                  · exact .inl (.inr ⟨to, h4, h2, h3⟩)
                  · obtain rfl : to = k := by omega
                    exact .inr ⟨by rw [h2, HF.out], by omega⟩
            case measure => simp [intOf]; omega
          · obtain rfl : k = i + 1 := by omega
            gi_wp2
            refine ⟨hKB, hKI, hIr.congr (fun kk cc => ?_)⟩
            rw [after_snoc]
            constructor
            · rintro (h | ⟨to, h1, h2, h3⟩)
              · exact .inl h
              · exact .inr ⟨_, ⟨to, by rw [HI.out]; omega, by rw [HI.out]; exact h2, rfl⟩, by rw [HI.out]; exact h3⟩
            · rintro (h | ⟨d, ⟨to, h1, h2, rfl⟩, h3⟩)
              · exact .inl h
              · rw [HI.out] at h1 h2 h3
                exact .inr ⟨to, by omega, h2, h3⟩
      case done =>
        intro D xs V hD hS hI hK hKD
        obtain ⟨mb, T2, hMT2, hRT2, hgT2, hbT2, hT2⟩ := hI
        have v10' : Boxed V (W.heap.size + 1 + 1) 96 (.pointer (some ⟨W.heap.size + 1, 0, none⟩)) := (hT2.block _ (by omega) (by omega)).trans y2
        have c10 := v10'.cell
        have hTn2 : T2 ≠ [] := by
          obtain ⟨q0, hq0⟩ := List.exists_mem_of_ne_nil T hTne
          obtain ⟨z, hz, _⟩ := hRT2.2 _ _ ⟨q0, hS.mem_iff.1 hq0, _, ⟨0, Nat.zero_le _, rfl, rfl⟩, rfl⟩
          intro e; rw [e] at hz; simp at hz
        obtain ⟨b', rfl⟩ : ∃ b', mb = some b' := by
          cases mb with
          | none => exact absurd hMT2.2 hTn2
          | some b' => exact ⟨b', rfl⟩
        have hst1 : MemoR (RunTo (NxW n) (startW n) (stepsW (a0.take j) ++ [none])) T := HR.out.step (p := none) (List.Perm.refl _) (HRT.out.congr fun _ _ => Iff.rfl)
        have hstep := hst1.step (p := some y) hS hRT2
        rw [← stepsW_snoc, (take_succ_of hy.out).symm] at hstep
        have hbd : ∀ r ∈ T2, goodW n r.1 ∧ 0 ≤ r.2 ∧ r.2 ≤ (260 * (j + 1) : Nat) := fun r hr => by
          obtain ⟨r0, hr0, d, h1, h2⟩ := hRT2.1 r hr
          obtain ⟨g1, g2, g3⟩ := HTG.out r0 (hS.mem_iff.2 hr0)
          obtain ⟨g4, g5, g6⟩ := accW_good g1 HYI.out hn4 h1
          exact ⟨hgT2 r hr, by omega, by omega⟩
        have hMk2 := (hMk.keep (KeepsBook.below y6)).cons hK (by omega) hD hKD
        have hBV : Below w4.heap.size w4 V := (hBW.trans (y6.mono (by omega))).trans (hT2.below (by omega) (by omega))
        have HH := Lib.hid (⟨hTn2, hMT2, hstep, hbd, hMk2, hBV⟩ : T2 ≠ [] ∧ MemoW V (W.heap.size + 1) (some b') T2 ∧ MemoR (RunTo (NxW n) (startW n) (stepsW (a0.take (j + 1)))) T2 ∧ (∀ r ∈ T2, goodW n r.1 ∧ 0 ≤ r.2 ∧ r.2 ≤ (260 * (j + 1) : Nat)) ∧ Marks w.heap.size V ({ target := .collected D, args := #[] } :: ds) ∧ Below w4.heap.size w4 V)
        clear hstep hMk2 hBV hTn2 hMT2 hRT2 hgT2 hbT2 hbd hst1
        gi_wp2
        obtain ⟨g1, g2, g3, g4, g5, g6⟩ := HH.out
        exact ⟨⟨j + 1, W.heap.size + 1, b', T2, _, _, _, _, _, _, _, _, _, _, _, _, _, _, rfl, by omega, g1, g2, g3, g4, g5, g6⟩, by simp [intOf]; omega⟩
    · obtain rfl : j = m := by omega
      have HR2 : Hid (MemoR (RunTo (NxW n) (startW n) (stepsW a0)) L) := Lib.hid (by have := HR.out; rwa [List.take_of_length_le (by rw [hc.len]; omega)] at this)
      have hcst : ∀ q ∈ L, 0 ≤ q.2 := fun q hq => (HL.out q hq).2.1
      have hlst := least_W pn b L W hM hcst hLne
      gi_wp2_with (first
        | (refine ⟨trivial, ?_⟩; gi_at_call 84; refine (callsIn_wide.2 hlst).mono ?_; rintro e w2 ⟨v, rfl, hv1, hv2, hBl⟩)
        | fail)
      have hbest := HR2.out.best hv1 hv2
      have HLC := Lib.hid hbest
      clear hbest hv1 hv2 hlst hcst
      refine leaves_marks (n₀ := w.heap.size) (w₀ := w) (fun W' hB' => ?_) ds w2 (hMk.keep (KeepsBook.below hBl)) (hBt.trans (hBl.mono (by omega))) (by have := hBl.size; omega)
      exact ⟨.tuple #[.int .i64 v, .nilIface], by simp [results, Tryd.results36, go_sem], v, rfl, HLC.out, hB'⟩
end Go.Proofs.YtmeamgeojcbljaaDoor
