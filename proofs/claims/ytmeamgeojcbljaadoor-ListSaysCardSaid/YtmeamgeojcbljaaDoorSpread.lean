/- The walk of lists.spread: the least cost of each row, where neighbours change places, each time for one. -/
import Derived.Test.YtmeamgeojcbljaaDoorQueue
import Derived.Test.YtmeamgeojcbljaaDoorThen
import Derived.Test.YtmeamgeojcbljaaDoorBookV
import Derived.WalkArith
import Derived.Deep.LoopGhost
import Derived.Deep.RegionHeld3
import Derived.Laws.AppendOwn
namespace Go.Proofs.YtmeamgeojcbljaaDoor
open Go.RowKit Go.Maps Go.ChangeAt Go.ChangeShapes Go.WideShapes Go.Shelf

theorem wpList_pushQ (w : World) {ops : Array Oper} {rest : List Oper} {o : Oper} {a : Act} {Q : Exit → Act → World → Prop} (hgd : o.guard = none) (s x : Operand)
    (ho : o.op = .call { callee := .builtin .append, args := #[s, x], argTypes := #[130, 130] }) (base : Nat) (v : Value) (n : Nat) (l : List (List Int × Int)) (hs : a.eval s = v) (h : RowQ w base v n l) (hn : n ≤ 1099511627776) (hbase : base ≤ w.heap.size) (B : Nat) (q : List Int × Int) (hq : q.1.length = 4)
    (hB : ∀ j u, (cellsS q)[j]? = some u → w.cell? ⟨B, j, none⟩ = some u) (hx : a.eval x = .slice (some ⟨B, 0, none⟩) 1 1)
    (k : ∀ v' w', RowQ w' base v' (n + 1) (l ++ [q]) → w.grownBy w' v.ownBlock → (v'.ownBlock = v.ownBlock ∨ v'.ownBlock = some w.heap.size) → wpList Tryd.prog ops Q rest (a.put o.dst v') w') : wpList Tryd.prog ops Q (o :: rest) a w := by
  obtain ⟨v', w', hr, h1, h2, h3⟩ := run_pushQ w o.type base v n l h hn hbase B q hq hB
  exact Lib.wpList_append_run w hgd s x _ _ ho v _ hs hx v' w' hr (k v' w' h1 h2 h3)
theorem run_tailQ (w : World) (base : Nat) (v : Value) (n : Nat) (s : List Int × Int) (l : List (List Int × Int)) (h : RowQ w base v n (s :: l)) (hn : n ≤ 1099511627776) :
    ∃ v', (Instr.sliceAt 130 v (some (.int .i64 1)) none none).run Tryd.prog w = .ok v' w ∧ RowQ w base v' (n - 1) l ∧ v'.ownBlock = v.ownBlock := by
  obtain ⟨g, o', c, rfl, hb, hgl, hn0, hnc, hcells, h1, h2⟩ := h.head
  obtain ⟨i, hi, hz, hsz, hby⟩ := info_parts infoS
  by_cases hc : c = 1
  · refine ⟨_, ?_, h2 hc, rfl⟩
    subst hc
    obtain rfl : n = 1 := by omega
    go_simp
  · refine ⟨_, ?_, h1, rfl⟩
    have : ¬ (c : Int) = 1 := by omega
    go_simp
    exact fun hh => absurd hh (by omega)
theorem wpList_tailQ (w : World) {ops : Array Oper} {rest : List Oper} {o : Oper} {a : Act} {Q : Exit → Act → World → Prop} (hgd : o.guard = none) (x : Operand) (ho : o.op = .slice 130 x (some (.const (.int .i64 1))) none none)
    (base : Nat) (v : Value) (n : Nat) (s : List Int × Int) (l : List (List Int × Int)) (hs : a.eval x = v) (h : RowQ w base v n (s :: l)) (hn : n ≤ 1099511627776)
    (k : ∀ A c, RowQ w base (.slice A (n - 1) c) (n - 1) l → (Value.slice A (n - 1) c).ownBlock = v.ownBlock → wpList Tryd.prog ops Q rest (a.put o.dst (.slice A (n - 1) c)) w) : wpList Tryd.prog ops Q (o :: rest) a w := by
  obtain ⟨v', hr, h1, h2⟩ := run_tailQ w base v n s l h hn
  obtain ⟨A, c, rfl, _, _⟩ := h1.form
  refine wpList_plain hgd fun K hK => ?_
  unfold Oper.wp execOp
  simp only [ho, Option.map_some, Option.map_none, hs, show a.eval (.const (.int .i64 1)) = .int .i64 1 from rfl]
  rw [Sem.run_bind, hr]
  exact hK _ _ (k A c h1 h2)
theorem wpListIn_pushQ {F : Fence} {m : Nat} (w : World) {ops : Array Oper} {rest : List Oper} {o : Oper} {a : Act} {Q : Exit → Act → World → Prop} (hgd : o.guard = none) (s x : Operand)
    (ho : o.op = .call { callee := .builtin .append, args := #[s, x], argTypes := #[130, 130] }) (base : Nat) (v : Value) (n : Nat) (l : List (List Int × Int)) (hs : a.eval s = v) (h : RowQ w base v n l) (hn : n ≤ 1099511627776) (hbase : base ≤ w.heap.size) (B : Nat) (q : List Int × Int) (hq : q.1.length = 4)
    (hB : ∀ j u, (cellsS q)[j]? = some u → w.cell? ⟨B, j, none⟩ = some u) (hx : a.eval x = .slice (some ⟨B, 0, none⟩) 1 1)
    (k : ∀ v' w', RowQ w' base v' (n + 1) (l ++ [q]) → w.grownBy w' v.ownBlock → (v'.ownBlock = v.ownBlock ∨ v'.ownBlock = some w.heap.size) → wpListIn F m Tryd.prog ops Q rest (a.put o.dst v') w') : wpListIn F m Tryd.prog ops Q (o :: rest) a w := by
  refine wpListIn_plain hgd fun K hK' => ?_
  obtain ⟨v', w', hr, h1, h2, h3⟩ := run_pushQ w o.type base v n l h hn hbase B q hq hB
  unfold Oper.wpIn
  refine ⟨?_, ?_⟩
  · simp [Oper.about, ho, resolve, Target.leads, Sem.run_pure]
  · rw [Oper.semAt_plain F _ _ (by rw [ho]; intro c hc'; cases hc')]
    simp [execOp, ho, resolve, invoke, builtin, hs, hx, hr, Result.andThen]
    exact hK' _ _ (k v' w' h1 h2 h3)

theorem RowQ.base {w : World} {base : Nat} {v : Value} {n : Nat} {l : List (List Int × Int)} (h : RowQ w base v n l) {k : Nat} (hk : v.ownBlock = some k) : base ≤ k := by
  rcases h.2.2 with ⟨rfl, rfl⟩ | ⟨g, o, cap, cur, rfl, hb, _⟩
  · cases hk
  · have : g = k := by simpa [Value.ownBlock] using hk
    omega
theorem RowQ.ne {w : World} {base : Nat} {v : Value} {n : Nat} {l : List (List Int × Int)} (h : RowQ w base v n l) {k : Nat} (hk : k < base) : some k ≠ v.ownBlock := fun e => by have := h.base e.symm; omega
theorem RowQ.notBook {w w1 : World} {base : Nat} {v : Value} {n : Nat} {l : List (List Int × Int)} (h : RowQ w base v n l) (hb : Below w.heap.size w w1) : ∀ j o, v.ownBlock = some j → w1.heap[j]? = some o → isBook o = false := by
  intro j o hj ho
  rcases h.2.2 with ⟨rfl, rfl⟩ | ⟨g, of, cap, cur, rfl, _, hg, _⟩
  · cases hj
  · have : g = j := by simpa [Value.ownBlock] using hj
    subst this
    rw [hb.block g (Array.getElem?_eq_some_iff.1 hg).1, hg] at ho
    cases ho; rfl
theorem cellsS_new (V : World) (t : TypeId) (e0 e1 e2 e3 xc : Int) : ∀ j u, (cellsS ([e0, e1, e2, e3], xc))[j]? = some u → (V.alloc (.cells #[.int .i64 e0, .int .i64 e1, .int .i64 e2, .int .i64 e3, .int .i64 xc] t)).cell? ⟨V.heap.size, j, none⟩ = some u := fun j u hu => by
  rw [World.cell?_alloc_at _ _ _ _ rfl]
  simpa [cellsS] using hu
theorem memo_ne_row {W : World} {O base : Nat} {mb : Option Nat} {T : List (List Int × Int)} {v : Value} {n : Nat} {l : List (List Int × Int)} (hM : MemoW W O mb T) (h : RowQ W base v n l) (hO : O < base) : ∀ k, memoS O mb k → some k ≠ v.ownBlock := by
  intro k hk e
  rcases hk with rfl | rfl
  · exact h.ne hO e
  · obtain ⟨es, cl, hm⟩ := Mm.obj hM.2
    rcases h.2.2 with ⟨rfl, rfl⟩ | ⟨g, of, cap, cur, rfl, _, hg, _⟩
    · cases e
    · have : k = g := by simpa [Value.ownBlock] using e
      subst this
      rw [hm] at hg; cases hg
theorem cells5 {W : World} {b : Nat} {t : TypeId} {fr : Nat × Nat} {x y z u v : Value} (h : W.heap[b]? = some (.cells #[x, y, z, u, v] t fr)) : W.cell? ⟨b, 0, none⟩ = some x ∧ W.cell? ⟨b, 1, none⟩ = some y ∧ W.cell? ⟨b, 2, none⟩ = some z ∧ W.cell? ⟨b, 3, none⟩ = some u ∧ W.cell? ⟨b, 4, none⟩ = some v := by
  refine ⟨?_, ?_, ?_, ?_, ?_⟩ <;> simp [World.cell?, h]
theorem swap_cells (e0 e1 e2 e3 xc : Int) (k : Nat) (hk : k < 3) : ∃ f0 f1 f2 f3, swapI [e0, e1, e2, e3] (k + 1) = [f0, f1, f2, f3] ∧
    ((#[Value.int .i64 e0, .int .i64 e1, .int .i64 e2, .int .i64 e3, .int .i64 xc].setIfInBounds (k + 1) (.int .i64 ([e0, e1, e2, e3].getD k 0))).setIfInBounds k (.int .i64 ([e0, e1, e2, e3].getD (k + 1) 0))) = #[.int .i64 f0, .int .i64 f1, .int .i64 f2, .int .i64 f3, .int .i64 xc] := by
  rcases (show k = 0 ∨ k = 1 ∨ k = 2 by omega) with rfl | rfl | rfl <;> exact ⟨_, _, _, _, rfl, rfl⟩
theorem after_perm {ρ : Type} {Nx : ρ → List Int → List Int → Int → Prop} {p : ρ} {xs L T : List (List Int × Int)} (h : MemoR (After Nx p xs) T) (hp : L.Perm xs) : MemoR (After Nx p L) T :=
  h.congr fun k c => ⟨fun ⟨q, hq, e⟩ => ⟨q, hp.mem_iff.2 hq, e⟩, fun ⟨q, hq, e⟩ => ⟨q, hp.mem_iff.1 hq, e⟩⟩
theorem goodW_ok {n : Nat} {x : List Int} (hn1 : 1 ≤ n) (hn4 : n ≤ 4) (h : goodW n x) : okW x := ⟨goodW_len4 hn4 h, fun y hy => WalkArith.wf_i64 (by have := goodW_in hn1 hn4 h y hy; omega)⟩
theorem ownB_cellsAtW {β : Type} {B k : Nat} {t : TypeId} {fr : Nat × Nat} {cs : Array Value} : OwnB B (fun (_ : β) W => W.heap[k]? = some (.cells cs t fr)) :=
  fun _ X Y row hs hg hr => (hg.block k (Array.getElem?_eq_some_iff.1 hs).1 (fun e => by
    obtain ⟨_, o', h1, h2⟩ := hr k e.symm
    rw [hs] at h1
    cases h1; cases h2)).trans hs
theorem cells4 {W : World} {b : Nat} {t : TypeId} {fr : Nat × Nat} {x y z u : Value} (h : W.heap[b]? = some (.cells #[x, y, z, u] t fr)) : W.cell? ⟨b, 0, none⟩ = some x ∧ W.cell? ⟨b, 1, none⟩ = some y ∧ W.cell? ⟨b, 2, none⟩ = some z ∧ W.cell? ⟨b, 3, none⟩ = some u := by
  refine ⟨?_, ?_, ?_, ?_⟩ <;> simp [World.cell?, h]

attribute [local go_sem] Oper.semAt_some

set_option maxRecDepth 100000 in
set_option maxHeartbeats 4000000 in
theorem spread_ok (pn b : Nat) (L : List (List Int × Int)) (n C0 : Nat) (w : World) (hM : MemoW w pn (some b) L) (hL : L ≠ []) (hn1 : 1 ≤ n) (hn4 : n ≤ 4) (hC : C0 ≤ 1000000) (hg : ∀ q ∈ L, goodW n q.1 ∧ 0 ≤ q.2 ∧ q.2 ≤ C0) :
    Calls Tryd.prog 78 #[.pointer (some ⟨pn, 0, none⟩), .int .i64 n] w fun e w' => ∃ q b' T, e = .returned (.pointer (some ⟨q, 0, none⟩)) ∧ MemoW w' q (some b') T ∧ w.heap.size ≤ q ∧ w.heap.size ≤ b' ∧
      MemoR (After (NxN n) () L) T ∧ T ≠ [] ∧ (∀ r ∈ T, goodW n r.1 ∧ 0 ≤ r.2 ∧ r.2 ≤ C0 + 256) ∧ Below w.heap.size w w' := by
  have HG := Lib.hid hg
  clear hg
  refine (callsIn_wide (n := 3)).1 ?_
  refine callsIn_of_wp_marks Tryd.func78 rfl trivial ?_ rfl
  simp only [Tryd.ntmps78, List.size_toArray, List.length_cons, List.length_nil, Nat.reduceAdd, Nat.reduceSub, Array.replicate_succ, Array.replicate_zero, List.push_toArray, List.append_toArray, List.nil_append, List.cons_append]
  gi_wp2_with (first
    | (refine ⟨trivial, ?_⟩; gi_at_call 79; refine (callsIn_wide.2 (all_W pn _)).mono ?_; rintro e w' ⟨rfl, rfl⟩)
    | fail)
  have z0 : (((w.alloc (Obj.cells #[Value.map none] 99)).alloc (Obj.cells #[Value.slice none 0 0] 130)).alloc (Obj.cells #[Value.pointer (some { block := pn, off := 0 })] 96)).heap.size = w.heap.size + 3 := by simp
  have z1 : Boxed (((w.alloc (Obj.cells #[Value.map none] 99)).alloc (Obj.cells #[Value.slice none 0 0] 130)).alloc (Obj.cells #[Value.pointer (some { block := pn, off := 0 })] 96)) w.heap.size 99 (.map none) := ((Boxed.new w _ _).alloc _).alloc _
  have z2 : Boxed (((w.alloc (Obj.cells #[Value.map none] 99)).alloc (Obj.cells #[Value.slice none 0 0] 130)).alloc (Obj.cells #[Value.pointer (some { block := pn, off := 0 })] 96)) (w.heap.size + 1) 130 (.slice none 0 0) := by
    have := Boxed.new (w.alloc (Obj.cells #[Value.map none] 99)) 130 (.slice none 0 0)
    rw [World.size_alloc] at this
    exact this.alloc _
  have z3 : Boxed (((w.alloc (Obj.cells #[Value.map none] 99)).alloc (Obj.cells #[Value.slice none 0 0] 130)).alloc (Obj.cells #[Value.pointer (some { block := pn, off := 0 })] 96)) (w.heap.size + 1 + 1) 96 (.pointer (some ⟨pn, 0, none⟩)) := by
    have := Boxed.new ((w.alloc (Obj.cells #[Value.map none] 99)).alloc (Obj.cells #[Value.slice none 0 0] 130)) 96 (.pointer (some ⟨pn, 0, none⟩))
    rwa [World.size_alloc, World.size_alloc] at this
  have z5 : Below w.heap.size w (((w.alloc (Obj.cells #[Value.map none] 99)).alloc (Obj.cells #[Value.slice none 0 0] 130)).alloc (Obj.cells #[Value.pointer (some { block := pn, off := 0 })] 96)) := (((Below.refl _ w).alloc (Nat.le_refl _) _).alloc (by simp) _).alloc (by simp; omega) _
  obtain ⟨W0, hW0⟩ : ∃ W0, (((w.alloc (Obj.cells #[Value.map none] 99)).alloc (Obj.cells #[Value.slice none 0 0] 130)).alloc (Obj.cells #[Value.pointer (some { block := pn, off := 0 })] 96)) = W0 := ⟨_, rfl⟩
  rw [hW0] at z0 z1 z2 z3 z5 ⊢
  have hMs := hM.lt
  have hbW : b < w.heap.size := hMs b (.inr rfl)
  have hM0' : MemoW W0 pn (some b) L := hM.keep fun k hk _ => z5.block k hk
  have hLg := Lib.hid hM.good.1
  refine range_bookV rfl (by omega) (gf := 100) (lb := #[.pointer (some ⟨w.heap.size + 1 + 1, 0, none⟩)]) rfl trivial (enters_of Tryd.func100 (by kernel_rfl) rfl)
    (alls_W 2 (w.heap.size + 1 + 1) pn b L W0 (by omega) z3.cell hM0') (fun h k => KeepsIt.trans h k) (fun W l o o' hl h => KeepsIt.putObj (by omega) hl h) (Below.refl _ _) (fun _ => rfl)
    (fun pre V => (Boxed V w.heap.size 99 (.map none) ∧ Below w.heap.size w V ∧ W0.heap.size ≤ V.heap.size) ∧ ∃ v, Boxed V (w.heap.size + 1) 130 v ∧ RowQ V W0.heap.size v pre.length pre)
    (fun s A B row hs hg hr => ⟨⟨ownB_boxed (β := Unit) () A B row hs.1.1 hg hr, ownB_below (β := Unit) (Nat.le_refl _) (by omega) () A B row hs.1.2.1 hg hr, Nat.le_trans hs.1.2.2 hg.size⟩, by
      obtain ⟨v, h1, h2⟩ := hs.2
      exact ⟨v, ownB_boxed (β := Unit) () A B row h1 hg hr, h2.keep fun g _ _ hgl hc => hg.block g hgl (fun e => by
        obtain ⟨cur, hcur⟩ := hc
        obtain ⟨_, o, ho, hb⟩ := hr g e.symm
        rw [ho] at hcur; cases hcur; cases hb)⟩⟩)
    ⟨⟨z1, z5, Nat.le_refl _⟩, _, z2, RowQ.nil _ _⟩
    (fun x a' V => ∃ Bn, W0.heap.size ≤ Bn ∧ V.heap[Bn]? = some (.cells (x.1.map (Value.int .i64)).toArray 102 (0, 0)) ∧ a' = { tmps := #[.pointer (some ⟨pn, 0, none⟩), .int .i64 n, undef, undef, .pointer none, .pointer (some ⟨w.heap.size, 0, none⟩), .pointer (some ⟨w.heap.size + 1, 0, none⟩), .pointer (some ⟨Bn, 0, none⟩), .int .i64 x.2, undef, undef, undef, .agg #[.map none], .pointer (some ⟨w.heap.size, 0, none⟩), .pointer (some ⟨pn, 0, none⟩), .func (.func 100) #[] #[.pointer (some ⟨w.heap.size + 1 + 1, 0, none⟩)], encW x.1, .int .i64 x.2, undef, undef, undef, undef, undef, undef, undef, undef, undef, undef, undef, undef, undef, undef, undef, undef, undef, undef, undef, undef, undef, undef, undef, undef, undef, undef, undef, undef, undef, undef, undef, undef, undef, undef, undef, undef, undef, undef, undef, undef, undef, undef, undef, undef, undef, undef, undef, undef, undef, undef, undef, undef], defers := [] })
    (fun x a' => fun s A B row hs hg hr => by
      obtain ⟨Bn, h1, h2, h3⟩ := hs
      exact ⟨Bn, h1, ownB_cellsAtW (β := Unit) s A B row h2 hg hr, h3⟩) ?assign ?body ?done
  case assign =>
    rintro lp pre ⟨xk, xc⟩ V K hI ⟨rest, hP⟩ hK
    obtain ⟨k0, k1, k2⟩ := HG.out (xk, xc) (hP.mem_iff.2 (by simp))
    obtain ⟨a0, a1, a2, a3, rfl⟩ := okP_decW (goodW_ok hn1 hn4 k0)
    rw [show encW [a0, a1, a2, a3] = .agg #[.int .i64 a0, .int .i64 a1, .int .i64 a2, .int .i64 a3] from rfl] at hK
    rw [show encsW ([a0, a1, a2, a3], xc) = #[.agg #[.int .i64 a0, .int .i64 a1, .int .i64 a2, .int .i64 a3], .int .i64 xc] from rfl]
    gi_wp2
    have hbl := (Below.refl _ V).alloc (Nat.le_refl V.heap.size) (.cells #[.int .i64 a0, .int .i64 a1, .int .i64 a2, .int .i64 a3] 102)
    exact hK _ _ (KeepsBook.alloc _ _) (KeepsIt.below hbl) ⟨⟨hI.1.1.alloc _, hI.1.2.1.alloc hI.1.2.1.size _, by have := hI.1.2.2; simp; omega⟩, by obtain ⟨v, h1, h2⟩ := hI.2; exact ⟨v, h1.alloc _, h2.below hbl⟩⟩ ⟨V.heap.size, hI.1.2.2, World.alloc_heap_new V _, rfl⟩
  case body =>
    rintro lp pre ⟨xk, xc⟩ a' V hl ⟨r, hr⟩ ⟨⟨hI1, hI2, hI3⟩, v, hI4, hI5⟩ ⟨Bn, hBn, hrow, rfl⟩ ⟨rest, hP⟩
    obtain ⟨k0, k1, k2⟩ := HG.out (xk, xc) (hP.mem_iff.2 (by simp))
    obtain ⟨e0, e1, e2, e3, rfl⟩ := okP_decW (goodW_ok hn1 hn4 k0)
    obtain ⟨c0, c1, c2, c3⟩ := cells4 hrow
    have hct := hI4.cell
    have hbnd : pre.length ≤ 256 := by
      have h1 := goodW_many (n := n) (T := L) hn1 hn4 hLg.out (fun q hq => (HG.out q hq).1)
      have h2 := hP.length_eq
      rw [List.length_append] at h2
      omega
    have hq1 := hI5.below ((Below.refl _ V).alloc (Nat.le_refl _) (.cells #[.int .i64 e0, .int .i64 e1, .int .i64 e2, .int .i64 e3, .int .i64 xc] 132))
    gi_wp2_with (first
      | (gi_at_builtin; refine wpListIn_pushQ _ rfl _ _ rfl W0.heap.size v pre.length pre rfl hq1 (by omega) (by simp; omega) V.heap.size ([e0, e1, e2, e3], xc) rfl (cellsS_new V _ _ _ _ _ _) rfl ?_; intro v' w' h1 h2 h3; obtain ⟨A', c', rfl, hnc', hcm'⟩ := h1.form; have hbt : Boxed w' (w.heap.size + 1) 130 v := (hI4.alloc _).kept h2 (hI5.ne (by omega)); have hct2 := hbt.cell; have hcf2 := hbt.frozen; have H123 := Lib.hid (And.intro h1 (And.intro h2 h3)); clear h1 h2 h3 hct)
      | fail)
    obtain ⟨h1, h2, h3⟩ := H123.out
    have hbk : KeepsBook V w' := (KeepsBook.alloc V _).trans (KeepsBook.of_grownBy h2 (hI5.notBook ((Below.refl _ V).alloc (Nat.le_refl _) _)))
    have hbw : ∀ k, k < W0.heap.size → w'.heap[k]? = V.heap[k]? := fun k hk => (h2.block k (by simp; omega) (hI5.ne hk)).trans (Below.heap_alloc V _ k (by omega))
    have hbf := KeepsBook.setCell w' ⟨w.heap.size + 1, 0, none⟩ (.slice A' (pre.length + 1) c')
    have hs1 := h2.size
    have hs2 := (hI2.alloc hI2.size (.cells #[.int .i64 e0, .int .i64 e1, .int .i64 e2, .int .i64 e3, .int .i64 xc] 132)).grown h2 (by simp; omega) (fun k hk => by have := hI5.base hk; omega)
    rw [World.size_alloc] at hs1
    refine ⟨hbk.trans hbf, (hbk.it (fun _ => hbw b (by omega))).trans (KeepsIt.setCell _ _ (by show b ≠ w.heap.size + 1; omega)), ⟨⟨?_, hs2.setCell (p := ⟨w.heap.size + 1, 0, none⟩) (by show w.heap.size ≤ w.heap.size + 1; omega) _, ?_⟩, .slice A' (pre.length + 1) c', hbt.set _, ?_⟩⟩
    · exact Boxed.other ((hbw w.heap.size (by omega)).trans hI1) (by omega) _
    · have := hbf.size; omega
    · have e : (pre ++ [([e0, e1, e2, e3], xc)]).length = pre.length + 1 := by simp
      rw [e]
      try rw [← z0]
      exact h1.keep fun g hg hgb _ _ => Below.heap_setCell w' ⟨w.heap.size + 1, 0, none⟩ _ g (by show g ≠ w.heap.size + 1; omega)
  case done =>
    rintro D xs V hD hS ⟨⟨hI1, hI2, hI3⟩, v, hI4, hI5⟩ hK hKD
    gi_wp2_with fail
    refine wpIn_wide.2 ?_
    have hgx : ∀ q ∈ xs, goodW n q.1 ∧ 0 ≤ q.2 ∧ q.2 ≤ C0 := fun q hq => HG.out q (hS.mem_iff.2 hq)
    have hxl : xs.length ≤ 256 := by
      have h1 := goodW_many (n := n) (T := L) hn1 hn4 hLg.out (fun q hq => (HG.out q hq).1)
      have h2 := hS.length_eq
      omega
    have HS := Lib.hid hS
    clear hS hMs
    go_loopg [] (sprG C0 [] xs) (fun g wr => ∃ T todo mb v, g = sprG C0 T todo ∧ g ≤ 1100000000 ∧ (MemoW wr w.heap.size mb T ∧ (∀ b', mb = some b' → W0.heap.size ≤ b')) ∧ Spr n C0 xs T todo ∧ Boxed wr (w.heap.size + 1) 130 v ∧ RowQ wr W0.heap.size v todo.length todo ∧ Below w.heap.size w wr ∧ wr.heap[D]? = some (.deferred (some [])) ∧ W0.heap.size ≤ wr.heap.size)
    case atStart =>
      refine ⟨[], xs, none, v, rfl, ?_, ⟨⟨hI1, rfl⟩, by simp⟩, Spr.start hgx, hI4, hI5, hI2, hKD, hI3⟩
      unfold sprG psi
      simp; omega
    case round =>
      obtain ⟨T, todo, mb, v, hgk, hgb, ⟨hM, hmb⟩, hsp, hbt, hrq, hB, hDf, hsz⟩ := hrel
      have hfit := hsp.fits hn1 hn4
      have HSP := Lib.hid hsp
      have HGK := Lib.hid hgk
      have htl : todo.length ≤ 1100000000 := by unfold sprG at hgk; omega
      clear hsp hgk
      have hct := hbt.cell
      have hcf := hbt.frozen
      cases todo with
      | nil =>
        obtain ⟨A, c, rfl, hc1, hc2⟩ := hrq.form
        have HR := Lib.hid (after_perm HSP.out.done HS.out)
        have hne := HSP.out.some (fun e => hL (List.Perm.eq_nil (e ▸ HS.out)))
        have hbd := HSP.out.boundT
        have hgd := HSP.out.goodT
        obtain ⟨b', rfl⟩ : ∃ b', mb = some b' := by
          cases mb with
          | none => exact absurd hM.2 hne
          | some b' => exact ⟨b', rfl⟩
        go_wp2
        gi_wp2
        refine ⟨by simp, .inl ⟨_, _, rfl, run_takeDeferred hDf, ?_⟩⟩
        have hb1 : Below w.heap.size w (wr.putObj D (.deferred none)) := hB.trans (belowK_b (w := w) (Nat.le_refl _) wr D _ _ (by omega) hDf rfl rfl)
        refine ⟨_, results_tmp rfl _ _ _, w.heap.size, b', T, rfl, hM.keep fun m _ hm => World.putObj_heap_other (fun e => by subst e; have := hM.book _ _ hm hDf; cases this), Nat.le_refl _, by have := hmb b' rfl; omega, HR.out, hne, fun r hr => ⟨hgd r hr, (hbd r hr).1, by have := (hbd r hr).2; omega⟩, hb1⟩
      | cons s todo =>
        obtain ⟨g, o, c, rfl, hgb2, hgl, hn0, hnc, hcells, hq1, hq2⟩ := hrq.head
        obtain ⟨xk, xc⟩ := s
        have hgs := HSP.out.goodD (xk, xc) (by simp)
        have hbs := HSP.out.boundD (xk, xc) (by simp)
        obtain ⟨e0, e1, e2, e3, rfl⟩ := okP_decW (goodW_ok hn1 hn4 hgs)
        have c0 : wr.cell? ⟨g, o, none⟩ = some (.int .i64 e0) := hcells 0 _ rfl
        simp only [List.length_cons, Nat.add_sub_cancel] at hrq hn0 hnc hq1 hq2 hbt hct htl
        have c1 := hcells 1 _ rfl
        have c2 := hcells 2 _ rfl
        have c3 := hcells 3 _ rfl
        have c4 := hcells 4 _ rfl
        have hba := hbt.alloc (.cells #[.int .i64 e0, .int .i64 e1, .int .i64 e2, .int .i64 e3, .int .i64 xc] 132)
        have hca := hba.cell
        have hfa := hba.frozen
        have hrqA := hrq.below ((Below.refl _ wr).alloc (Nat.le_refl _) (.cells #[.int .i64 e0, .int .i64 e1, .int .i64 e2, .int .i64 e3, .int .i64 xc] 132))
        go_wp2_with (first
          | (refine wpList_tailQ _ rfl _ rfl W0.heap.size _ (todo.length + 1) ([e0, e1, e2, e3], xc) todo rfl hrqA (by omega) ?_; intro A2 c2 hqx hown; rw [Nat.add_sub_cancel] at hqx hown ⊢)
          | fail)
        generalize Value.slice A2 todo.length c2 = v2 at hqx hown ⊢
        clear hq1 hq2 hca hfa c0 c1 c2 c3 c4 hcells hct hcf hrqA
        replace hown : v2.ownBlock = some g := hown
        have hW1 : ∀ k, k < wr.heap.size → (wr.alloc (.cells #[.int .i64 e0, .int .i64 e1, .int .i64 e2, .int .i64 e3, .int .i64 xc] 132)).heap[k]? = wr.heap[k]? := fun k hk => Below.heap_alloc wr _ k hk
        have hS1 : (wr.alloc (.cells #[.int .i64 e0, .int .i64 e1, .int .i64 e2, .int .i64 e3, .int .i64 xc] 132)).heap[wr.heap.size]? = some (.cells #[.int .i64 e0, .int .i64 e1, .int .i64 e2, .int .i64 e3, .int .i64 xc] 132 (0, 0)) := World.alloc_heap_new wr _
        have hz1 : (wr.alloc (.cells #[.int .i64 e0, .int .i64 e1, .int .i64 e2, .int .i64 e3, .int .i64 xc] 132)).heap.size = wr.heap.size + 1 := by simp
        have hB2 := (hB.alloc hB.size (.cells #[.int .i64 e0, .int .i64 e1, .int .i64 e2, .int .i64 e3, .int .i64 xc] 132)).setCell (p := ⟨w.heap.size + 1, 0, none⟩) (by show w.heap.size ≤ w.heap.size + 1; omega) v2
        have hbt2 := hba.set v2
        have hk2 : ∀ k, k ≠ w.heap.size + 1 → ((wr.alloc (.cells #[.int .i64 e0, .int .i64 e1, .int .i64 e2, .int .i64 e3, .int .i64 xc] 132)).setCell ⟨w.heap.size + 1, 0, none⟩ v2).heap[k]? = (wr.alloc (.cells #[.int .i64 e0, .int .i64 e1, .int .i64 e2, .int .i64 e3, .int .i64 xc] 132)).heap[k]? := fun k hk => Below.heap_setCell _ ⟨w.heap.size + 1, 0, none⟩ _ k hk
        have hz2 : ((wr.alloc (.cells #[.int .i64 e0, .int .i64 e1, .int .i64 e2, .int .i64 e3, .int .i64 xc] 132)).setCell ⟨w.heap.size + 1, 0, none⟩ v2).heap.size = wr.heap.size + 1 := by simp
        obtain ⟨W2, hW2⟩ : ∃ W2, (wr.alloc (.cells #[.int .i64 e0, .int .i64 e1, .int .i64 e2, .int .i64 e3, .int .i64 xc] 132)).setCell ⟨w.heap.size + 1, 0, none⟩ v2 = W2 := ⟨_, rfl⟩
        rw [hW2] at hB2 hbt2 hk2 hz2 ⊢
        have hkk : ∀ k, k < wr.heap.size → k ≠ w.heap.size + 1 → W2.heap[k]? = wr.heap[k]? := fun k h1 h2 => (hk2 k h2).trans (hW1 k h1)
        have hS2 := (hk2 wr.heap.size (by omega)).trans hS1
        have hk2' := hk2
        have hM2 : MemoW W2 w.heap.size mb T := hM.keep fun k hk hS => hkk k hk (by
          rcases hS with e | e
          · omega
          · have := hmb k e; omega)
        have hq2 : RowQ W2 W0.heap.size v2 todo.length todo := hqx.keep fun k _ hb hk _ => hk2' k (by omega)
        have hD2 : W2.heap[D]? = some (.deferred (some [])) := (hkk D (Array.getElem?_eq_some_iff.1 hDf).1 (by omega)).trans hDf
        clear hk2 hk2' hW1 hS1 hz1 hba hW2 hqx
        have hxw : (Lit.int .i64 xc).wf = true := WalkArith.wf_i64 (by omega)
        refine (less_W w.heap.size mb T [e0, e1, e2, e3] xc W2 hM2 (goodW_ok hn1 hn4 hgs) hxw (by omega)).mono ?_
        rintro e W3 ⟨rfl, mb', hM3, hmb3, hT3⟩
        have hml := hM.lt
        have hns : ∀ k, k ≠ w.heap.size → k < W0.heap.size → ¬ memoS w.heap.size mb k := by
          rintro k h1 h2 (e | e)
          · exact h1 e
          · have := hmb k e; omega
        have hbt3 : Boxed W3 (w.heap.size + 1) 130 v2 := (hT3.block _ (by omega) (hns _ (by omega) (by omega))).trans hbt2
        have hS3 := (hT3.block wr.heap.size (by omega) (fun e => by have := hml _ e; omega)).trans hS2
        have hq3 : RowQ W3 W0.heap.size v2 todo.length todo := hq2.keep fun k e _ hk _ => hT3.block k hk (fun hm => memo_ne_row hM2 hq2 (by omega) k hm e.symm)
        have hD3 : W3.heap[D]? = some (.deferred (some [])) := (hT3.block D (Array.getElem?_eq_some_iff.1 hD2).1 (fun hm => by have := hM2.book D _ hm hD2; cases this)).trans hD2
        have hB3 : Below w.heap.size w W3 := hB2.trans (hT3.below (by omega) (fun k hk => by
          rcases hk with e | e
          · omega
          · have := hmb k e; omega))
        have hz3 : wr.heap.size + 1 ≤ W3.heap.size := by have := hT3.size; omega
        have hmb4 : ∀ b', mb' = some b' → W0.heap.size ≤ b' := by
          intro b' e
          rcases hmb3 with rfl | ⟨_, b2, e2, h2⟩
          · exact hmb b' e
          · rw [e2] at e; cases e; omega
        clear hT3 hmb3 hM2 hq2 hD2 hbt2 hS2 hB2 hM hbt hrq hB hDf
        cases hb : lessB T [e0, e1, e2, e3] xc with
        | false =>
          rw [lessB_no hb] at hM3
          have hsp2 := Lib.hid (HSP.out.drop hb)
          have hlg := Lib.hid (Spr.dropG (C0 := C0) (T := T) (todo := todo) (x := [e0, e1, e2, e3]) (c := xc))
          clear hb
          have hct3 := hbt3.cell
          go_wp2
          go_roundg (sprG C0 T todo)
          case rel => exact ⟨T, todo, mb', v2, rfl, by have := hlg.out; rw [← HGK.out] at this; omega, ⟨hM3, hmb4⟩, hsp2.out, hbt3, hq3, hB3, hD3, by omega⟩
          case measure => have := hlg.out; rw [← HGK.out] at this; exact this
        | true =>
          have hsp2 := Lib.hid (HSP.out.push hb hn1)
          have hlg := Lib.hid (HSP.out.lessG hb hn1 hn4)
          clear hb
          generalize lessL T [e0, e1, e2, e3] xc = T2 at hM3 hsp2 hlg
          go_wp2_with fail
          have hgs2 := Lib.hid hgs
          obtain ⟨n1, hn1'⟩ : ∃ n1, n = n1 + 1 := ⟨n - 1, by omega⟩
          have HN1 := Lib.hid hn1'
          clear hn1'
          obtain ⟨S, hSeq⟩ : ∃ S, wr.heap.size = S := ⟨_, rfl⟩
          rw [hSeq] at hS3 hgl hsz hz2 hz3 hkk ⊢
          go_loopw [10] (fun i w4 => ∃ (k : Nat) (v3 : Value), k ≤ n1 ∧ i = .int .i64 (k + 1 : Nat) ∧ Boxed w4 (w.heap.size + 1) 130 v3 ∧ RowQ w4 W0.heap.size v3 (todo.length + k) (todo ++ nbsL ([e0, e1, e2, e3], xc) k) ∧ v3.ownBlock ≠ some S ∧
            w4.heap[S]? = some (.cells #[.int .i64 e0, .int .i64 e1, .int .i64 e2, .int .i64 e3, .int .i64 xc] 132 (0, 0)) ∧ w4.heap[D]? = some (.deferred (some [])) ∧ Below w.heap.size w w4 ∧ MemoW w4 w.heap.size mb' T2 ∧ W3.heap.size ≤ w4.heap.size) (fun i _ => n - (intOf i).toNat)
          case atStart => exact ⟨0, v2, by omega, rfl, hbt3, by simpa [nbsL] using hq3, by rw [hown]; simp; omega, hS3, hD3, hB3, hM3, Nat.le_refl _⟩
          case round =>
            clear hq3 hS3 hD3 hB3 hM3 hbt3
            obtain ⟨k, v3, hk, rfl, hbt3, hq3, hno3, hS3, hD3, hB3, hM3, hz4⟩ := hrel
            by_cases hlt : k < n1
            · have hk3 : k < 3 := by have := HN1.out; omega
              have hkn : k + 1 < n := by have := HN1.out; omega
              obtain ⟨c0, c1, c2, c3, c4⟩ := cells5 hS3
              go_wp2_with fail
              obtain ⟨u, hu⟩ : ∃ u, [e0, e1, e2, e3].getD k 0 = u := ⟨_, rfl⟩
              obtain ⟨x, hx⟩ : ∃ x, [e0, e1, e2, e3].getD (k + 1) 0 = x := ⟨_, rfl⟩
              have hNn := World.alloc_heap_new wr (.cells #[.int .i64 e0, .int .i64 e1, .int .i64 e2, .int .i64 e3, .int .i64 xc] 132)
              have g4 : Below wr.heap.size wr (wr.alloc (.cells #[.int .i64 e0, .int .i64 e1, .int .i64 e2, .int .i64 e3, .int .i64 xc] 132)) := (Below.refl _ wr).alloc (Nat.le_refl _) _
              have hz5 : (wr.alloc (.cells #[.int .i64 e0, .int .i64 e1, .int .i64 e2, .int .i64 e3, .int .i64 xc] 132)).heap.size = wr.heap.size + 1 := by simp
              obtain ⟨W4, hW4⟩ : ∃ W4, wr.alloc (.cells #[.int .i64 e0, .int .i64 e1, .int .i64 e2, .int .i64 e3, .int .i64 xc] 132) = W4 := ⟨_, rfl⟩
              rw [hW4] at hNn g4 hz5 ⊢
              obtain ⟨N, hN⟩ : ∃ N, wr.heap.size = N := ⟨_, rfl⟩
              rw [hN] at hNn g4 hz5 hz4 ⊢
              clear c0 c1 c2 c3 c4 hW4
              have hS4 := (g4.block S (by omega)).trans hS3
              have su : W4.cell? ⟨S, k, none⟩ = some (.int .i64 u) := by
                obtain ⟨c0, c1, c2, c3, c4⟩ := cells5 hS4
                rcases (show k = 0 ∨ k = 1 ∨ k = 2 by omega) with e | e | e <;> subst e <;> subst hu <;> assumption
              have sx : W4.cell? ⟨S, k + 1, none⟩ = some (.int .i64 x) := by
                obtain ⟨c0, c1, c2, c3, c4⟩ := cells5 hS4
                rcases (show k = 0 ∨ k = 1 ∨ k = 2 by omega) with e | e | e <;> subst e <;> subst hx <;> assumption
              have nu : W4.cell? ⟨N, k, none⟩ = some (.int .i64 u) := by
                obtain ⟨c0, c1, c2, c3, c4⟩ := cells5 hNn
                rcases (show k = 0 ∨ k = 1 ∨ k = 2 by omega) with e | e | e <;> subst e <;> subst hu <;> assumption
              have nx : W4.cell? ⟨N, k + 1, none⟩ = some (.int .i64 x) := by
                obtain ⟨c0, c1, c2, c3, c4⟩ := cells5 hNn
                rcases (show k = 0 ∨ k = 1 ∨ k = 2 by omega) with e | e | e <;> subst e <;> subst hx <;> assumption
              have fu : W4.frozen? ⟨N, k, none⟩ = false := by simp [World.frozen?, hNn]
              have fx : W4.frozen? ⟨N, k + 1, none⟩ = false := by simp [World.frozen?, hNn]
              have hki : (k : Int) < 3 := by omega
              have hki0 : (0 : Int) ≤ (k : Int) := by omega
              have hki1 : (0 : Int) ≤ (k : Int) + 1 := by omega
              have hki2 : (k : Int) + 1 < 4 := by omega
              have hki3 : (k : Int) < 4 := by omega
              have hwk : IntKind.i64.wrap (k : Int) = k := by rw [IntKind.wrap_i64]; omega
              have hSN : ¬ S = N := by omega
              have hNS : ¬ N = S := by omega
              go_region_held3 (fun w' => w'.cell? ⟨S, k, none⟩ = some (.int .i64 u) ∧ w'.cell? ⟨S, k + 1, none⟩ = some (.int .i64 x)) (go_keep) (fail)
              clear su sx nu nx fu fx hwk hki hki0 hki1 hki2 hki3 hNS
              obtain ⟨f0, f1, f2, f3, hf1, hf2⟩ := swap_cells e0 e1 e2 e3 xc k hk3
              rw [hu, hx] at hf2
              have hN5 := heap_setCell_at (o := k) (heap_setCell_at (o := k + 1) hNn (.int .i64 u)) (.int .i64 x)
              rw [hf2] at hN5
              have hk5 : ∀ m, m ≠ N → (((W4.setCell ⟨N, k + 1, none⟩ (.int .i64 u)).setCell ⟨N, k, none⟩ (.int .i64 x)).drew).heap[m]? = W4.heap[m]? := fun m hm => (Below.heap_setCell (W4.setCell ⟨N, k + 1, none⟩ (.int .i64 u)) ⟨N, k, none⟩ _ m hm).trans (Below.heap_setCell W4 ⟨N, k + 1, none⟩ _ m hm)
              have hz6 : (((W4.setCell ⟨N, k + 1, none⟩ (.int .i64 u)).setCell ⟨N, k, none⟩ (.int .i64 x)).drew).heap.size = N + 1 := by
                show ((W4.setCell ⟨N, k + 1, none⟩ (.int .i64 u)).setCell ⟨N, k, none⟩ (.int .i64 x)).heap.size = _
                simp [hz5]
              have g5 : Below N wr (((W4.setCell ⟨N, k + 1, none⟩ (.int .i64 u)).setCell ⟨N, k, none⟩ (.int .i64 x)).drew) := ((g4.setCell (p := ⟨N, k + 1, none⟩) (Nat.le_refl _) _).setCell (p := ⟨N, k, none⟩) (Nat.le_refl _) _).drew
              replace hN5 : (((W4.setCell ⟨N, k + 1, none⟩ (.int .i64 u)).setCell ⟨N, k, none⟩ (.int .i64 x)).drew).heap[N]? = some (.cells #[.int .i64 f0, .int .i64 f1, .int .i64 f2, .int .i64 f3, .int .i64 xc] 132 (0, 0)) := hN5
              generalize (((W4.setCell ⟨N, k + 1, none⟩ (.int .i64 u)).setCell ⟨N, k, none⟩ (.int .i64 x)).drew) = W5 at hN5 hk5 hz6 g5 ⊢
              have HF := Lib.hid hf1
              clear hf1 hf2 hu hx hNn g4 hS4 hz5 hk5
              obtain ⟨_, _, _, _, q4⟩ := cells5 hN5
              have qf : W5.frozen? ⟨N, 4, none⟩ = false := by simp [World.frozen?, hN5]
              have hN6 : (W5.setCell ⟨N, 4, none⟩ (.int .i64 (xc + 1))).heap[N]? = some (.cells #[.int .i64 f0, .int .i64 f1, .int .i64 f2, .int .i64 f3, .int .i64 (xc + 1)] 132 (0, 0)) := heap_setCell_at (o := 4) hN5 (.int .i64 (xc + 1))
              obtain ⟨r0, r1, r2, r3, r4⟩ := cells5 hN6
              have g6 : Below N wr (W5.setCell ⟨N, 4, none⟩ (.int .i64 (xc + 1))) := g5.setCell (p := ⟨N, 4, none⟩) (Nat.le_refl _) _
              have hz7 : (W5.setCell ⟨N, 4, none⟩ (.int .i64 (xc + 1))).heap.size = N + 1 := by simp [hz6]
              have hbt6 : Boxed (W5.setCell ⟨N, 4, none⟩ (.int .i64 (xc + 1))) (w.heap.size + 1) 130 v3 := (g6.block _ (by omega)).trans hbt3
              have hct6 := hbt6.cell
              have hq6 : RowQ (W5.setCell ⟨N, 4, none⟩ (.int .i64 (xc + 1))) W0.heap.size v3 (todo.length + k) (todo ++ nbsL ([e0, e1, e2, e3], xc) k) := hq3.keep fun m _ _ hm _ => g6.block m (by omega)
              have hq7 := hq6.below ((Below.refl _ (W5.setCell ⟨N, 4, none⟩ (.int .i64 (xc + 1)))).alloc (Nat.le_refl _) (.cells #[.int .i64 f0, .int .i64 f1, .int .i64 f2, .int .i64 f3, .int .i64 (xc + 1)] 132))
              have hcn := Lib.hid (cellsS_new (W5.setCell ⟨N, 4, none⟩ (.int .i64 (xc + 1))) 132 f0 f1 f2 f3 (xc + 1))
              rw [hz7] at hcn
              clear hN5
              go_wp2_with (first
                | (at_builtin; refine wpList_pushQ _ rfl _ _ rfl W0.heap.size v3 (todo.length + k) (todo ++ nbsL ([e0, e1, e2, e3], xc) k) rfl hq7 (by omega) (by simp; omega) (N + 1) ([f0, f1, f2, f3], xc + 1) rfl hcn.out rfl ?_; intro v' w' h1 h2 h3; obtain ⟨A', c', rfl, _, _⟩ := h1.form; have hbt7 : Boxed w' (w.heap.size + 1) 130 v3 := (hbt6.alloc _).kept h2 (hq3.ne (by omega)); have hct7 := hbt7.cell; have hcf7 := hbt7.frozen; have H123 := Lib.hid (And.intro h1 (And.intro h2 h3)); clear h1 h2 h3 hct6)
                | fail)
              obtain ⟨h1, h2, h3⟩ := H123.out
              have g7 : Below N wr ((W5.setCell ⟨N, 4, none⟩ (.int .i64 (xc + 1))).alloc (.cells #[.int .i64 f0, .int .i64 f1, .int .i64 f2, .int .i64 f3, .int .i64 (xc + 1)] 132)) := g6.alloc (by omega) _
              have hM7 : MemoW ((W5.setCell ⟨N, 4, none⟩ (.int .i64 (xc + 1))).alloc (.cells #[.int .i64 f0, .int .i64 f1, .int .i64 f2, .int .i64 f3, .int .i64 (xc + 1)] 132)) w.heap.size mb' T2 := hM3.keep fun m hm _ => g7.block m (by omega)
              have hz8 : ((W5.setCell ⟨N, 4, none⟩ (.int .i64 (xc + 1))).alloc (.cells #[.int .i64 f0, .int .i64 f1, .int .i64 f2, .int .i64 f3, .int .i64 (xc + 1)] 132)).heap.size = N + 2 := by simp [hz6]
              have hz9 := h2.size
              have hDl : D < N := by have := (Array.getElem?_eq_some_iff.1 hD3).1; omega
              have hblk : ∀ m, m < N → some m ≠ v3.ownBlock → m ≠ w.heap.size + 1 → (w'.setCell ⟨w.heap.size + 1, 0, none⟩ (.slice A' (todo.length + k + 1) c')).heap[m]? = wr.heap[m]? := fun m h4 h5 h6 => (Below.heap_setCell w' ⟨w.heap.size + 1, 0, none⟩ _ m h6).trans ((h2.block m (by omega) h5).trans (g7.block m h4))
              have hmN : ∀ m, memoS w.heap.size mb' m → m < N := fun m hm => by have := hM3.lt m hm; omega
              have hmT : ∀ m, memoS w.heap.size mb' m → m ≠ w.heap.size + 1 := by
                rintro m (e | e)
                · omega
                · have := hmb4 m e; omega
              go_roundw
              case rel =>
                refine ⟨k + 1, .slice A' (todo.length + k + 1) c', by omega, by go_num, hbt7.set _, ?_, ?_, (hblk S (by omega) (fun e => hno3 e.symm) (by omega)).trans hS3, (hblk D hDl (fun e => by have := hq3.notBook (Below.refl _ _) D _ e.symm hD3; cases this) (by omega)).trans hD3, ?_, ?_, ?_⟩
                · rw [nbsL_succ, ← List.append_assoc, HF.out]
                  exact h1.keep fun m hm hmb5 _ _ => Below.heap_setCell w' ⟨w.heap.size + 1, 0, none⟩ _ m (by show m ≠ w.heap.size + 1; omega)
                · rcases h3 with h3 | h3
                  · rw [h3]; exact hno3
                  · rw [h3, hz8]; simp; omega
                · exact (((hB3.trans (g7.mono (by omega))).grown h2 (by omega) (fun m hm => by have := hq3.base hm; omega)).setCell (p := ⟨w.heap.size + 1, 0, none⟩) (by show w.heap.size ≤ w.heap.size + 1; omega) _)
                · exact hM3.keep fun m _ hm => hblk m (hmN m hm) (memo_ne_row hM3 hq3 (by omega) m hm) (hmT m hm)
                · simp; omega
              case measure => simp [intOf]; omega
            · obtain rfl : k = n1 := by omega
              have hnk : (n : Int) = (k : Int) + 1 := by have := HN1.out; omega
              have hct9 := hbt3.cell
              go_wp2
              go_roundg (sprG C0 T2 (todo ++ nbsL ([e0, e1, e2, e3], xc) k))
              case rel =>
                have e9 : n - 1 = k := by have := HN1.out; omega
                have h8 := hsp2.out
                have h9 := hlg.out
                rw [e9] at h8 h9
                rw [← HGK.out] at h9
                have e8 : (todo ++ nbsL ([e0, e1, e2, e3], xc) k).length = todo.length + k := by rw [List.length_append, nbsL_len]
                exact ⟨T2, _, mb', v3, rfl, by omega, ⟨hM3, hmb4⟩, h8, hbt3, by rw [e8]; exact hq3, hB3, hD3, by omega⟩
              case measure =>
                have e9 : n - 1 = k := by have := HN1.out; omega
                have h9 := hlg.out
                rw [e9] at h9
                rw [← HGK.out] at h9
                exact h9
end Go.Proofs.YtmeamgeojcbljaaDoor
