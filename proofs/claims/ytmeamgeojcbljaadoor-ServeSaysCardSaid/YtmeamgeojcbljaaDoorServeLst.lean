/- The walk of serve.Least: it tells the least that all could go. -/
import Derived.Test.YtmeamgeojcbljaaDoorServeChk
import Derived.Test.YtmeamgeojcbljaaDoorMemoLstP
import Derived.Test.YtmeamgeojcbljaaDoorThen
import Derived.Test.YtmeamgeojcbljaaDoorBookV
import Derived.WalkArith
import Derived.StillTailTactics
import Derived.Laws.CopyOwn
import Derived.Test.YtmeamgeojcbljaaDoorInfo
namespace Go.Proofs.YtmeamgeojcbljaaDoor
open Go.RowKit Go.Maps Go.ChangeAt Go.ChangeShapes Go.WideShapes Go.Shelf

theorem sleast_no (A Ac : Option Addr) (n c m cc : Nat) (s a : List Int) (w : World) (h : RI w A n s) (hc : RI w Ac m a) (hn : n ≤ 9223372036854775807) (hm : m ≤ 9223372036854775807) (hg : ¬ GoodS s a) :
    Calls Tryd.prog 44 #[.slice A n c, .slice Ac m cc] w fun e w' =>
      e = .returned (.tuple #[.int .i64 0, .iface 65 (.int .i64 (serveE s a))]) ∧ Below w.heap.size w w' := by
  have HG := Lib.hid hg
  have hB := (Below.refl w.heap.size w).alloc (Nat.le_refl _) (.cells #[.slice A n c] 22)
  have h1 := h.below hB
  have hc1 := hc.below hB
  clear hg
  go_enter Tryd.func44, Tryd.ntmps44
  go_wp2_with fail
  refine (scheck_no _ _ _ _ _ _ _ _ _ h1 hc1 hn hm HG.out).mono ?_; rintro e w' ⟨rfl, rfl⟩
  go_wp2
  exact bodyPost_ret (v := .tuple #[.int .i64 0, .iface 65 (.int .i64 (serveE s a))]) (by simp [results, Tryd.results44, go_sem]) rfl ⟨rfl, hB⟩

theorem cells3 {W : World} {b : Nat} {t : TypeId} {fr : Nat × Nat} {x y z : Value} (h : W.heap[b]? = some (.cells #[x, y, z] t fr)) : W.cell? ⟨b, 0, none⟩ = some x ∧ W.cell? ⟨b, 1, none⟩ = some y ∧ W.cell? ⟨b, 2, none⟩ = some z := by
  refine ⟨?_, ?_, ?_⟩ <;> simp [World.cell?, h]
theorem heap_setRow_same (w : World) (g : Nat) (old cs : Array Value) (t : TypeId) (fr : Nat × Nat) (hg : w.heap[g]? = some (.cells old t fr)) : (w.setRow g cs).heap[g]? = some (.cells cs t fr) := by
  simp [World.setRow, Array.getElem?_modify, hg]
abbrev ThenP (W0 : World) (q : Nat) (R : List Int → Int → Prop) (V : World) : Prop := ThenI Tryd.prog 114 3 118 litP okP W0 q goodP R V
theorem goodP_ok {x : List Int} (h : goodP x) : okP x := ⟨h.1, fun y hy => WalkArith.wf_i64 (by have := h.2 y hy; omega)⟩
theorem less_thenP {W0 V : World} {q : Nat} {R : List Int → Int → Prop} (x : List Int) (c : Int) (h : ThenP W0 q R V) (hq : q < W0.heap.size) (hg : goodP x) (hc : (Lit.int .i64 c).wf = true) :
    Calls Tryd.prog 92 #[.pointer (some ⟨q, 0, none⟩), encP x, .int .i64 c] V fun e w' => (∃ y, e = .returned (.bool y)) ∧ ThenP W0 q (fun k c' => R k c' ∨ (k = x ∧ c' = c)) w' ∧ KeepsBook V w' ∧ KeepsC q V w' ∧
      (∀ b, b < W0.heap.size → b ≠ q → w'.heap[b]? = V.heap[b]?) :=
  ThenI.less (enc := encP) goodP_len hg (fun mb T hm hl => less_P q mb T x c V hm (goodP_ok hg) hc hl) h hq

/-- What a round lays ahead of its loop. -/
def spW (W : World) (x : Int) (pn : Nat) : World := (((W.alloc (.cells #[.int .i64 x] 3)).alloc (.cells #[.map none] 118)).alloc (.cells #[.pointer (some ⟨W.heap.size + 1, 0, none⟩)] 115)).alloc (.cells #[.pointer (some ⟨pn, 0, none⟩)] 115)
theorem spW_facts (W : World) (x : Int) (pn : Nat) : (spW W x pn).heap.size = W.heap.size + 4 ∧ Boxed (spW W x pn) W.heap.size 3 (.int .i64 x) ∧ Boxed (spW W x pn) (W.heap.size + 1) 118 (.map none) ∧
    Boxed (spW W x pn) (W.heap.size + 1 + 1) 115 (.pointer (some ⟨W.heap.size + 1, 0, none⟩)) ∧ Boxed (spW W x pn) (W.heap.size + 1 + 1 + 1) 115 (.pointer (some ⟨pn, 0, none⟩)) ∧ Below W.heap.size W (spW W x pn) := by
  unfold spW
  refine ⟨by simp, ((Boxed.new W _ _).alloc _ |>.alloc _).alloc _, ?_, ?_, ?_, (((Below.refl _ W).alloc (Nat.le_refl _) _).alloc (by simp) _ |>.alloc (by simp; omega) _).alloc (by simp; omega) _⟩
  · have := Boxed.new (W.alloc (.cells #[.int .i64 x] 3)) 118 (.map none)
    rw [World.size_alloc] at this
    exact (this.alloc _).alloc _
  · have := Boxed.new ((W.alloc (.cells #[.int .i64 x] 3)).alloc (.cells #[.map none] 118)) 115 (.pointer (some ⟨W.heap.size + 1, 0, none⟩))
    rw [World.size_alloc, World.size_alloc] at this
    exact this.alloc _
  · have := Boxed.new (((W.alloc (.cells #[.int .i64 x] 3)).alloc (.cells #[.map none] 118)).alloc (.cells #[.pointer (some ⟨W.heap.size + 1, 0, none⟩)] 115)) 115 (.pointer (some ⟨pn, 0, none⟩))
    rw [World.size_alloc, World.size_alloc, World.size_alloc] at this
    exact this
theorem ownB_cellsAt {β : Type} {B k : Nat} {t : TypeId} {fr : Nat × Nat} {cs : Array Value} : OwnB B (fun (_ : β) W => W.heap[k]? = some (.cells cs t fr)) :=
  fun _ X Y row hs hg hr => (hg.block k (Array.getElem?_eq_some_iff.1 hs).1 (fun e => by
    obtain ⟨_, o', h1, h2⟩ := hr k e.symm
    rw [hs] at h1
    cases h1; cases h2)).trans hs
theorem spNx_some {n : Nat} (hn : 0 < n) (x : Int) (p : List Int) : NxS n x p (p.set 0 x) (absI (p.getD 0 0) x) := ⟨0, hn, rfl, rfl⟩

attribute [local go_sem] Oper.semAt_some

set_option maxRecDepth 100000 in
set_option maxHeartbeats 4000000 in
theorem sleast_ok (A Ac : Option Addr) (n c m cc : Nat) (s a0 : List Int) (w : World) (h : RI w A n s) (hc : RI w Ac m a0) (hg : GoodS s a0) :
    Calls Tryd.prog 44 #[.slice A n c, .slice Ac m cc] w fun e w' => ∃ v, e = .returned (.tuple #[.int .i64 v, .nilIface]) ∧ Best (NxS n) (pad3 s) a0 v ∧ Below w.heap.size w w' := by
  have HG := Lib.hid hg
  have hmx : Tryd.prog.follows .mixedOrders = true := by kernel_rfl
  have hB0 := (Below.refl w.heap.size w).alloc (Nat.le_refl _) (.cells #[.slice A n c] 22)
  have h1 := h.below hB0
  have hc1 := hc.below hB0
  have hx2 : Boxed (w.alloc (.cells #[.slice A n c] 22)) w.heap.size 22 (.slice A n c) := Boxed.new w _ _
  clear hg
  refine (callsIn_wide (n := 9)).1 ?_
  refine callsIn_of_wp_marks Tryd.func44 rfl trivial ?_ rfl
  simp only [Tryd.ntmps44, List.size_toArray, List.length_cons, List.length_nil, Nat.reduceAdd, Nat.reduceSub, Array.replicate_succ, Array.replicate_zero, List.push_toArray, List.append_toArray, List.nil_append, List.cons_append]
  gi_wp2_with (first
    | (refine ⟨trivial, ?_⟩; gi_at_call 38; refine (callsIn_wide.2 (scheck_ok _ _ _ _ _ _ _ _ _ h1 hc1 HG.out)).mono ?_; rintro e w' ⟨rfl, rfl⟩)
    | fail)
  have hn3 : n ≤ 3 := by have := h.len; have := HG.out.2.1; omega
  have hn0 : 0 < n := by
    have h0 := h.len
    have := HG.out.1
    rcases Nat.eq_zero_or_pos n with e | e
    · exact absurd (List.eq_nil_of_length_eq_zero (by omega)) this
    · exact e
  obtain ⟨ad, rfl, hcells⟩ := h1.2 hn0
  have hszz : (Tryd.prog.info? 3).map (·.size) = some 1 := by kernel_rfl
  refine wpIn_wide.2 ?_
  refine still_tlP 2 hmx (by kernel_rfl) ?_
  simp only [List.take_succ_cons, List.take_zero, List.drop_succ_cons, List.drop_zero]
  have hx2c := (hx2.alloc (.cells #[.int .i64 0, .int .i64 0, .int .i64 0] 114)).cell
  have hnew : ((w.alloc (.cells #[.slice (some ad) n c] 22)).alloc (.cells #[.int .i64 0, .int .i64 0, .int .i64 0] 114)).heap[w.heap.size + 1]? = some (.cells #[.int .i64 0, .int .i64 0, .int .i64 0] 114 (0, 0)) := by
    have := World.alloc_heap_new (w.alloc (.cells #[.slice (some ad) n c] 22)) (.cells #[.int .i64 0, .int .i64 0, .int .i64 0] 114)
    rwa [World.size_alloc] at this
  repeat still_step
  refine wpStill_nil ?_
  refine wpList_copy_own rfl (.tmp 22) (.tmp 23) _ _ rfl 3 Tryd.underlying22 hszz (w.heap.size + 1) 0 3 3 ad n c rfl rfl #[.int .i64 0, .int .i64 0, .int .i64 0] 114 hnew (s.map (Value.int .i64)) (by rw [List.length_map, h.len]; exact (Nat.min_eq_left hn3).symm) ?_ (by rw [List.length_map, h.len]; simp; omega) ?_ ?_
  · intro j v hv
    rw [List.getElem?_map] at hv
    obtain ⟨y, hy, rfl⟩ := Option.map_eq_some_iff.1 hv
    have := hcells j y hy
    exact ((((Below.refl _ _).alloc (Nat.le_refl _) (.cells #[.int .i64 0, .int .i64 0, .int .i64 0] 114))).cell (cell_lt this)).trans this
  · intro v hv
    obtain ⟨y, _, rfl⟩ := List.mem_map.1 hv
    rfl
  have hrow : (List.take 0 #[Value.int .i64 0, Value.int .i64 0, Value.int .i64 0].toList ++ (s.map (Value.int .i64) ++ List.drop (0 + (s.map (Value.int .i64)).length) #[Value.int .i64 0, Value.int .i64 0, Value.int .i64 0].toList)).toArray = ((pad3 s).map (Value.int .i64)).toArray := by
    congr 1
    have hl : s.length = n := h.len
    unfold pad3
    rw [List.map_append, List.map_replicate, List.length_map, hl, List.take_zero, List.nil_append]
    congr 1
    rcases (show n = 1 ∨ n = 2 ∨ n = 3 by omega) with e | e | e <;> rw [e] <;> rfl
  rw [hrow]
  have hB5 : Below w.heap.size w (((w.alloc (.cells #[.slice (some ad) n c] 22)).alloc (.cells #[.int .i64 0, .int .i64 0, .int .i64 0] 114)).drew.setRow (w.heap.size + 1) ((pad3 s).map (Value.int .i64)).toArray) := below_setRow (hB0.alloc (by simp) _).drew (by omega) _
  have h5row : (((w.alloc (.cells #[.slice (some ad) n c] 22)).alloc (.cells #[.int .i64 0, .int .i64 0, .int .i64 0] 114)).drew.setRow (w.heap.size + 1) ((pad3 s).map (Value.int .i64)).toArray).heap[w.heap.size + 1]? = some (.cells ((pad3 s).map (Value.int .i64)).toArray 114 (0, 0)) := heap_setRow_same _ _ _ _ _ _ hnew
  have h5b : Boxed (((w.alloc (.cells #[.slice (some ad) n c] 22)).alloc (.cells #[.int .i64 0, .int .i64 0, .int .i64 0] 114)).drew.setRow (w.heap.size + 1) ((pad3 s).map (Value.int .i64)).toArray) w.heap.size 22 (.slice (some ad) n c) := (setRow_other _ _ _ _ (by omega)).trans (hx2.alloc _)
  have h5s : (((w.alloc (.cells #[.slice (some ad) n c] 22)).alloc (.cells #[.int .i64 0, .int .i64 0, .int .i64 0] 114)).drew.setRow (w.heap.size + 1) ((pad3 s).map (Value.int .i64)).toArray).heap.size = w.heap.size + 2 := by
    simp [World.setRow]
  have hgp := goodP_pad (by rw [h.len]; exact hn3) HG.out.2.2.2.1
  generalize (((w.alloc (.cells #[.slice (some ad) n c] 22)).alloc (.cells #[.int .i64 0, .int .i64 0, .int .i64 0] 114)).drew.setRow (w.heap.size + 1) ((pad3 s).map (Value.int .i64)).toArray) = W5 at *
  have H1 := Lib.hid h1
  have HC1 := Lib.hid hc1
  clear hrow hnew hx2c hcells h1 hc1 hx2 hB0 hszz
  obtain ⟨s0, s1, s2, hps⟩ : ∃ s0 s1 s2, pad3 s = [s0, s1, s2] := by
    obtain ⟨s0, s1, s2, e⟩ := okP_decP (goodP_ok hgp)
    exact ⟨s0, s1, s2, e⟩
  have h5row' : W5.heap[w.heap.size + 1]? = some (.cells #[.int .i64 s0, .int .i64 s1, .int .i64 s2] 114 (0, 0)) := by rw [h5row, hps]; rfl
  have hx9 : MemoP (W5.alloc (.cells #[.map none] 118)) W5.heap.size none [] := ⟨Boxed.new _ _ _, rfl⟩
  have h5rowA : (W5.alloc (.cells #[.map none] 118)).heap[w.heap.size + 1]? = some (.cells #[.int .i64 s0, .int .i64 s1, .int .i64 s2] 114 (0, 0)) := (Below.heap_alloc _ _ _ (by omega)).trans h5row'
  have c50 := cells3 h5rowA
  have c50a := c50.1
  have c50b := c50.2.1
  have c50c := c50.2.2
  have H5S := Lib.hid h5s
  clear h5row c50 h5s
  show Exit.then _ _ Exit.normal _ _
  gi_wp2_with (first
    | (refine ⟨trivial, ?_⟩; gi_at_call 92; refine (callsIn_wide.2 (less_P W5.heap.size none [] [s0, s1, s2] 0 _ hx9 (hps ▸ goodP_ok hgp) (by decide) (by simp))).mono ?_; rintro e w1 ⟨rfl, mb0, hM0, hmb0, hT0⟩)
    | fail)
  obtain ⟨b0, rfl⟩ : ∃ b0, mb0 = some b0 := by
    cases mb0 with
    | none => exact absurd (show lessL ([] : List (List Int × Int)) [s0, s1, s2] 0 = [] from hM0.2) (by simp [lessL])
    | some b0 => exact ⟨b0, rfl⟩
  have h5s := H5S.out
  have hS : ∀ k, memoS W5.heap.size none k → k = W5.heap.size := by
    intro k hk
    rcases hk with e | e
    · exact e
    · cases e
  have hB1 : Below w.heap.size w w1 := (hB5.alloc (by omega) _).trans (hT0.below (by simp; omega) (fun k hk => by have := hS k hk; omega))
  have hx2' : Boxed w1 w.heap.size 22 (.slice (some ad) n c) := (hT0.block _ (by simp; omega) (fun hk => by have := hS _ hk; omega)).trans (h5b.alloc _)
  have hsz1 : w.heap.size + 2 ≤ w1.heap.size := by have := hT0.size; simp at this; omega
  clear h5s hx9 h5rowA c50a c50b c50c h5row' hT0 hmb0 h5b hS
  refine wpIn_loop (fun a W => ∃ (j pn b : Nat) (L : List (List Int × Int)) (ds : List Deferred) (v24 v29 v10 v11 v33 v34 v35 v36 v37 v38 v39 v62 v63 : Value), a = { tmps := #[.slice (some ad) n c, .slice Ac m cc, .pointer (some ⟨w.heap.size, 0, none⟩), undef, .int .i64 0, .nilIface, .nilIface, .pointer (some ⟨w.heap.size + 1, 0, none⟩), .pointer (some ⟨pn, 0, none⟩), undef, v10, v11, undef, undef, undef, undef, .slice (some ad) n c, .slice Ac m cc, .nilIface, .nilIface, .bool false, undef, .slice (some ⟨w.heap.size + 1, 0, none⟩) 3 3, .slice (some ad) n c, v24, .agg #[.map none], .pointer (some ⟨W5.heap.size, 0, none⟩), .pointer (some ⟨W5.heap.size, 0, none⟩), .agg #[.int .i64 s0, .int .i64 s1, .int .i64 s2], v29, .slice Ac m cc, .int .i64 m, .int .i64 j, v33, v34, v35, v36, v37, v38, v39, undef, undef, undef, undef, undef, undef, undef, undef, undef, undef, undef, undef, undef, undef, undef, undef, undef, undef, undef, undef, undef, undef, v62, v63, undef, undef], defers := ds } ∧ j ≤ m ∧ L ≠ [] ∧ MemoP W pn (some b) L ∧ MemoR (RunTo (NxS n) (pad3 s) (a0.take j)) L ∧ Marks w.heap.size W ds ∧ Below w1.heap.size w1 W)
    (fun a W => m - (intOf (a.tmps.getD 32 undef)).toNat) ?start ?round
  case start =>
    refine ⟨0, W5.heap.size, b0, [([s0, s1, s2], 0)], [], _, _, _, _, _, _, _, _, _, _, _, _, _, rfl, by omega, by simp, by simpa [lessL] using hM0, ?_, trivial, Below.refl _ _⟩
    refine ⟨fun q hq => ?_, fun k c hk => ?_⟩
    · simp at hq; subst hq; exact ⟨hps.symm, rfl⟩
    · obtain ⟨rfl, rfl⟩ := hk; exact ⟨([s0, s1, s2], 0), by simp, hps.symm, by simp⟩
  case round =>
    rintro a W ⟨j, pn, b, L, ds, v24, v29, v10, v11, v33, v34, v35, v36, v37, v38, v39, v62, v63, rfl, hj, hLne, hM, hR, hMk, hBW⟩
    have hBt : Below w.heap.size w W := hB1.trans (hBW.mono (by omega))
    have hszW : w1.heap.size ≤ W.heap.size := hBW.size
    have hcs := hc.below hBt
    have b2 : Boxed W w.heap.size 22 (.slice (some ad) n c) := (hBW.block _ (by omega)).trans hx2'
    have hm20 : m ≤ 20 := by have := hc.len; have := HG.out.2.2.1; omega
    have HR := Lib.hid hR
    clear hR
    have HL := Lib.hid (show ∀ q ∈ L, goodP q.1 ∧ 0 ≤ q.2 ∧ q.2 ≤ 240 from fun q hq => by
      have := runS_in (k := n) (a := a0.take j) (fun x hx => HG.out.2.2.2.2 x (List.mem_of_mem_take hx)) hgp (HR.out.1 q hq)
      obtain ⟨x1, x2, x3⟩ := this
      have : (a0.take j).length ≤ 20 := by rw [List.length_take]; have := HG.out.2.2.1; omega
      exact ⟨x1, x2, by omega⟩)
    by_cases hjn : j < m
    · obtain ⟨adc, y, rfl, hy, hcell⟩ := hcs.at_ hjn
      have hyin := HG.out.2.2.2.2 y (List.mem_of_getElem? hy.out)
      gi_wp2_with (first
        | (refine ⟨trivial, ?_⟩; gi_at_call 93; refine (callsIn_wide.2 (all_P pn _)).mono ?_; rintro e w' ⟨rfl, rfl⟩)
        | fail)
      change Code.wpIn _ _ _ _ _ _ (spW W y pn)
      obtain ⟨z0, z1, z2, z3, z4, z5⟩ := spW_facts W y pn
      have hMs := hM.lt
      have hbW : b < W.heap.size := hMs b (.inr rfl)
      have hpW : pn < W.heap.size := hMs pn (.inl rfl)
      have hM0' : MemoP (spW W y pn) pn (some b) L := hM.keep fun k hk _ => z5.block k hk
      obtain ⟨W0, hW0⟩ : ∃ W0, spW W y pn = W0 := ⟨_, rfl⟩
      rw [hW0] at z0 z1 z2 z3 z4 z5 hM0' ⊢
      refine range_bookV rfl (by omega) (gf := 107) (lb := #[.pointer (some ⟨W.heap.size + 1 + 1 + 1, 0, none⟩)]) rfl trivial (enters_of Tryd.func107 (by kernel_rfl) rfl)
        (alls_P 8 (W.heap.size + 1 + 1 + 1) pn b L W0 (by omega) z4.cell hM0') (fun h k => KeepsIt.trans h k) (fun W l o o' hl h => KeepsIt.putObj (by omega) hl h) (Below.refl _ _) (fun _ => rfl)
        (fun pre V => ThenP W0 (W.heap.size + 1) (After (NxS n) y pre) V) (ThenI.own (Nat.le_refl _))
        ((ThenI.start z2).congr (fun k c => ⟨fun h => h.elim, fun h => after_nil h⟩))
        (fun x a' V => ∃ Bn, W0.heap.size ≤ Bn ∧ V.heap[Bn]? = some (.cells (x.1.map (Value.int .i64)).toArray 114 (0, 0)) ∧ a' = { tmps := #[.slice (some ad) n c, .slice (some adc) m cc, .pointer (some ⟨w.heap.size, 0, none⟩), undef, .int .i64 0, .nilIface, .nilIface, .pointer (some ⟨w.heap.size + 1, 0, none⟩), .pointer (some ⟨pn, 0, none⟩), undef, .pointer (some ⟨W.heap.size, 0, none⟩), .pointer (some ⟨W.heap.size + 1 + 1, 0, none⟩), .pointer (some ⟨Bn, 0, none⟩), .int .i64 x.2, undef, undef, .slice (some ad) n c, .slice (some adc) m cc, .nilIface, .nilIface, .bool false, undef, .slice (some ⟨w.heap.size + 1, 0, none⟩) 3 3, .slice (some ad) n c, v24, .agg #[.map none], .pointer (some ⟨W5.heap.size, 0, none⟩), .pointer (some ⟨W5.heap.size, 0, none⟩), .agg #[.int .i64 s0, .int .i64 s1, .int .i64 s2], v29, .slice (some adc) m cc, .int .i64 m, .int .i64 j, .bool true, .pointer (some (adc.add j)), .int .i64 y, .agg #[.map none], .pointer (some ⟨W.heap.size + 1, 0, none⟩), .pointer (some ⟨pn, 0, none⟩), .func (.func 107) #[] #[.pointer (some ⟨W.heap.size + 1 + 1 + 1, 0, none⟩)], encP x.1, .int .i64 x.2, undef, undef, undef, undef, undef, undef, undef, undef, undef, undef, undef, undef, undef, undef, undef, undef, undef, undef, undef, undef, v62, v63, undef, undef], defers := [] })
        (fun x a' => fun s A B row hs hg hr => by
          obtain ⟨Bn, h1, h2, h3⟩ := hs
          exact ⟨Bn, h1, ownB_cellsAt (β := Unit) s A B row h2 hg hr, h3⟩) ?assign ?body ?done
      case assign =>
        rintro lp pre ⟨xk, xc⟩ V K hI ⟨rest, hP⟩ hK
        obtain ⟨k0, k1, k2⟩ := HL.out (xk, xc) (hP.mem_iff.2 (by simp))
        obtain ⟨a0, a1, a2, rfl⟩ := okP_decP (goodP_ok k0)
        rw [show encP [a0, a1, a2] = .agg #[.int .i64 a0, .int .i64 a1, .int .i64 a2] from rfl] at hK
        rw [show encsP ([a0, a1, a2], xc) = #[.agg #[.int .i64 a0, .int .i64 a1, .int .i64 a2], .int .i64 xc] from rfl]
        gi_wp2
        exact hK _ _ (KeepsBook.alloc _ _) (KeepsIt.below ((Below.refl _ V).alloc (Nat.le_refl _) _)) (hI.below ((Below.refl _ V).alloc (Nat.le_refl _) _)) ⟨V.heap.size, hI.turned.size, World.alloc_heap_new V _, rfl⟩
      case body =>
        rintro lp pre ⟨xk, xc⟩ a' V hl ⟨r, hr⟩ hI ⟨Bn, hBn, hrow, rfl⟩ ⟨rest, hP⟩
        obtain ⟨k0, k1, k2⟩ := HL.out (xk, xc) (hP.mem_iff.2 (by simp))
        obtain ⟨e0, e1, e2, rfl⟩ := okP_decP (goodP_ok k0)
        have hT := hI.turned
        have t2 : Boxed V w.heap.size 22 (.slice (some ad) n c) := (hT.block _ (by omega) (by omega)).trans ((z5.block _ (by omega)).trans b2)
        have t10 : Boxed V W.heap.size 3 (.int .i64 y) := (hT.block _ (by omega) (by omega)).trans z1
        have t11 : Boxed V (W.heap.size + 1 + 1) 115 (.pointer (some ⟨W.heap.size + 1, 0, none⟩)) := (hT.block _ (by omega) (by omega)).trans z3
        have hszV : W0.heap.size ≤ V.heap.size := hT.size
        have hBnV : Bn < V.heap.size := (Array.getElem?_eq_some_iff.1 hrow).1
        have c2 := t2.cell
        have c12 := cells3 hrow
        have hyg : 0 ≤ y ∧ y ≤ 12 := hyin
        have hmx2 : Tryd.prog.follows .mixedOrders = true := by kernel_rfl
        have hqW : W.heap.size + 1 < W0.heap.size := by omega
        have hxc : 0 ≤ xc ∧ xc ≤ 240 := ⟨k1, k2⟩
        have KG := Lib.hid k0
        clear k0 k1 k2
        gi_wp2_with fail
        gi_loopw [44] (fun i wr => ∃ k : Nat, k ≤ n ∧ i = .int .i64 k ∧ KeepsBook V wr ∧ KeepsIt b V wr ∧ KeepsC (W.heap.size + 1) V wr ∧
          ThenP W0 (W.heap.size + 1) (fun kk cc => After (NxS n) y pre kk cc ∨ ∃ i, i < k ∧ kk = [e0, e1, e2].set i y ∧ cc = xc + absI ([e0, e1, e2].getD i 0) y) wr) (fun i _ => n - (intOf i).toNat)
        case atStart => exact ⟨0, by omega, by go_num, .refl _, .refl _ _, .refl _ _, hI.congr (fun kk cc => by simp)⟩
        case round =>
          obtain ⟨k, hk, rfl, hKB, hKI, hKC, hIr⟩ := hrel
          have r10 := hKC.boxed t10 (by omega)
          have r11 := hKC.boxed t11 (by omega)
          have rrow := hKC.cells _ _ hrow rfl (by omega)
          obtain ⟨d0, d1, d2⟩ := cells3 rrow
          by_cases hlt : k < n
          · have hk3 : k < 3 := by omega
            have d10 := (r10.alloc (.cells #[.int .i64 e0, .int .i64 e1, .int .i64 e2] 114)).cell
            gi_wp2_with fail
            obtain ⟨f0, f1, f2, hf⟩ : ∃ f0 f1 f2, [e0, e1, e2].set k y = [f0, f1, f2] := okP_decP (goodP_ok (goodP_set KG.out hyg k))
            have hfg : goodP [f0, f1, f2] := hf ▸ goodP_set KG.out hyg k
            obtain ⟨ek, hek⟩ : ∃ ek, [e0, e1, e2].getD k 0 = ek := ⟨_, rfl⟩
            have hekg : 0 ≤ ek ∧ ek ≤ 12 := hek ▸ getD_in KG.out k
            have hcs : ([Value.int .i64 e0, Value.int .i64 e1, Value.int .i64 e2].set k (Value.int .i64 y)) = [.int .i64 f0, .int .i64 f1, .int .i64 f2] := by
              have := congrArg (List.map (Value.int .i64)) hf
              simpa [List.map_set] using this
            rw [hcs]
            obtain ⟨W3, hW3⟩ : ∃ W3, wr.alloc (.cells [Value.int .i64 f0, Value.int .i64 f1, Value.int .i64 f2].toArray 114) = W3 := ⟨_, rfl⟩
            have g8 : Below wr.heap.size wr W3 := hW3 ▸ (Below.refl _ wr).alloc (Nat.le_refl _) _
            have q15 : W3.heap[wr.heap.size]? = some (.cells #[Value.int .i64 f0, Value.int .i64 f1, Value.int .i64 f2] 114 (0, 0)) := by
              rw [← hW3]; exact World.alloc_heap_new wr _
            obtain ⟨q0, q1, q2⟩ := cells3 q15
            rw [hW3]
            have s10 := (KeepsC.boxed (q := W.heap.size + 1) (KeepsC.below g8) r10 (by omega)).cell
            have s11 := (KeepsC.boxed (q := W.heap.size + 1) (KeepsC.below g8) r11 (by omega)).cell
            have srow := (g8.block _ (Array.getElem?_eq_some_iff.1 rrow).1).trans rrow
            obtain ⟨x0, x1, x2⟩ := cells3 srow
            have sk : W3.cell? ⟨Bn, k, none⟩ = some (.int .i64 ek) := by
              rcases (show k = 0 ∨ k = 1 ∨ k = 2 by omega) with e | e | e <;> subst e <;> subst hek <;> assumption
            clear hW3 x0 x1 x2 hcs d0 d1 d2 d10 r10 r11 q15 rrow srow
            refine still_tail_in 9 (by kernel_rfl) (by rintro ⟨a, w, h⟩; exact h) (by kernel_rfl) (by kernel_rfl) ?_
            simp only [List.take_succ_cons, List.take_zero, List.drop_succ_cons, List.drop_zero]
            have hki : (k : Int) < 3 := by omega
            repeat still_step
            still_call ((apart_any ek y _ hekg hyg).mono (fun _ _ ⟨x1, x2⟩ => ⟨x1, x2.symm⟩))
            repeat still_step
            refine wpStill_nil ?_
            go_wp2_with fail
            have hab := absI_in hekg hyg
            have hpw : wrap64 (xc + absI ek y) = xc + absI ek y := IntWalk.wrap64_in _ (by omega)
            rw [hpw]
            refine (less_thenP [f0, f1, f2] (xc + absI ek y) ((hIr.below g8).below (Below.refl _ W3).drew) hqW hfg (WalkArith.wf_i64 (by omega))).mono ?_
            rintro e V2 ⟨⟨yb, rfl⟩, hI2, hKB2, hKC2, hbk⟩
            have gd : Below wr.heap.size wr W3.drew := g8.drew
            have HI2 := Lib.hid hI2
            clear hpw hI2 s10 s11 sk q0 q1 q2
            go_wp2
            gi_wp2
            go_roundw
            case rel =>
              refine ⟨k + 1, by omega, by go_num, hKB.trans ((KeepsBook.below gd).trans hKB2), hKI.trans ((KeepsIt.below gd).trans (hKB2.it (fun _ => hbk b (by omega) (by omega)))), hKC.trans ((KeepsC.below gd).trans hKC2), HI2.out.congr (fun kk cc => ?_)⟩
              constructor
              · rintro ((h | ⟨i, h1, h2, h3⟩) | ⟨rfl, rfl⟩)
                · exact .inl h
                · exact .inr ⟨i, by omega, h2, h3⟩
                · exact .inr ⟨k, by omega, hf.symm, by rw [hek]⟩
              · rintro (h | ⟨i, h1, h2, h3⟩)
                · exact .inl (.inl h)
                · rcases Nat.lt_or_ge i k with h4 | h4
                  · exact .inl (.inr ⟨i, h4, h2, h3⟩)
                  · obtain rfl : i = k := by omega
                    exact .inr ⟨by rw [h2, hf], by rw [h3, hek]⟩
            case measure => simp [intOf]; omega
          · obtain rfl : k = n := by omega
            gi_wp2
            refine ⟨hKB, hKI, hIr.congr (fun kk cc => ?_)⟩
            rw [after_snoc]
            constructor
            · rintro (h | ⟨i, h1, h2, h3⟩)
              · exact .inl h
              · exact .inr ⟨_, ⟨i, h1, h2, rfl⟩, h3⟩
            · rintro (h | ⟨d, ⟨i, h1, h2, rfl⟩, h3⟩)
              · exact .inl h
              · exact .inr ⟨i, h1, h2, h3⟩
      case done =>
        intro D xs V hD hS hI hK hKD
        obtain ⟨mb, T, hMT, hRT, hgT, hbT, hT⟩ := hI
        have v11' : Boxed V (W.heap.size + 1 + 1) 115 (.pointer (some ⟨W.heap.size + 1, 0, none⟩)) := (hT.block _ (by omega) (by omega)).trans z3
        have c11 := v11'.cell
        have hTne : T ≠ [] := by
          obtain ⟨q0, hq0⟩ := List.exists_mem_of_ne_nil L hLne
          obtain ⟨z, hz, _⟩ := hRT.2 _ _ ⟨q0, hS.mem_iff.1 hq0, _, spNx_some hn0 y q0.1, rfl⟩
          intro e; rw [e] at hz; simp at hz
        obtain ⟨b', rfl⟩ : ∃ b', mb = some b' := by
          cases mb with
          | none => exact absurd hMT.2 hTne
          | some b' => exact ⟨b', rfl⟩
        have hstep := HR.out.step hS hRT
        have htk : a0.take j ++ [y] = a0.take (j + 1) := (take_succ_of hy.out).symm
        rw [htk] at hstep
        have hMk2 := (hMk.keep (KeepsBook.below z5)).cons hK (by omega) hD hKD
        have hBV : Below w1.heap.size w1 V := (hBW.trans (z5.mono (by omega))).trans (hT.below (by omega) (by omega))
        have HH := Lib.hid (⟨hTne, hMT, hstep, hMk2, hBV⟩ : T ≠ [] ∧ MemoP V (W.heap.size + 1) (some b') T ∧ MemoR (RunTo (NxS n) (pad3 s) (a0.take (j + 1))) T ∧ Marks w.heap.size V ({ target := .collected D, args := #[] } :: ds) ∧ Below w1.heap.size w1 V)
        clear hstep hMk2 hBV hTne hMT hRT hgT hbT
        gi_wp2
        obtain ⟨g1, g2, g3, g4, g5⟩ := HH.out
        exact ⟨⟨j + 1, W.heap.size + 1, b', T, _, _, _, _, _, _, _, _, _, _, _, _, _, _, rfl, by omega, g1, g2, g3, g4, g5⟩, by simp [intOf]; omega⟩
    · obtain rfl : j = m := by omega
      have HR2 : Hid (MemoR (RunTo (NxS n) (pad3 s) a0) L) := Lib.hid (by have := HR.out; rwa [List.take_of_length_le (by rw [hc.len]; omega)] at this)
      have hcst : ∀ q ∈ L, 0 ≤ q.2 := fun q hq => (HL.out q hq).2.1
      have hlst := least_P pn b L W hM hcst hLne
      gi_wp2_with (first
        | (refine ⟨trivial, ?_⟩; gi_at_call 94; refine (callsIn_wide.2 hlst).mono ?_; rintro e w2 ⟨v, rfl, hv1, hv2, hBl⟩)
        | fail)
      have hbest := HR2.out.best hv1 hv2
      have HLC := Lib.hid hbest
      clear hbest hv1 hv2 hlst hcst
      refine leaves_marks (n₀ := w.heap.size) (w₀ := w) (fun W' hB' => ?_) ds w2 (hMk.keep (KeepsBook.below hBl)) (hBt.trans (hBl.mono (by omega))) (by have := hBl.size; omega)
      exact ⟨.tuple #[.int .i64 v, .nilIface], by simp [results, Tryd.results44, go_sem], v, rfl, HLC.out, hB'⟩
end Go.Proofs.YtmeamgeojcbljaaDoor
