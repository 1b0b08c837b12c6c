/- core.Memo at lists.row: the least cost of all. -/
import Derived.Test.YtmeamgeojcbljaaDoorMemoAllW
import Derived.RangeFuncNested
import Derived.RangeFuncBound
import Derived.RangeFuncCalls
import Derived.RangeFuncLeaves
import Derived.Shelf.RegionOpen
import Derived.OwnWalkIn
namespace Go.Proofs.YtmeamgeojcbljaaDoor
open Go.RowKit Go.Maps Go.ChangeAt Go.Shelf
attribute [local go_sem] Oper.semAt_some

/-- The least of what has come; -1: nothing has. -/
def MinIW (pre : List ((List Int) × Int)) (v : Int) : Prop := (pre = [] ∧ v = -1) ∨ (0 ≤ v ∧ (∃ q ∈ pre, q.2 = v) ∧ ∀ q ∈ pre, v ≤ q.2)
theorem minIW_old {pre : List ((List Int) × Int)} {v : Int} {x : (List Int) × Int} (h : MinIW pre v) (h1 : ¬ v < 0) (h2 : ¬ x.2 < v) : MinIW (pre ++ [x]) v := by
  rcases h with ⟨_, rfl⟩ | ⟨h0, ⟨q, hq, e⟩, hl⟩
  · exact absurd (by decide) h1
  · refine .inr ⟨h0, ⟨q, by simp [hq], e⟩, fun q hq => ?_⟩
    rw [List.mem_append, List.mem_singleton] at hq
    rcases hq with hq | rfl
    · exact hl q hq
    · omega
theorem minIW_new {pre : List ((List Int) × Int)} {v : Int} {x : (List Int) × Int} (h : MinIW pre v) (h1 : v < 0 ∨ x.2 < v) (hx : 0 ≤ x.2) : MinIW (pre ++ [x]) x.2 := by
  refine .inr ⟨hx, ⟨x, by simp, rfl⟩, fun q hq => ?_⟩
  rw [List.mem_append, List.mem_singleton] at hq
  rcases hq with hq | rfl
  · rcases h with ⟨rfl, _⟩ | ⟨h0, _, hl⟩
    · simp at hq
    · have := hl q hq; omega
  · exact Int.le_refl _

set_option maxRecDepth 100000 in
set_option maxHeartbeats 2000000 in
theorem least_W (p b : Nat) (L : List ((List Int) × Int)) (w : World) (hM : MemoW w p (some b) L) (h0 : ∀ q ∈ L, 0 ≤ q.2) (hne : L ≠ []) :
    Calls Tryd.prog 84 #[.pointer (some ⟨p, 0, none⟩)] w fun e w' => ∃ v, e = .returned (.int .i64 v) ∧ (∃ q ∈ L, q.2 = v) ∧ (∀ q ∈ L, v ≤ q.2) ∧ Below w.heap.size w w' := by
  refine (callsIn_wide (n := 3)).1 ?_
  refine callsIn_of_wp_marks Tryd.func84 rfl trivial ?_ rfl
  simp only [Tryd.ntmps84, List.size_toArray, List.length_cons, List.length_nil, Nat.reduceAdd, Nat.reduceSub, Array.replicate_succ, Array.replicate_zero, List.push_toArray, List.append_toArray, List.nil_append, List.cons_append]
  gi_wp2_with (refine ⟨trivial, ?_⟩; gi_at_call 79; refine (callsIn_wide.2 (all_W p _)).mono ?_; rintro e w' ⟨rfl, rfl⟩)
  have hsz : ((w.alloc (Obj.cells #[Value.int IntKind.i64 (-1)] 3)).alloc (Obj.cells #[Value.pointer (some { block := p, off := 0 })] 96)).heap.size = w.heap.size + 2 := by simp
  have hbx : Boxed ((w.alloc (Obj.cells #[Value.int IntKind.i64 (-1)] 3)).alloc (Obj.cells #[Value.pointer (some { block := p, off := 0 })] 96)) w.heap.size 3 (.int .i64 (-1)) := (Boxed.new w _ _).alloc _
  have hbp : Boxed ((w.alloc (Obj.cells #[Value.int IntKind.i64 (-1)] 3)).alloc (Obj.cells #[Value.pointer (some { block := p, off := 0 })] 96)) (w.heap.size + 1) 96 (.pointer (some ⟨p, 0, none⟩)) := by
    have := Boxed.new (w.alloc (Obj.cells #[Value.int IntKind.i64 (-1)] 3)) 96 (.pointer (some ⟨p, 0, none⟩))
    rwa [World.size_alloc] at this
  have hb0 : Below w.heap.size w ((w.alloc (Obj.cells #[Value.int IntKind.i64 (-1)] 3)).alloc (Obj.cells #[Value.pointer (some { block := p, off := 0 })] 96)) := ((Below.refl _ w).alloc (Nat.le_refl _) _).alloc (by simp) _
  obtain ⟨W0, hW0⟩ : ∃ W0, (w.alloc (Obj.cells #[Value.int IntKind.i64 (-1)] 3)).alloc (Obj.cells #[Value.pointer (some { block := p, off := 0 })] 96) = W0 := ⟨_, rfl⟩
  rw [hW0] at hsz hbx hbp hb0 ⊢
  have hM0 : MemoW W0 p (some b) L := hM.keep fun k hk _ => hb0.block k hk
  have hbb : b < W0.heap.size := hM0.lt b (.inr rfl)
  have hbs : b < w.heap.size := hM.lt b (.inr rfl)
  refine range_book rfl (by omega) (gf := 100) (lb := #[.pointer (some ⟨w.heap.size + 1, 0, none⟩)]) rfl trivial (enters_of Tryd.func100 (by kernel_rfl) rfl)
    (alls_W 2 (w.heap.size + 1) p b L W0 (by omega) hbp.cell hM0) (fun h k => KeepsIt.trans h k) (fun W l o o' hl h => KeepsIt.putObj hbb hl h) (Below.refl _ _) (fun _ => rfl)
    (fun pre W => (∃ v, Boxed W w.heap.size 3 (.int .i64 v) ∧ MinIW pre v) ∧ Below w.heap.size w W)
    (OwnB.and (fun s A B row hs hg hr => by obtain ⟨v, h1, h2⟩ := hs; exact ⟨v, h1.kept hg (fun e => by have := (hr _ e.symm).1; omega), h2⟩) (ownB_below (Nat.le_refl _) (by omega)))
    ⟨⟨_, hbx, .inl ⟨rfl, rfl⟩⟩, hb0⟩
    (fun x a' _ => a' = { tmps := #[.pointer (some ⟨p, 0, none⟩), undef, .int .i64 0, .pointer (some ⟨w.heap.size, 0, none⟩), undef, .int .i64 x.2, .pointer (some ⟨p, 0, none⟩), .func (.func 100) #[] #[.pointer (some ⟨w.heap.size + 1, 0, none⟩)], encW x.1, .int .i64 x.2, undef, undef, undef, undef, undef, undef, undef, undef, undef], defers := [] })
    (fun x a' => ownB_pure _ _) ?assign ?body ?done
  case assign =>
    intro l pre x W K hI hK
    gi_wp2
    exact hK _ _ (.refl _) (.refl _ _) hI rfl
  case body =>
    rintro l pre x a' W hl ⟨r, hr⟩ ⟨⟨v, hv, hm⟩, hB⟩ rfl ⟨rest, hP⟩
    have hc := hv.cell
    have hf := hv.frozen
    have hx0 : 0 ≤ x.2 := h0 x (hP.mem_iff.2 (by simp))
    gi_wp2
    all_goals
      first
        | (refine ⟨.refl _, .refl _ _, ⟨⟨v, hv, minIW_old hm (by omega) (by omega)⟩, hB⟩⟩; done)
        | (refine ⟨KeepsBook.setCell _ _ _, KeepsIt.setCell _ _ (by show b ≠ w.heap.size; omega), ⟨⟨x.2, hv.set _, minIW_new hm (by omega) hx0⟩, hB.setCell (p := ⟨w.heap.size, 0, none⟩) (Nat.le_refl _) _⟩⟩; done)
  case done =>
    rintro D xs W hD hS ⟨⟨v, hv, hm⟩, hB⟩ hK hKD
    have hc := hv.cell
    gi_wp2
    refine ⟨by simp, .inl ⟨_, _, rfl, run_takeDeferred hKD, ?_⟩⟩
    have hb1 : Below w.heap.size w (W.putObj D (.deferred none)) := hB.trans (belowK_b (w := w) (Nat.le_refl _) W D _ _ (by omega) hKD rfl rfl)
    rcases hm with ⟨rfl, _⟩ | ⟨_, ⟨q, hq, e⟩, hl⟩
    · exact absurd (List.Perm.eq_nil hS) hne
    · exact ⟨_, results_tmp rfl _ _ _, v, rfl, ⟨q, hS.mem_iff.2 hq, e⟩, fun q hq => hl q (hS.mem_iff.1 hq), hb1⟩
end Go.Proofs.YtmeamgeojcbljaaDoor
