/- Rows of numbers that a call makes itself: make, and reading and storing at a place; larderwickref1.lesser. -/
import Derived.Test.YtmeamgeojcbljaaDoorTabPlain
import Derived.Test.YtmeamgeojcbljaaDoorRefPages
import Derived.Test.YtmeamgeojcbljaaDoorInfo
import Derived.StillTailTactics
import Derived.Deep.OwnRows
import Derived.Laws.OwnMore
import Derived.IntWalk
namespace Go.Proofs.YtmeamgeojcbljaaDoor
open Go.ChangeShapes Go.WideShapes Go.ChangeAt Go.RowKit

theorem made_list' (n : Nat) : (madeCells #[Value.int .i64 0] n).toList = (List.replicate n (0 : Int)).map (Value.int .i64) := by
  rw [List.map_replicate]
  simp [madeCells]
  apply List.ext_getElem
  · simp
  · intro i h1 h2
    simp [Nat.mod_one]
theorem made_row' (w : World) (n : Nat) (hn : n ≤ maxLen) : Row (w.alloc (.cells (madeCells #[.int .i64 0] n) 3)) w.heap.size 3 (.slice (some ⟨w.heap.size, 0, none⟩) n n) n ((List.replicate n (0 : Int)).map (Value.int .i64)) := by
  have h0 := World.ownsRow_lit (base := w.heap.size) (e := 3) (size := 1) w (madeCells #[.int .i64 0] n) n (Nat.le_refl _) hn (by rw [size_madeCells]; simp)
  rw [made_list'] at h0; exact h0
theorem made_run (n : Nat) (hn : n ≤ 100000) (w : World) : (Instr.makeSlice 22 (.int .i64 (n : Int)) (.int .i64 (n : Int))).run Tryd.prog w = .ok (.slice (some ⟨w.heap.size, 0, none⟩) n n) (w.alloc (.cells (madeCells #[.int .i64 0] n) 3)) :=
  run_make_row' 22 3 (.int .i64 0) 8 Tryd.underlying22 infoI rfl .i64 .i64 n (by omega) (by omega) w
theorem lesser_i (a b : Int) (w : World) : Calls Tryd.prog 51 #[.int .i64 a, .int .i64 b] w fun e w' => e = .returned (.int .i64 (lessI a b)) ∧ w' = w := by
  unfold lessI
  by_cases h1 : a < 0
  · rw [if_pos (.inl h1)]
    go_enter Tryd.func51, Tryd.ntmps51
    go_wp2
    go_ret
    exact ⟨rfl, rfl⟩
  · by_cases h2 : b < a
    · rw [if_pos (.inr h2)]
      go_enter Tryd.func51, Tryd.ntmps51
      go_wp2
      go_ret
      exact ⟨rfl, rfl⟩
    · rw [if_neg (by omega)]
      go_enter Tryd.func51, Tryd.ntmps51
      go_wp2
      go_ret
      exact ⟨rfl, rfl⟩
/-- A table in a block of the call's own. -/
def TabRow (w : World) (g n : Nat) (T : List Int) : Prop := T.length = n ∧ Row w g 3 (.slice (some ⟨g, 0, none⟩) n n) n (T.map (Value.int .i64))
section
variable {w w' : World} {g n : Nat} {T : List Int}
theorem TabRow.made (w : World) (n : Nat) (hn : n ≤ 100000) : TabRow (w.alloc (.cells (madeCells #[.int .i64 0] n) 3)) w.heap.size n (List.replicate n 0) := ⟨by simp, made_row' w n (by simp only [maxLen]; omega)⟩
theorem TabRow.at_ (h : TabRow w g n T) {k : Nat} (hk : k < n) : ∃ v, T[k]? = some v ∧ w.cell? ⟨g, k, none⟩ = some (.int .i64 v) := by
  have hl : k < T.length := by rw [h.1]; exact hk
  refine ⟨T[k], List.getElem?_eq_getElem hl, ?_⟩
  rw [World.ownsRow.cellAt h.2 k (by omega), List.getElem?_map, List.getElem?_eq_getElem hl]; rfl
theorem TabRow.frozen (h : TabRow w g n T) (k : Nat) : w.frozen? ⟨g, k, none⟩ = false := World.ownsRow.frozenAt h.2 k
theorem TabRow.store (h : TabRow w g n T) (k : Nat) (x : Int) : TabRow (w.setCell ⟨g, k, none⟩ (.int .i64 x)) g n (T.set k x) ∧ w.grownBy (w.setCell ⟨g, k, none⟩ (.int .i64 x)) (some g) := by
  obtain ⟨h1, h2⟩ := World.ownsRow.stored h.2 k (.int .i64 x)
  refine ⟨⟨by rw [List.length_set]; exact h.1, ?_⟩, h2⟩
  rw [List.map_set]; exact h1
theorem TabRow.below (h : TabRow w g n T) (hb : Below w.heap.size w w') : TabRow w' g n T := ⟨h.1, h.2.below hb⟩
theorem TabRow.kept (h : TabRow w g n T) (hk : w'.heap[g]? = w.heap[g]?) : TabRow w' g n T := by
  refine ⟨h.1, h.2.1, ?_⟩
  rcases h.2.2 with h0 | ⟨g', cap, cur, e, hb, hg, rest⟩
  · exact .inl h0
  · right
    have : g = g' := by injection e with e; injection e with e; injection e
    subst this
    exact ⟨g, cap, cur, e, hb, hk.trans hg, rest⟩
theorem TabRow.lt (h : TabRow w g n T) (hn : 0 < n) : g < w.heap.size := by
  obtain ⟨v, _, hc⟩ := h.at_ hn
  exact cell_lt hc
end
end Go.Proofs.YtmeamgeojcbljaaDoor
