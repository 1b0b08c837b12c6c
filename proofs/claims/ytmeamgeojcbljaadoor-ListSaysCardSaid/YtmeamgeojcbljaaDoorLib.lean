/- The contracts of slices.Delete at a row of the call's own, in the words of Words. -/
import Derived.Test.YtmeamgeojcbljaaDoorRows
import Derived.Test.YtmeamgeojcbljaaDoorWords
import Derived.Test.YtmeamgeojcbljaaDoorLists
import Derived.Test.YtmeamgeojcbljaaDoorInfo
import Derived.Test.YtmeamgeojcbljaaDoorShelf
namespace Go.Proofs.YtmeamgeojcbljaaDoor
open Go.ChangeShapes Go.WideShapes Go.ChangeAt Go.RowKit

theorem delete_own (base : Nat) (A : Option Addr) (n c : Nat) (l : List Int) (i j : Nat) (w : World) (h : Row w base 3 (.slice A n c) n (l.map (Value.int .i64))) (hij : i ≤ j) (hj : j ≤ n) (hn : 0 < n) :
    Calls Tryd.prog 82 #[.slice A n c, .int .i64 i, .int .i64 j] w fun e w' =>
      ∃ v', e = .returned v' ∧ Row w' base 3 v' (n - (j - i)) ((l.take i ++ l.drop j).map (Value.int .i64)) ∧ w.grownBy w' (Value.slice A n c).ownBlock ∧ v'.ownBlock = (Value.slice A n c).ownBlock := by
  have hlen : l.length = n := by have := h.len; simpa using this
  rcases h.2 with ⟨hv', h0⟩ | ⟨g, cap, cur, hv', hb, hh, hnc, hcm, hcs, ht⟩
  · omega
  · injection hv' with hA _ hC
    subst hA hC
    refine (Tryd.slices_Delete_int_cells g 0 n c i j l w (by omega) hnc (by simp only [maxLen] at hcm; exact hcm) hij hj ?_ ?_).mono ?_
    · intro k hk
      have := (Row.reads h).2 hn
      obtain ⟨ad, e, hc⟩ := this
      injection e with e
      subst e
      have hx := hc k _ (List.getElem?_eq_getElem hk)
      rw [show ((⟨g, 0, none⟩ : Addr).add k) = ⟨g, 0 + k, none⟩ from by unfold Addr.add; split <;> simp_all] at hx
      rw [hx, List.getD_eq_getElem?_getD, List.getElem?_eq_getElem hk]; rfl
    · intro k hk
      exact World.ownsRow.frozenAt (e := 3) (size := 1) (base := base) h (0 + k)
    · rintro e w' ⟨rfl, q, rfl⟩
      have hl1 : l.take n = l := List.take_of_length_le (by omega)
      rw [hl1]
      have hvl : ((l.take i ++ l.drop j ++ List.replicate (j - i) 0).map (Value.int .i64)).length = n := by simp; omega
      refine ⟨_, rfl, ?_, grownBy_drewN (grownBy_setCells g _ 0 _), rfl⟩
      have hr := Row.setCells (h.drewN q) ((l.take i ++ l.drop j ++ List.replicate (j - i) 0).map (Value.int .i64)) (by omega) (n - (j - i)) (by omega)
      have h2 : (l.take i ++ l.drop j).length = n - (j - i) := by simp; omega
      rw [← List.map_take, ← h2, List.take_left, h2] at hr
      exact hr

end Go.Proofs.YtmeamgeojcbljaaDoor
