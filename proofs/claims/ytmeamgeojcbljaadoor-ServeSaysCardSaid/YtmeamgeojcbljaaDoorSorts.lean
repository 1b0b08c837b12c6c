/- The contract of slices.Sort at a row of the call's own, in the words of Words. -/
import Derived.Test.YtmeamgeojcbljaaDoorRows
import Derived.Test.YtmeamgeojcbljaaDoorWords
import Derived.Test.YtmeamgeojcbljaaDoorLists
import Derived.Test.YtmeamgeojcbljaaDoorOptRun
import Derived.Test.YtmeamgeojcbljaaDoorShelf
import Derived.Sort.OwnSortedInts
namespace Go.Proofs.YtmeamgeojcbljaaDoor
open Go.ChangeShapes Go.WideShapes Go.ChangeAt Go.RowKit Go.Sort

theorem sort_own (base : Nat) (A : Option Addr) (n c : Nat) (l : List Int) (w : World) (h : Row w base 3 (.slice A n c) n (l.map (Value.int .i64))) (hn8 : n ≤ 1048576) :
    Calls Tryd.prog 91 #[.slice A n c] w fun e w' =>
      e = .returned (.tuple #[]) ∧ Row w' base 3 (.slice A n c) n ((sortI l).map (Value.int .i64)) ∧ w.grownBy w' (Value.slice A n c).ownBlock := by
  have hlen : l.length = n := by have := h.len; simpa using this
  by_cases hn : n = 0
  · subst hn
    have hl : l = [] := List.eq_nil_of_length_eq_zero hlen
    subst hl
    refine (Tryd.slices_Sort_int_none A c w).mono ?_
    rintro e w' ⟨rfl, rfl⟩
    exact ⟨rfl, by simpa [sortI] using h, World.grownBy.refl _ _⟩
  · rcases h.2 with ⟨hv', h0⟩ | ⟨g, cap, cur, hv', hb, hh, hnc, hcm, hcs, ht⟩
    · omega
    · injection hv' with hA _ hC
      subst hA hC
      have hg : g < w.heap.size := (Array.getElem?_eq_some_iff.1 hh).1
      have ht' : cur.toList.take l.length = l.map (Value.int .i64) := by rw [hlen]; simpa using ht
      have hH := holds_of_blockI hh ht'
      subst hlen
      refine (Tryd.slices_Sort_int g 0 c l w hH hg (by omega)).mono ?_
      rintro e w' ⟨rfl, k, os, rfl⟩
      exact ⟨rfl, ownsRow_sortedI (List.length_mergeSort _) hb hh hnc hcm hcs, grownBy_sortedI _⟩
end Go.Proofs.YtmeamgeojcbljaaDoor
