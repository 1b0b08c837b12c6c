/- The walk of the law FifoLast: it returns true, for every input. -/
import Derived.Test.YtcobmiodgfonaaaDoorFifo
import Derived.Test.YtcobmiodgfonaaaDoorSame
namespace Go.Proofs.YtcobmiodgfonaaaDoor
open Go.ChangeShapes Go.WideShapes Go.ChangeAt Go.RowKit

def fifoCame (slots : Nat) (l : List Int) : List Int := (l.foldl (fun (st : (List Bool × List Int) × List Int) p => (fifoStep slots st.1 p, if p ∈ st.1.2 then st.2 else st.2 ++ [p])) (([], []), [])).2
theorem fifoCame_fst (slots : Nat) (l : List Int) : (l.foldl (fun (st : (List Bool × List Int) × List Int) p => (fifoStep slots st.1 p, if p ∈ st.1.2 then st.2 else st.2 ++ [p])) (([], []), [])).1 = fifoRun slots l := by
  induction l using list_snoc_ind with
  | h0 => rfl
  | h1 l y ih => rw [List.foldl_append]; simp only [List.foldl_cons, List.foldl_nil]; rw [ih]; unfold fifoRun; rw [List.foldl_append]; rfl
theorem fifoCame_snoc (slots : Nat) (l : List Int) (y : Int) : fifoCame slots (l ++ [y]) = if y ∈ (fifoRun slots l).2 then fifoCame slots l else fifoCame slots l ++ [y] := by
  have := fifoCame_fst slots l
  unfold fifoCame
  rw [List.foldl_append]; simp only [List.foldl_cons, List.foldl_nil]; rw [this]
theorem fifo_held (s : Nat) (hs : 1 ≤ s) (l : List Int) : (fifoRun s l).2 = (fifoCame s l).drop ((fifoCame s l).length - s) := by
  induction l using list_snoc_ind with
  | h0 => simp [fifoRun, fifoCame]
  | h1 l y ih =>
    rw [fifoRun_snoc, fifoCame_snoc]
    unfold fifoStep
    split
    · exact ih
    · simp only
      generalize hc : fifoCame s l = c at *
      rw [ih]
      simp only [List.length_drop, List.length_append, List.length_singleton]
      rw [List.drop_append_of_le_length (by omega)]
      congr 1
      by_cases hl : s ≤ c.length
      · rw [if_pos (by omega), List.drop_drop]; congr 1; omega
      · rw [if_neg (by omega)]; congr 1; omega
theorem fifo_hits_len (s : Nat) (l : List Int) : (fifoRun s l).1.length = l.length := by
  induction l using list_snoc_ind with
  | h0 => rfl
  | h1 l y ih => rw [fifoRun_snoc]; unfold fifoStep; split <;> simp [ih]
theorem fifo_hits_at (s : Nat) (l : List Int) : ∀ k y, l[k]? = some y → (fifoRun s l).1[k]? = some (hasB (fifoRun s (l.take k)).2 y) := by
  induction l using list_snoc_ind with
  | h0 => intro k y h; simp at h
  | h1 l z ih =>
    intro k y h
    have hst : (fifoRun s (l ++ [z])).1 = (fifoRun s l).1 ++ [hasB (fifoRun s l).2 z] := by
      rw [fifoRun_snoc]; unfold fifoStep
      by_cases hm : z ∈ (fifoRun s l).2
      · rw [if_pos hm, (hasB_iff _ _).2 hm]
      · rw [if_neg hm, (hasB_false _ _).2 hm]
    rw [hst]
    by_cases hk : k < l.length
    · rw [List.getElem?_append_left hk] at h
      rw [List.getElem?_append_left (by rw [fifo_hits_len]; exact hk), List.take_append_of_le_length (by omega)]
      exact ih k y h
    · have hk2 : k = l.length := by
        have := (List.getElem?_eq_some_iff.1 h).1
        simp at this; omega
      subst hk2
      simp at h
      subst h
      rw [List.getElem?_append_right (by rw [fifo_hits_len]; omega), fifo_hits_len]
      simp
theorem fifo_came_le (s : Nat) (l : List Int) : (fifoCame s l).length ≤ l.length := by
  induction l using list_snoc_ind with
  | h0 => simp [fifoCame]
  | h1 l y ih => rw [fifoCame_snoc]; split <;> simp <;> omega

end Go.Proofs.YtcobmiodgfonaaaDoor
