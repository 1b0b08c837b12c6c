/- Plain words: a store that goes request by request, and what it tells of each; no program in sight. -/
import Derived.Test.YtgljpdfmejganaaLists
namespace Go.Proofs.Ytgljpdfmejganaa

def simG {σ : Type} (h : σ → Int → Bool) (g : σ → Int → σ) (s0 : σ) (l : List Int) : List Bool × σ := l.foldl (fun st p => (st.1 ++ [h st.2 p], g st.2 p)) ([], s0)
section
variable {σ : Type} (h : σ → Int → Bool) (g : σ → Int → σ) (s0 : σ)
theorem simG_snoc (l : List Int) (y : Int) : simG h g s0 (l ++ [y]) = ((simG h g s0 l).1 ++ [h (simG h g s0 l).2 y], g (simG h g s0 l).2 y) := by unfold simG; rw [List.foldl_append]; rfl
theorem simG_snd (l : List Int) : (simG h g s0 l).2 = l.foldl g s0 := by
  induction l using list_snoc_ind with
  | h0 => rfl
  | h1 l y ih => rw [simG_snoc, List.foldl_append]; simp only [List.foldl_cons, List.foldl_nil]; rw [ih]
theorem simG_len (l : List Int) : (simG h g s0 l).1.length = l.length := by
  induction l using list_snoc_ind with
  | h0 => rfl
  | h1 l y ih => rw [simG_snoc]; simp [ih]
theorem simG_at (l : List Int) : ∀ k y, l[k]? = some y → (simG h g s0 l).1[k]? = some (h ((l.take k).foldl g s0) y) := by
  induction l using list_snoc_ind with
  | h0 => intro k y hk; simp at hk
  | h1 l z ih =>
    intro k y hk
    rw [simG_snoc]
    by_cases hl : k < l.length
    · rw [List.getElem?_append_left hl] at hk
      rw [List.getElem?_append_left (by rw [simG_len]; exact hl), List.take_append_of_le_length (by omega)]
      exact ih k y hk
    · have hk2 : k = l.length := by
        have := (List.getElem?_eq_some_iff.1 hk).1
        simp at this; omega
      subst hk2
      simp at hk
      subst hk
      rw [List.getElem?_append_right (by rw [simG_len]; omega), simG_len]
      simp [simG_snd]
theorem foldl_snoc {α β : Type} (f : α → β → α) (a : α) (l : List β) (y : β) : (l ++ [y]).foldl f a = f (l.foldl f a) y := by rw [List.foldl_append]; rfl
end
end Go.Proofs.Ytgljpdfmejganaa
