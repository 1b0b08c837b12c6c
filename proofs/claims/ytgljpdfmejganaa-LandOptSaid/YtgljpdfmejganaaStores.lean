/- Plain laws of stores: how often a page is not there, at least; no program in sight. -/
import Derived.Test.YtgljpdfmejganaaLists
namespace Go.Proofs.Ytgljpdfmejganaa
theorem some_le_miss {l : List Int} {H : List Bool} (hH : H.length = l.length) (h : ∀ k y, l[k]? = some y → H[k]? = some true → y ∈ l.take k) : someN l ≤ missN H := by
  have key : ∀ k, k ≤ l.length → someN (l.take k) ≤ missN (H.take k) := by
    intro k
    induction k with
    | zero => intro _; simp [someN, dd]
    | succ k ih =>
      intro hk
      have hy := List.getElem?_eq_getElem (show k < l.length by omega)
      have hb := List.getElem?_eq_getElem (show k < H.length by omega)
      rw [someN_succ hy, missN_succ hb]
      have h1 := ih (by omega)
      cases hc : H[k]
      · split <;> simp <;> omega
      · have h2 := h k _ hy (by rw [hb, hc])
        rw [if_pos h2]; simp; exact h1
  have := key l.length (Nat.le_refl _)
  rwa [List.take_of_length_le (Nat.le_refl _), List.take_of_length_le (by omega)] at this
theorem some_eq_miss {l : List Int} {H : List Bool} (hH : H.length = l.length) (h : ∀ k y, l[k]? = some y → H[k]? = some (hasB (l.take k) y)) : missN H = someN l := by
  have key : ∀ k, k ≤ l.length → missN (H.take k) = someN (l.take k) := by
    intro k
    induction k with
    | zero => intro _; simp [someN, dd, missN]
    | succ k ih =>
      intro hk
      have hy := List.getElem?_eq_getElem (show k < l.length by omega)
      rw [someN_succ hy, missN_succ (h k _ hy), ih (by omega)]
      by_cases hm : l[k] ∈ l.take k
      · rw [if_pos hm, (hasB_iff _ _).2 hm]; rfl
      · rw [if_neg hm, (hasB_false _ _).2 hm]; rfl
  have := key l.length (Nat.le_refl _)
  rwa [List.take_of_length_le (Nat.le_refl _), List.take_of_length_le (by omega)] at this
theorem someN_mono (l : List Int) (y : Int) : someN l ≤ someN (l ++ [y]) := by rw [someN_snoc]; omega
theorem dd_nodup (l : List Int) : (dd l).Nodup := by
  induction l using list_snoc_ind with
  | h0 => simp [dd]
  | h1 l y ih =>
    rw [dd_snoc]
    split
    · exact ih
    · rename_i h
      rw [List.nodup_append]
      exact ⟨ih, by simp, fun a ha b hb => by rw [List.mem_singleton] at hb; subst hb; exact fun e => h (e ▸ ha)⟩
theorem someN_set {l m : List Int} (hm : m.Nodup) (h : ∀ x, x ∈ l ↔ x ∈ m) : someN l = m.length := by
  have := (List.perm_ext_iff_of_nodup (dd_nodup l) hm).2 (fun x => by rw [mem_dd, h])
  exact this.length_eq
end Go.Proofs.Ytgljpdfmejganaa
