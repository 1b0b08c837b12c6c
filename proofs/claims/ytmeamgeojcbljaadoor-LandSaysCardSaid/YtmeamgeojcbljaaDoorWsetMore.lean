/- Plain laws of windows: a wider one sees more, and misses less; no program in sight. -/
import Derived.Test.YtmeamgeojcbljaaDoorWsetPlain
namespace Go.Proofs.YtmeamgeojcbljaaDoor

theorem lastW_sub (l : List Int) (v : Nat) : ∀ x ∈ lastW l v, x ∈ lastW l (v + 1) := by
  intro x hx
  unfold lastW at *
  have : l.drop (l.length - v) = (l.drop (l.length - (v + 1))).drop ((l.length - v) - (l.length - (v + 1))) := by
    rw [List.drop_drop]; congr 1; omega
  rw [this] at hx
  exact List.mem_of_mem_drop hx
theorem dd_nodup' (l : List Int) : (dd l).Nodup := by
  induction l using list_snoc_ind with
  | h0 => simp [dd]
  | h1 l y ih =>
    rw [dd_snoc]
    split
    · exact ih
    · rename_i h
      rw [List.nodup_append]
      exact ⟨ih, by simp, fun a ha b hb => by simp at hb; subst hb; rintro rfl; exact h ha⟩
theorem nodup_sub_len : ∀ {l m : List Int}, l.Nodup → (∀ x ∈ l, x ∈ m) → l.length ≤ m.length
  | [], _, _, _ => by simp
  | a :: t, m, hn, hs => by
    have hn' := List.nodup_cons.1 hn
    have h1 : t.length ≤ (m.erase a).length := nodup_sub_len hn'.2 (fun x hx => by
      have hne : x ≠ a := by rintro rfl; exact hn'.1 hx
      exact (List.mem_erase_of_ne hne).2 (hs x (by simp [hx])))
    have h2 := List.length_erase_of_mem (hs a (by simp))
    have h3 : 0 < m.length := List.length_pos_of_mem (hs a (by simp))
    simp only [List.length_cons]; omega
theorem someN_mono {l m : List Int} (h : ∀ x ∈ l, x ∈ m) : someN l ≤ someN m :=
  nodup_sub_len (dd_nodup' l) (fun x hx => (mem_dd m x).2 (h x ((mem_dd l x).1 hx)))
theorem missW_mono (l : List Int) (v k : Nat) : missW l (v + 1) k ≤ missW l v k := by
  induction k with
  | zero => simp [missW]
  | succ k ih =>
    unfold missW
    cases h : hasB (lastW (l.take k) v) (l.getD k 0)
    · simp; split <;> omega
    · have := (hasB_iff _ _).2 (lastW_sub _ _ _ ((hasB_iff _ _).1 h))
      rw [this]; simp; exact ih
theorem sumW_mono (l : List Int) (v k : Nat) : sumW l v k ≤ sumW l (v + 1) k := by
  induction k with
  | zero => simp [sumW]
  | succ k ih =>
    unfold sumW
    have := someN_mono (lastW_sub (l.take (k + 1)) v)
    omega
theorem missW_some (l : List Int) (v : Nat) : ∀ k, k ≤ l.length → someN (l.take k) ≤ missW l v k := by
  intro k
  induction k with
  | zero => intro _; simp [someN, dd, missW]
  | succ k ih =>
    intro hk
    have hy := List.getElem?_eq_getElem (show k < l.length by omega)
    have h1 := ih (by omega)
    rw [someN_succ hy]
    unfold missW
    rw [show l.getD k 0 = l[k] by rw [List.getD_eq_getElem?_getD, hy]; rfl]
    cases h : hasB (lastW (l.take k) v) l[k]
    · simp; split <;> omega
    · have := lastW_mem ((hasB_iff _ _).1 h)
      rw [if_pos this]; simp; exact h1
/-- Each bit of the one is a bit of the other. -/
def SubB (x y : Nat) : Prop := ∀ i, x.testBit i = true → y.testBit i = true
theorem SubB.half {x y : Nat} (h : SubB x y) : SubB (x / 2) (y / 2) := fun i hi => by
  rw [Nat.testBit_div_two] at *; exact h _ hi
theorem SubB.odd {x y : Nat} (h : SubB x y) (hx : x % 2 = 1) : y % 2 = 1 := by
  have := h 0 (by rw [Nat.testBit_zero]; exact decide_eq_true hx)
  rw [Nat.testBit_zero] at this; exact of_decide_eq_true this
theorem mask_sub {l m : List Int} (hl : AllIn l 0 15) (hm : AllIn m 0 15) (h : ∀ x ∈ l, x ∈ m) : SubB (mask l) (mask m) := by
  intro i hi
  have e : i = ((i : Int)).toNat := by omega
  have hin : (i : Int) ∈ l := by
    rw [e] at hi; exact (mask_bit' l hl (i : Int) (by omega)).1 hi
  rw [e]; exact (mask_bit' m hm (i : Int) (by omega)).2 (h _ hin)
theorem setsL_at (l : List Int) (v n k : Nat) (hk : k < n) : (setsL l v n)[k]? = some ((mask (lastW (l.take (k + 1)) v) : Nat) : Int) := by
  unfold setsL
  rw [List.getElem?_map, List.getElem?_range hk]; rfl
end Go.Proofs.YtmeamgeojcbljaaDoor
