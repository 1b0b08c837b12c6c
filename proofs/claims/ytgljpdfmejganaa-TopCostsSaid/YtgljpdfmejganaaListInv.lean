/- Plain words: where things stand in a row; how many pairs stand the other way round; moving to the front costs no more than twice what anybody pays; no program in sight. -/
import Derived.Test.YtgljpdfmejganaaListPaths
namespace Go.Proofs.Ytgljpdfmejganaa

theorem at_inj {l : List Int} (hn : l.Nodup) {a b : Nat} {x : Int} (ha : l[a]? = some x) (hb : l[b]? = some x) : a = b := by
  have h1 := (List.getElem?_eq_some_iff.1 ha).1
  exact (List.getElem?_inj h1 hn).1 (ha.trans hb.symm)
theorem idxOf_eq {l : List Int} (hn : l.Nodup) {a : Nat} {x : Int} (h : l[a]? = some x) : l.idxOf x = a := at_inj hn (idxOf_get (List.mem_of_getElem? h)) h
def tau (i a : Nat) : Nat := if a = i then i - 1 else if a + 1 = i then i else a
theorem tau_get (A : List Int) (u v : Int) (B : List Int) (a : Nat) : (A ++ v :: u :: B)[tau (A.length + 1) a]? = (A ++ u :: v :: B)[a]? := by
  unfold tau
  rcases Nat.lt_trichotomy a A.length with h | h | h
  · rw [if_neg (by omega), if_neg (by omega), List.getElem?_append_left h, List.getElem?_append_left h]
  · subst h
    rw [if_neg (by omega), if_pos rfl, List.getElem?_append_right (by omega), List.getElem?_append_right (by omega)]
    simp
  · rcases Nat.eq_or_lt_of_le h with h | h
    · have e : a = A.length + 1 := by omega
      subst e
      rw [if_pos rfl, List.getElem?_append_right (by omega), List.getElem?_append_right (by omega)]
      simp
    · rw [if_neg (by omega), if_neg (by omega), List.getElem?_append_right (by omega), List.getElem?_append_right (by omega)]
      obtain ⟨k, hk⟩ : ∃ k, a - A.length = k + 2 := ⟨a - A.length - 2, by omega⟩
      rw [hk]; rfl
theorem idx_swap {l : List Int} (hn : l.Nodup) {i : Nat} (h1 : 1 ≤ i) (h2 : i < l.length) {x : Int} (hx : x ∈ l) : (swapI l i).idxOf x = tau i (l.idxOf x) := by
  have hp := swapI_perm h1 h2
  obtain ⟨A, u, v, B, rfl, rfl, e⟩ := swapI_split h1 h2
  refine idxOf_eq (hp.nodup_iff.2 hn) ?_
  rw [e, tau_get]
  exact idxOf_get hx
theorem tau_lt {i a b : Nat} (h : tau i a < tau i b) (hb : ¬ b + 1 = i) : a < b := by
  unfold tau at h
  by_cases h1 : a = i <;> by_cases h2 : b = i <;> by_cases h3 : a + 1 = i <;> simp only [h1, h2, h3, hb, if_true, if_false] at h <;> omega
theorem tau_lt2 {i a b : Nat} (h : tau i a < tau i b) (hb : b + 1 = i) : a < b ∨ a = i := by
  by_cases h1 : a = i
  · exact .inr h1
  · left
    unfold tau at h
    have h2 : ¬ b = i := by omega
    by_cases h3 : a + 1 = i <;> simp only [h1, h2, h3, hb, if_true, if_false] at h <;> omega
def sig (j to a : Nat) : Nat := if a = j then to else if to ≤ a ∧ a < j then a + 1 else a
theorem sig_lt {j to a b : Nat} (h : sig j to a < sig j to b) (ha : ¬ a = j) (hb : ¬ b = j) : a < b := by
  unfold sig at h
  rw [if_neg ha, if_neg hb] at h
  by_cases h1 : to ≤ a ∧ a < j
  · rw [if_pos h1] at h
    by_cases h2 : to ≤ b ∧ b < j
    · rw [if_pos h2] at h; omega
    · rw [if_neg h2] at h; omega
  · rw [if_neg h1] at h
    by_cases h2 : to ≤ b ∧ b < j
    · rw [if_pos h2] at h; omega
    · rw [if_neg h2] at h; omega
theorem sig_lt2 {j to a : Nat} (h : sig j to a < sig j to j) (ha : ¬ a = j) (hto : to ≤ j) : a < j := by
  unfold sig at h
  rw [if_neg ha, if_pos rfl] at h
  by_cases h1 : to ≤ a ∧ a < j
  · rw [if_pos h1] at h; omega
  · rw [if_neg h1] at h; omega
theorem moveL_mid (X Y Z : List Int) (p : Int) : moveL (X ++ (Y ++ p :: Z)) (X.length + Y.length) X.length p = X ++ p :: (Y ++ Z) := by
  unfold moveL cutL
  have e1 : (X ++ (Y ++ p :: Z)).take (X.length + Y.length) = X ++ Y := by
    rw [← List.append_assoc, List.take_left' (by simp)]
  have e2 : (X ++ (Y ++ p :: Z)).drop (X.length + Y.length + 1) = Z := by
    have : X ++ (Y ++ p :: Z) = (X ++ Y ++ [p]) ++ Z := by simp
    rw [this, List.drop_left' (by simp; omega)]
  rw [e1, e2]
  unfold putL
  rw [List.append_assoc, List.take_left' rfl, List.drop_left' rfl]
theorem sig_get (X Y Z : List Int) (p : Int) (a : Nat) : (X ++ p :: (Y ++ Z))[sig (X.length + Y.length) X.length a]? = (X ++ (Y ++ p :: Z))[a]? := by
  unfold sig
  rcases Nat.lt_or_ge a X.length with h | h
  · rw [if_neg (by omega), if_neg (by omega), List.getElem?_append_left h, List.getElem?_append_left h]
  · obtain ⟨b, rfl⟩ : ∃ b, a = X.length + b := ⟨a - X.length, by omega⟩
    rcases Nat.lt_trichotomy b Y.length with h | h | h
    · rw [if_neg (by omega), if_pos (by omega), List.getElem?_append_right (by omega), List.getElem?_append_right (by omega), show X.length + b + 1 - X.length = b + 1 by omega, show X.length + b - X.length = b by omega, List.getElem?_cons_succ, List.getElem?_append_left h, List.getElem?_append_left h]
    · subst h
      rw [if_pos rfl, List.getElem?_append_right (by omega), List.getElem?_append_right (by omega), show X.length + Y.length - X.length = Y.length by omega, List.getElem?_append_right (by omega)]
      simp
    · rw [if_neg (by omega), if_neg (by omega), List.getElem?_append_right (by omega), List.getElem?_append_right (by omega), show X.length + b - X.length = b by omega]
      obtain ⟨c, rfl⟩ : ∃ c, b = Y.length + (c + 1) := ⟨b - Y.length - 1, by omega⟩
      rw [List.getElem?_append_right (by omega), show Y.length + (c + 1) - Y.length = c + 1 by omega, List.getElem?_cons_succ, show Y.length + (c + 1) = (Y.length + c) + 1 by omega, List.getElem?_cons_succ, List.getElem?_append_right (by omega), show Y.length + c - Y.length = c by omega]
theorem move_split {l : List Int} {j to : Nat} {p : Int} (h : l[j]? = some p) (hto : to ≤ j) : ∃ X Y Z, l = X ++ (Y ++ p :: Z) ∧ X.length = to ∧ X.length + Y.length = j := by
  obtain ⟨hj, hx⟩ := List.getElem?_eq_some_iff.1 h
  refine ⟨l.take to, (l.take j).drop to, l.drop (j + 1), ?_, by rw [List.length_take]; omega, by rw [List.length_take, List.length_drop, List.length_take]; omega⟩
  have e1 : l = l.take j ++ p :: l.drop (j + 1) := by rw [← hx, ← List.drop_eq_getElem_cons hj, List.take_append_drop]
  have e2 : l.take j = l.take to ++ (l.take j).drop to := by
    conv => lhs; rw [← List.take_append_drop to (l.take j)]
    rw [List.take_take, Nat.min_eq_left hto]
  conv => lhs; rw [e1, e2]
  rw [List.append_assoc]
theorem idx_move {l : List Int} (hn : l.Nodup) {to : Nat} {p x : Int} (hp : p ∈ l) (hto : to ≤ l.idxOf p) (hx : x ∈ l) : (moveL l (l.idxOf p) to p).idxOf x = sig (l.idxOf p) to (l.idxOf x) := by
  obtain ⟨X, Y, Z, e1, e2, e3⟩ := move_split (idxOf_get hp) hto
  have hg := idxOf_get hx
  have hpm := moveL_perm (idxOf_get hp) to
  refine idxOf_eq (hpm.nodup_iff.2 hn) ?_
  have em : moveL l (l.idxOf p) to p = X ++ p :: (Y ++ Z) := by
    rw [← e3, ← e2]
    have := moveL_mid X Y Z p
    rw [← e1] at this
    exact this
  have hs := sig_get X Y Z p (l.idxOf x)
  rw [e3, ← e1, hg, e2] at hs
  rw [em]; exact hs

/-! ### Pairs the other way round -/
def inv (r : Int → Nat) : List Int → Nat
  | [] => 0
  | x :: l => l.countP (fun y => decide (r y < r x)) + inv r l
theorem inv_start {r : Int → Nat} {l : List Int} (h : l.Pairwise fun x y => r x < r y) : inv r l = 0 := by
  induction l with
  | nil => rfl
  | cons x l ih =>
    rw [List.pairwise_cons] at h
    unfold inv
    rw [ih h.2, List.countP_eq_zero.2 (fun y hy => by have := h.1 y hy; simp; omega)]
theorem countP_le2 {l : List Int} {p q s : Int → Bool} (h : ∀ y ∈ l, p y = true → q y = true ∨ s y = true) : l.countP p ≤ l.countP q + l.countP s := by
  induction l with
  | nil => simp
  | cons y l ih =>
    have h1 := ih (fun z hz => h z (by simp [hz]))
    have h2 := h y (by simp)
    rw [List.countP_cons, List.countP_cons, List.countP_cons]
    cases hp : p y <;> cases hq : q y <;> cases hs : s y <;> simp_all <;> omega
theorem countP_le1 {l : List Int} {p q : Int → Bool} (h : ∀ y ∈ l, p y = true → q y = true) : l.countP p ≤ l.countP q := List.countP_mono_left h
/-- At most one has that place. -/
theorem count_one {l : List Int} (hn : l.Nodup) {r : Int → Nat} (hr : ∀ x ∈ l, ∀ y ∈ l, r x = r y → x = y) (p : Nat → Bool) (hp : ∀ a b, p a = true → p b = true → a = b) : l.countP (fun y => p (r y)) ≤ 1 := by
  induction l with
  | nil => simp
  | cons y l ih =>
    rw [List.nodup_cons] at hn
    have h1 := ih hn.2 (fun a ha b hb => hr a (by simp [ha]) b (by simp [hb]))
    rw [List.countP_cons]
    by_cases hy : p (r y) = true
    · have : l.countP (fun y => p (r y)) = 0 := List.countP_eq_zero.2 fun z hz hzp => by
        have := hr y (by simp) z (by simp [hz]) (hp _ _ hy hzp)
        subst this; exact hn.1 hz
      rw [this]; simp [hy]
    · simp [hy]; exact h1
theorem inv_swap_le {r r' : Int → Nat} {i : Nat} : ∀ {l : List Int}, l.Nodup → (∀ x ∈ l, ∀ y ∈ l, r x = r y → x = y) → (∀ x ∈ l, r' x = tau i (r x)) → inv r' l ≤ inv r l + l.countP (fun x => decide (r x + 1 = i)) := by
  intro l
  induction l with
  | nil => intro _ _ _; simp [inv]
  | cons x l ih =>
    intro hn hr ht
    rw [List.nodup_cons] at hn
    have h1 := ih hn.2 (fun a ha b hb => hr a (by simp [ha]) b (by simp [hb])) (fun a ha => ht a (by simp [ha]))
    have hx := ht x (by simp)
    unfold inv
    rw [List.countP_cons]
    by_cases hxi : r x + 1 = i
    · have h2 : l.countP (fun y => decide (r' y < r' x)) ≤ l.countP (fun y => decide (r y < r x)) + l.countP (fun y => decide (r y = i)) := countP_le2 fun y hy h => by
        have := ht y (by simp [hy])
        simp only [decide_eq_true_eq] at *
        rw [this, hx] at h
        exact tau_lt2 h hxi
      have h3 := count_one hn.2 (r := r) (fun a ha b hb => hr a (by simp [ha]) b (by simp [hb])) (fun a => decide (a = i)) (fun a b h1 h2 => by simp at h1 h2; omega)
      simp only [hxi, decide_true, if_true]
      omega
    · have h2 : l.countP (fun y => decide (r' y < r' x)) ≤ l.countP (fun y => decide (r y < r x)) := countP_le1 fun y hy h => by
        have := ht y (by simp [hy])
        simp only [decide_eq_true_eq] at *
        rw [this, hx] at h
        exact tau_lt h hxi
      simp only [hxi, decide_false]
      simp; omega
theorem inv_swap {r r' : Int → Nat} {i : Nat} {l : List Int} (hn : l.Nodup) (hr : ∀ x ∈ l, ∀ y ∈ l, r x = r y → x = y) (ht : ∀ x ∈ l, r' x = tau i (r x)) : inv r' l ≤ inv r l + 1 := by
  have h1 := inv_swap_le hn hr ht
  have h2 := count_one hn (r := r) hr (fun a => decide (a + 1 = i)) (fun a b h1 h2 => by simp at h1 h2; omega)
  omega
theorem inv_mono {r r' : Int → Nat} : ∀ {l : List Int}, (∀ x ∈ l, ∀ y ∈ l, r' y < r' x → r y < r x) → inv r' l ≤ inv r l := by
  intro l
  induction l with
  | nil => intro _; exact Nat.le_refl _
  | cons x l ih =>
    intro h
    unfold inv
    have h1 := ih (fun a ha b hb => h a (by simp [ha]) b (by simp [hb]))
    have h2 : l.countP (fun y => decide (r' y < r' x)) ≤ l.countP (fun y => decide (r y < r x)) := countP_le1 fun y hy hh => by
      have := h x (by simp) y (by simp [hy])
      simp at hh ⊢; exact this hh
    omega
theorem inv_fwd {r r' : Int → Nat} {j to : Nat} {p : Int} {l : List Int} (hp : p ∉ l) (hr : ∀ x ∈ l, r x ≠ r p) (hj : r p = j) (hto : to ≤ j) (hs : ∀ x ∈ p :: l, r' x = sig j to (r x)) : inv r' (p :: l) ≤ inv r (p :: l) := by
  unfold inv
  have hpp := hs p (by simp)
  have h1 : l.countP (fun y => decide (r' y < r' p)) ≤ l.countP (fun y => decide (r y < r p)) := countP_le1 fun y hy h => by
    have h2 := hs y (by simp [hy])
    have h3 := hr y hy
    simp only [decide_eq_true_eq] at *
    rw [h2, hpp, hj] at h
    rw [hj] at h3 ⊢
    exact sig_lt2 h h3 hto
  have h2 : inv r' l ≤ inv r l := inv_mono fun x hx y hy h => by
    have h2 := hs y (by simp [hy])
    have h3 := hr y hy
    have h4 := hs x (by simp [hx])
    have h5 := hr x hx
    rw [h2, h4] at h
    rw [hj] at h3 h5
    exact sig_lt h h3 h5
  omega
theorem inv_split (r : Int → Nat) (p : Int) : ∀ (A B : List Int), inv r (A ++ p :: B) = inv r (A ++ B) + A.countP (fun y => decide (r p < r y)) + B.countP (fun y => decide (r y < r p)) := by
  intro A
  induction A with
  | nil => intro B; simp [inv]; omega
  | cons x A ih =>
    intro B
    simp only [List.cons_append, inv]
    rw [ih B, List.countP_append, List.countP_append, List.countP_cons, List.countP_cons]
    by_cases h : r p < r x <;> simp [h] <;> omega
theorem count_below {l : List Int} (hn : l.Nodup) {r : Int → Nat} (hr : ∀ x ∈ l, ∀ y ∈ l, r x = r y → x = y) (m : Nat) : l.countP (fun y => decide (r y < m)) ≤ m := by
  have h1 : ((l.filter (fun y => decide (r y < m))).map r).Nodup := by
    rw [List.Nodup, List.pairwise_map]
    refine (hn.sublist List.filter_sublist).imp_of_mem ?_
    intro a b ha hb hab e
    exact hab (hr a (List.mem_filter.1 ha).1 b (List.mem_filter.1 hb).1 e)
  have h2 := nodup_leK (b := List.range m) h1 (fun k hk => by
    obtain ⟨y, hy, rfl⟩ := List.mem_map.1 hk
    have := (List.mem_filter.1 hy).2
    simp at this
    exact List.mem_range.2 this)
  rw [List.length_map, List.length_range] at h2
  rw [List.countP_eq_length_filter]; exact h2
theorem inv_front {r : Int → Nat} {A B : List Int} {p : Int} (hn : (A ++ p :: B).Nodup) (hr : ∀ x ∈ A ++ p :: B, ∀ y ∈ A ++ p :: B, r x = r y → x = y) : inv r (p :: (A ++ B)) + A.length ≤ inv r (A ++ p :: B) + 2 * r p := by
  rw [inv_split]
  have hnA := (List.nodup_append.1 hn).1
  have h1 := count_below hnA (r := r) (fun a ha b hb => hr a (by simp [ha]) b (by simp [hb])) (r p)
  have h2 : A.length = A.countP (fun y => decide (r y < r p)) + A.countP (fun y => decide (r p < r y)) := by
    have hall : ∀ y ∈ A, r y ≠ r p := fun y hy e => by
      have := hr y (by simp [hy]) p (by simp) e
      subst this
      exact (List.nodup_append.1 hn).2.2 y hy y (by simp) rfl
    clear h1 hn hr hnA
    induction A with
    | nil => rfl
    | cons a A ih =>
      have h3 := ih (fun y hy => hall y (by simp [hy]))
      have h4 := hall a (by simp)
      rw [List.length_cons, List.countP_cons, List.countP_cons]
      by_cases h : r a < r p
      · have h5 : ¬ r p < r a := by omega
        simp only [h, h5, decide_true, decide_false]; simp; omega
      · have h5 : r p < r a := by omega
        simp only [h, h5, decide_true, decide_false]; simp; omega
  rw [show inv r (p :: (A ++ B)) = (A ++ B).countP (fun y => decide (r y < r p)) + inv r (A ++ B) from rfl, List.countP_append]
  omega
end Go.Proofs.Ytgljpdfmejganaa
