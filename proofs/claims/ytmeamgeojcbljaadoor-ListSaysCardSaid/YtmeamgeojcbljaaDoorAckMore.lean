/- More plain laws of telling that messages came; no program in sight. -/
import Derived.Test.YtmeamgeojcbljaaDoorAckPlain
namespace Go.Proofs.YtmeamgeojcbljaaDoor

theorem lateI_shift (l : List Int) (b T : Int) : lateI (l.map (· + b)) (T + b) = lateI l T := by
  induction l with
  | nil => rfl
  | cons t l ih => rw [List.map_cons, lateI_cons, lateI_cons, ih]; omega
theorem part_shift {p : Int} {l : List Int} {c : Int} (b : Int) (h : Part p l c) : Part p (l.map (· + b)) c := by
  induction h with
  | nil => exact .nil
  | cons a m T c h hT ih =>
    have := Part.mk (a.map (· + b)) (T + b) ih
    have e := lateI_shift (a ++ [T]) b T
    rw [List.map_append, List.map_append]
    rw [List.map_append] at e
    simp only [List.map_cons, List.map_nil] at e ⊢
    rw [e] at this
    exact this
theorem best_shift {p b : Int} {l B B' : List Int} (h : IsBest p l B) (hB : B.length = l.length + 1) (h' : IsBest p (l.map (· + b)) B') (hB' : B'.length = l.length + 1) :
    B'.getD l.length 0 = B.getD l.length 0 := by
  have e : (l.map (· + b)).length = l.length := by simp
  have h1 := best_least h' (by rw [e]; exact hB') (part_shift b (best_is h hB))
  have h2 := part_shift (-b) (best_is h' (by rw [e]; exact hB'))
  rw [List.map_map] at h2
  have e2 : l.map ((· + -b) ∘ (· + b)) = l := by
    have : ((fun x : Int => x + -b) ∘ (fun x : Int => x + b)) = id := by funext x; simp only [Function.comp, id]; omega
    rw [this, List.map_id]
  rw [e2] at h2
  have h3 := best_least h hB h2
  rw [e] at h1 h3
  omega
theorem lateI_between {l : List Int} {p T U : Int} (h1 : lateI l T ≤ p) (h2 : p < lateI l (T + 1)) (h3 : lateI l U ≤ p) (h4 : p < lateI l (U + 1)) : T = U := by
  by_cases a : T < U
  · have := lateI_mono l (show T + 1 ≤ U by omega); omega
  · by_cases b : U < T
    · have := lateI_mono l (show U + 1 ≤ T by omega); omega
    · omega
theorem cut_unique {L : List Int} {n m : Nat} {T : Int} (hm : m < L.length) (h5 : ∀ x ∈ L.take (m + 1), x ≤ T) (h6 : ∀ x, L[n + 1]? = some x → T < x) : m ≤ n := by
  by_cases h : m ≤ n
  · exact h
  · have hy := List.getElem?_eq_getElem (show n + 1 < L.length by omega)
    have h1 := h6 _ hy
    have h2 := h5 L[n + 1] (by
      rw [List.mem_iff_getElem?]
      exact ⟨n + 1, by rw [List.getElem?_take, if_pos (by omega)]; exact hy⟩)
    omega
theorem ackRun_shift {p b : Int} {l o : List Int} {s : Int} (h : AckRun p l o s) : ∀ {l' o' : List Int} {s' : Int}, AckRun p l' o' s' → l' = l.map (· + b) → o' = o.map (· + b) ∧ s' = s := by
  induction h with
  | nil =>
    intro l' o' s' h' e
    cases h' with
    | nil => exact ⟨rfl, rfl⟩
    | step => cases e
  | step t l T n out s h1 h2 h3 h4 h5 h6 h7 ih =>
    intro l' o' s' h' e
    cases h' with
    | nil => cases e
    | step t' l' T' n' out' s' k1 k2 k3 k4 k5 k6 k7 =>
      have hT : T' = T + b := by
        rw [e] at k2 k3
        have e1 := lateI_shift (t :: l) b (T' - b)
        have e2 := lateI_shift (t :: l) b (T' - b + 1)
        rw [show T' - b + b = T' by omega] at e1
        rw [show T' - b + 1 + b = T' + 1 by omega] at e2
        have := lateI_between h2 h3 (by rw [← e1]; exact k2) (by rw [← e2]; exact k3)
        omega
      subst hT
      have hlen : l'.length = l.length := by have := congrArg List.length e; simpa using this
      have hn : n' = n := by
        have a1 : n' ≤ n := cut_unique (L := t :: l) (T := T) (by simp; omega) (fun x hx => by
          have := k5 (x + b) (by rw [e, ← List.map_take]; exact List.mem_map_of_mem (f := (· + b)) hx)
          omega) h6
        have a2 : n ≤ n' := cut_unique (L := t' :: l') (T := T + b) (by simp; omega) (fun x hx => by
          rw [e, ← List.map_take] at hx
          obtain ⟨y, hy, rfl⟩ := List.mem_map.1 hx
          have := h5 y hy
          show y + b ≤ T + b
          omega) k6
        omega
      subst hn
      have hd : (t' :: l').drop (n' + 1) = ((t :: l).drop (n' + 1)).map (· + b) := by rw [e, List.map_drop]
      obtain ⟨i1, i2⟩ := ih k7 hd
      have ht : (t' :: l').take (n' + 1) = ((t :: l).take (n' + 1)).map (· + b) := by rw [e, List.map_take]
      rw [ht, lateI_shift, i1, i2]
      exact ⟨rfl, rfl⟩
theorem ackRun_det {p : Int} {l o o' : List Int} {s s' : Int} (h : AckRun p l o s) (h' : AckRun p l o' s') : o' = o ∧ s' = s := by
  have := ackRun_shift (b := 0) h h' (by simp)
  simpa using this
theorem ackRun_fact {o : List Int} {s : Int} (h : AckRun 5 [0, 1] o s) : o = [3] ∧ s = 10 := by
  have k : AckRun 5 [0, 1] [3] (5 + lateI ([0, 1].take (1 + 1)) 3 + 0) := AckRun.step 0 [1] 3 1 [] 0 (by decide) (by decide) (by decide) (by decide) (by decide) (by simp) .nil
  obtain ⟨e1, e2⟩ := ackRun_det k h
  exact ⟨e1, by rw [e2]; decide⟩
theorem best_fact {B : List Int} (h : IsBest 5 [0, 1] B) (hB : B.length = 3) : B.getD 2 0 = 6 := by
  obtain ⟨a1, j1, a2, a3⟩ := h.2 0 0 (by omega) rfl
  obtain ⟨b1, j2, b2, b3⟩ := h.2 1 1 (by omega) rfl
  have h0 := h.1
  obtain rfl : j1 = 0 := by omega
  have c1 : lateI (([0, 1] : List Int).take (0 + 1) |>.drop 0) 0 = 0 := by decide
  have c2 : lateI (([0, 1] : List Int).take (1 + 1) |>.drop 0) 1 = 1 := by decide
  have c3 : lateI (([0, 1] : List Int).take (1 + 1) |>.drop 1) 1 = 0 := by decide
  have d1 := b1 0 (by omega)
  rw [c1] at a3
  rw [c2] at d1
  have d2 : j2 = 0 ∨ j2 = 1 := by omega
  simp only [Nat.zero_add, Nat.reduceAdd] at a3 d1 b3
  rcases d2 with rfl | rfl
  · rw [show List.drop 0 (List.take 2 ([0, 1] : List Int)) = [0, 1] from rfl, show lateI [0, 1] 1 = 1 by decide] at b3; omega
  · rw [show List.drop 1 (List.take 2 ([0, 1] : List Int)) = [1] from rfl, show lateI [1] 1 = 0 by decide] at b3; omega

/-! ### Whoever tells at whatever times. -/
def anyLeft : List Int → List Int → List Int
  | l, [] => l
  | l, T :: ts => anyLeft (l.filter (T < ·)) ts
def anySum (p : Int) : List Int → List Int → Int
  | _, [] => 0
  | l, T :: ts => p + lateI l T + anySum p (l.filter (T < ·)) ts
theorem anyLeft_snoc (ts : List Int) (T : Int) : ∀ l, anyLeft l (ts ++ [T]) = (anyLeft l ts).filter (T < ·) := by
  induction ts with
  | nil => intro l; rfl
  | cons U ts ih => intro l; exact ih _
theorem anySum_snoc (p : Int) (ts : List Int) (T : Int) : ∀ l, anySum p l (ts ++ [T]) = anySum p l ts + (p + lateI (anyLeft l ts) T) := by
  induction ts with
  | nil => intro l; simp [anySum, anyLeft]
  | cons U ts ih => intro l; show p + lateI l U + anySum p _ (ts ++ [T]) = p + lateI l U + anySum p _ ts + _; rw [ih]; simp only [anyLeft]; omega
theorem anyLeft_mem {l : List Int} {ts : List Int} : ∀ {x : Int}, x ∈ anyLeft l ts → x ∈ l := by
  induction ts generalizing l with
  | nil => exact fun h => h
  | cons U ts ih => exact fun h => (List.mem_filter.1 (ih h)).1
theorem anyLeft_len (l ts : List Int) : (anyLeft l ts).length ≤ l.length := by
  induction ts generalizing l with
  | nil => exact Nat.le_refl _
  | cons U ts ih => exact Nat.le_trans (ih _) (List.length_filter_le _ _)
/-- Of numbers that do not fall those above a bound are the last ones. -/
theorem rise_filter (T : Int) : ∀ l : List Int, Rise l → ∃ k, k ≤ l.length ∧ l.filter (T < ·) = l.drop k ∧ ∀ x ∈ l.take k, x ≤ T := by
  intro l
  induction l with
  | nil => intro _; exact ⟨0, by simp, rfl, by simp⟩
  | cons t l ih =>
    intro h
    by_cases ht : T < t
    · refine ⟨0, by omega, ?_, by simp⟩
      rw [List.drop_zero, List.filter_eq_self]
      intro x hx
      have := h.head x hx
      exact decide_eq_true (by omega)
    · obtain ⟨k, h1, h2, h3⟩ := ih (by have := h.drop 1; simpa using this)
      refine ⟨k + 1, by simp; omega, ?_, ?_⟩
      · rw [List.filter_cons_of_neg (by simpa using ht), h2]; rfl
      · intro x hx
        rw [List.take_succ_cons, List.mem_cons] at hx
        rcases hx with hx | hx
        · omega
        · exact h3 x hx
theorem any_part {p : Int} (hp : 0 ≤ p) : ∀ (ts l : List Int), Rise l → anyLeft l ts = [] → ∃ c, Part p l c ∧ c ≤ anySum p l ts := by
  intro ts
  induction ts with
  | nil => intro l _ h; have h' : l = [] := h; subst h'; exact ⟨0, .nil, by simp [anySum]⟩
  | cons T ts ih =>
    intro l hl h
    obtain ⟨k, h1, h2, h3⟩ := rise_filter T l hl
    have h' : anyLeft (l.filter (T < ·)) ts = [] := h
    rw [h2] at h'
    obtain ⟨c, h4, h5⟩ := ih _ (hl.drop k) h'
    have e : anySum p l (T :: ts) = p + lateI l T + anySum p (l.drop k) ts := by rw [← h2]; rfl
    have h6 := lateI_nonneg l T
    rcases k with _ | k
    · exact ⟨c, by simpa using h4, by rw [e]; omega⟩
    · have hy := List.getElem?_eq_getElem (show k < l.length by omega)
      have e2 := take_succ_of hy
      refine ⟨p + lateI (l.take (k + 1)) l[k] + c, ?_, ?_⟩
      · have := Part.mk (l.take k) l[k] h4
        rw [← e2, List.take_append_drop] at this
        exact this
      · have h7 := lateI_mono (l.take (k + 1)) (h3 l[k] (by rw [e2]; exact List.mem_append_right _ (List.mem_singleton.2 rfl)))
        have h8 := lateI_take_le l (k + 1) T
        rw [e]; omega
theorem anySum_nonneg {p : Int} (hp : 0 ≤ p) (ts : List Int) : ∀ l, 0 ≤ anySum p l ts := by
  induction ts with
  | nil => intro l; exact Int.le_refl 0
  | cons T ts ih => intro l; have h1 := ih (l.filter (T < ·)); have h2 := lateI_nonneg l T; show 0 ≤ p + lateI l T + _; omega

/-! ### What is told at one time. -/
theorem AckRun.inv {p T : Int} {L o : List Int} {s : Int} (h : AckRun p L (T :: o) s) : ∃ q s', 1 ≤ q ∧ q ≤ L.length ∧ lateI L T ≤ p ∧ p < lateI L (T + 1) ∧ (∀ x ∈ L.take q, x ≤ T) ∧ (∀ x, L[q]? = some x → T < x) ∧
    AckRun p (L.drop q) o s' ∧ s = p + lateI (L.take q) T + s' ∧ ∃ t, t ∈ L ∧ t ≤ T := by
  cases h with
  | step t l T n out s h1 h2 h3 h4 h5 h6 h7 => exact ⟨n + 1, s, by omega, by simp; omega, h2, h3, h5, h6, h7, rfl, t, by simp, h1⟩
theorem AckRun.inv_nil {p : Int} {L : List Int} {s : Int} (h : AckRun p L [] s) : L = [] ∧ s = 0 := by
  cases h with
  | nil => exact ⟨rfl, rfl⟩
/-- How many of a list lie above one bound, and not above another one. -/
def cntI (l : List Int) (a b : Int) : Nat := (l.filter fun x => decide (a < x) && decide (x ≤ b)).length
theorem cntI_snoc (l : List Int) (x a b : Int) : cntI (l ++ [x]) a b = cntI l a b + if a < x ∧ x ≤ b then 1 else 0 := by
  unfold cntI
  rw [List.filter_append, List.length_append]
  congr 1
  by_cases h1 : a < x <;> by_cases h2 : x ≤ b <;> simp [List.filter_cons, h1, h2]
theorem cntI_le (l : List Int) (a b : Int) : cntI l a b ≤ l.length := List.length_filter_le _ _
theorem up_snoc (l : List Int) (x a : Int) : (l ++ [x]).filter (a < ·) = l.filter (a < ·) ++ if a < x then [x] else [] := by
  rw [List.filter_append]
  congr 1
  by_cases h : a < x <;> simp [List.filter_cons, h]
theorem up_drop {l : List Int} {a : Int} {f : Nat} (h1 : ∀ x ∈ l.take f, x ≤ a) (h2 : ∀ x ∈ l.drop f, a < x) : l.filter (a < ·) = l.drop f := by
  have e : l.filter (a < ·) = (l.take f).filter (a < ·) ++ (l.drop f).filter (a < ·) := by rw [← List.filter_append, List.take_append_drop]
  rw [e, List.filter_eq_nil_iff.2 (fun x hx => by have := h1 x hx; simp; omega), List.nil_append, List.filter_eq_self.2 (fun x hx => decide_eq_true (h2 x hx))]
theorem cntI_cut {l : List Int} {a b : Int} {f q : Nat} (hl : Rise l) (h1 : ∀ x ∈ l.take f, x ≤ a) (h2 : ∀ x ∈ l.drop f, a < x) (hq : q ≤ (l.drop f).length) (h3 : ∀ x ∈ (l.drop f).take q, x ≤ b) (h4 : ∀ x, (l.drop f)[q]? = some x → b < x) : cntI l a b = q := by
  unfold cntI
  have e : l.filter (fun x => decide (a < x) && decide (x ≤ b)) = (l.drop f).take q := by
    have e1 : l = l.take f ++ ((l.drop f).take q ++ (l.drop f).drop q) := by rw [List.take_append_drop, List.take_append_drop]
    have e2 : (l.take f).filter (fun x => decide (a < x) && decide (x ≤ b)) = [] := List.filter_eq_nil_iff.2 (fun x hx => by have := h1 x hx; simp; omega)
    have e3 : ((l.drop f).take q).filter (fun x => decide (a < x) && decide (x ≤ b)) = (l.drop f).take q := List.filter_eq_self.2 (fun x hx => by
      have := h2 x (List.mem_of_mem_take hx); have := h3 x hx; simp; omega)
    have e4 : ((l.drop f).drop q).filter (fun x => decide (a < x) && decide (x ≤ b)) = [] := List.filter_eq_nil_iff.2 (fun z hz => by
      obtain ⟨i, hi⟩ := List.mem_iff_getElem?.1 hz
      rw [List.getElem?_drop] at hi
      have hlt : q < (l.drop f).length := by have := (List.getElem?_eq_some_iff.1 hi).1; omega
      have hy := List.getElem?_eq_getElem hlt
      have k1 := h4 _ hy
      have k2 := (hl.drop f).le i q _ z hy hi
      simp; omega)
    have e5 := congrArg (List.filter fun x => decide (a < x) && decide (x ≤ b)) e1
    rw [List.filter_append, List.filter_append, e2, e3, e4, List.append_nil, List.nil_append] at e5
    exact e5
  rw [e, List.length_take]; omega
theorem late_cut {L : List Int} {T : Int} {q : Nat} (hL : Rise L) (h4 : ∀ x, L[q]? = some x → T < x) : lateI (L.take q) T = lateI L T := by
  have h := lateI_append (L.take q) (L.drop q) T
  rw [List.take_append_drop] at h
  have : lateI (L.drop q) T = 0 := lateI_zero fun z hz => by
    obtain ⟨i, hi⟩ := List.mem_iff_getElem?.1 hz
    rw [List.getElem?_drop] at hi
    have hlt : q < L.length := by have := (List.getElem?_eq_some_iff.1 hi).1; omega
    have hy := List.getElem?_eq_getElem hlt
    have h1 := h4 _ hy
    have h2 := hL.le i q _ z hy hi
    omega
  omega
end Go.Proofs.YtmeamgeojcbljaaDoor
