/- Plain laws of telling that messages came; no program in sight. -/
import Derived.Test.YtmeamgeojcbljaaDoorLists
namespace Go.Proofs.YtmeamgeojcbljaaDoor

/-- How long messages wait, together, until a time. -/
def lateI (l : List Int) (T : Int) : Int := l.foldl (fun s t => s + max 0 (T - t)) 0
theorem lateI_snoc (l : List Int) (t T : Int) : lateI (l ++ [t]) T = lateI l T + max 0 (T - t) := by unfold lateI; rw [List.foldl_append]; rfl
theorem lateI_nil (T : Int) : lateI [] T = 0 := rfl
theorem lateI_append (a b : List Int) (T : Int) : lateI (a ++ b) T = lateI a T + lateI b T := by
  induction b using list_snoc_ind with
  | h0 => simp [lateI]
  | h1 b y ih => rw [← List.append_assoc, lateI_snoc, lateI_snoc, ih]; omega
theorem lateI_one (t T : Int) : lateI [t] T = max 0 (T - t) := by rw [show [t] = [] ++ [t] from rfl, lateI_snoc, lateI_nil]; omega
theorem lateI_cons (t : Int) (l : List Int) (T : Int) : lateI (t :: l) T = max 0 (T - t) + lateI l T := by
  rw [show t :: l = [t] ++ l from rfl, lateI_append, lateI_one]
theorem lateI_nonneg (l : List Int) (T : Int) : 0 ≤ lateI l T := by
  induction l with
  | nil => simp [lateI_nil]
  | cons t l ih => rw [lateI_cons]; omega
theorem lateI_mono (l : List Int) {T T' : Int} (h : T ≤ T') : lateI l T ≤ lateI l T' := by
  induction l with
  | nil => simp [lateI_nil]
  | cons t l ih => rw [lateI_cons, lateI_cons]; omega
theorem lateI_le (l : List Int) (T : Int) (h : ∀ t ∈ l, 0 ≤ t) (hT : 0 ≤ T) : lateI l T ≤ l.length * T := by
  induction l with
  | nil => simp [lateI_nil]
  | cons t l ih =>
    rw [lateI_cons, List.length_cons]
    have h1 := ih fun x hx => h x (by simp [hx])
    have h2 := h t (by simp)
    have h3 : ((l.length + 1 : Nat) : Int) * T = l.length * T + T := by rw [Int.natCast_add, Int.add_mul]; simp
    omega
theorem lateI_take_succ {l : List Int} {k : Nat} {y T : Int} (h : l[k]? = some y) : lateI (l.take (k + 1)) T = lateI (l.take k) T + max 0 (T - y) := by
  rw [take_succ_of h, lateI_snoc]
theorem lateI_take_le (l : List Int) (k : Nat) (T : Int) : lateI (l.take k) T ≤ lateI l T := by
  have h := lateI_append (l.take k) (l.drop k) T
  rw [List.take_append_drop] at h
  have := lateI_nonneg (l.drop k) T
  omega
theorem lateI_mem {l : List Int} {t T : Int} (h : t ∈ l) : T - t ≤ lateI l T := by
  induction l with
  | nil => simp at h
  | cons y l ih =>
    rw [lateI_cons]
    rw [List.mem_cons] at h
    have h2 := lateI_nonneg l T
    rcases h with h | h
    · subst h; omega
    · have := ih h; omega
/-- Who waits for nothing counts for nothing. -/
theorem lateI_zero {l : List Int} {T : Int} (h : ∀ t ∈ l, T ≤ t) : lateI l T = 0 := by
  induction l with
  | nil => rfl
  | cons y l ih => rw [lateI_cons, ih fun x hx => h x (by simp [hx])]; have := h y (by simp); omega

/-- Numbers that do not fall. -/
def Rise (l : List Int) : Prop := ∀ i x y, l[i]? = some x → l[i + 1]? = some y → x ≤ y
theorem Rise.le {l : List Int} (h : Rise l) : ∀ (d i : Nat) (x y : Int), l[i]? = some x → l[i + d]? = some y → x ≤ y := by
  intro d
  induction d with
  | zero => intro i x y hx hy; rw [Nat.add_zero, hx] at hy; injection hy with hy; omega
  | succ d ih =>
    intro i x y hx hy
    have hlt : i + d < l.length := by have := (List.getElem?_eq_some_iff.1 hy).1; omega
    have hz := List.getElem?_eq_getElem hlt
    exact Int.le_trans (ih i x _ hx hz) (h (i + d) _ y hz (by rw [Nat.add_assoc]; exact hy))
theorem Rise.drop {l : List Int} (h : Rise l) (k : Nat) : Rise (l.drop k) := by
  intro i x y hx hy
  rw [List.getElem?_drop] at hx hy
  exact h (k + i) x y hx (by rw [Nat.add_assoc]; exact hy)
theorem Rise.take {l : List Int} (h : Rise l) (k : Nat) : Rise (l.take k) := by
  intro i x y hx hy
  rw [List.getElem?_take] at hx hy
  split at hx
  · split at hy
    · exact h i x y hx hy
    · cases hy
  · cases hx
theorem Rise.head {l : List Int} {t : Int} (h : Rise (t :: l)) : ∀ x ∈ t :: l, t ≤ x := by
  intro x hx
  obtain ⟨i, hi⟩ := List.mem_iff_getElem?.1 hx
  exact h.le i 0 t x rfl (by rw [Nat.zero_add]; exact hi)
theorem Rise.split {l : List Int} (h : Rise l) {n : Nat} {x y : Int} (hx : x ∈ l.take n) (hy : y ∈ l.drop n) : x ≤ y := by
  obtain ⟨i, hi⟩ := List.mem_iff_getElem?.1 hx
  obtain ⟨j, hj⟩ := List.mem_iff_getElem?.1 hy
  rw [List.getElem?_take] at hi
  split at hi
  · rename_i hlt
    rw [List.getElem?_drop] at hj
    exact h.le (n + j - i) i x y hi (by rw [show i + (n + j - i) = n + j by omega]; exact hj)
  · cases hi

/-- What the program does: it tells as late as may be. -/
inductive AckRun (p : Int) : List Int → List Int → Int → Prop
  | nil : AckRun p [] [] 0
  | step (t : Int) (l : List Int) (T : Int) (n : Nat) (out : List Int) (s : Int) (h1 : t ≤ T) (h2 : lateI (t :: l) T ≤ p) (h3 : p < lateI (t :: l) (T + 1))
      (h4 : n ≤ l.length) (h5 : ∀ x ∈ (t :: l).take (n + 1), x ≤ T) (h6 : ∀ x, (t :: l)[n + 1]? = some x → T < x) (h7 : AckRun p ((t :: l).drop (n + 1)) out s) :
      AckRun p (t :: l) (T :: out) (p + lateI ((t :: l).take (n + 1)) T + s)

theorem AckRun.step' {p T t : Int} {L : List Int} {q : Nat} (hL : L = t :: L.drop 1) (h1 : t ≤ T) (h2 : lateI L T ≤ p) (h3 : p < lateI L (T + 1)) (h4 : q ≤ L.length)
    (h5 : ∀ x ∈ L.take q, x ≤ T) (h6 : ∀ x, L[q]? = some x → T < x) {o : List Int} {s : Int} (h : AckRun p (L.drop q) o s) : AckRun p L (T :: o) (p + lateI (L.take q) T + s) := by
  rcases q with _ | q
  · have := h6 t (by rw [hL]; rfl)
    omega
  · rw [hL] at h2 h3 h4 h5 h6 h ⊢
    exact AckRun.step t _ T q o s h1 h2 h3 (by simpa using h4) h5 h6 h

/-- A way to tell: some messages that come one behind the other, with the last of them, then the rest. -/
inductive Part (p : Int) : List Int → Int → Prop
  | nil : Part p [] 0
  | cons (a b : List Int) (T c : Int) (h : Part p b c) (hT : (a ++ [T]).getLast? = some T) : Part p (a ++ [T] ++ b) (p + lateI (a ++ [T]) T + c)

theorem Part.mk {p : Int} {b : List Int} {c : Int} (a : List Int) (T : Int) (h : Part p b c) : Part p (a ++ [T] ++ b) (p + lateI (a ++ [T]) T + c) := .cons a b T c h (by simp)
theorem Part.nonneg {p : Int} (hp : 0 ≤ p) {l : List Int} {c : Int} (h : Part p l c) : 0 ≤ c := by
  induction h with
  | nil => omega
  | cons a b T c h hT ih => have := lateI_nonneg (a ++ [T]) T; omega
/-- One more telling behind. -/
theorem Part.snoc {p : Int} {l : List Int} {c : Int} (h : Part p l c) (a : List Int) (T : Int) : Part p (l ++ (a ++ [T])) (c + p + lateI (a ++ [T]) T) := by
  induction h with
  | nil => have := Part.mk (p := p) a T Part.nil; simp at this; simpa using this
  | cons a' b T' c h hT ih =>
    have := Part.mk a' T' ih
    rw [List.append_assoc]
    have e : p + lateI (a' ++ [T']) T' + (c + p + lateI (a ++ [T]) T) = p + lateI (a' ++ [T']) T' + c + p + lateI (a ++ [T]) T := by omega
    rwa [e] at this

/-- The least costs of the first messages, one list of them. -/
def IsBest (p : Int) (l B : List Int) : Prop :=
  B.getD 0 0 = 0 ∧ ∀ i y, i + 1 < B.length → l[i]? = some y →
    (∀ j, j ≤ i → B.getD (i + 1) 0 ≤ B.getD j 0 + p + lateI ((l.take (i + 1)).drop j) y) ∧ ∃ j, j ≤ i ∧ B.getD (i + 1) 0 = B.getD j 0 + p + lateI ((l.take (i + 1)).drop j) y

theorem take_drop_last {l : List Int} {i j : Nat} {y : Int} (hj : j ≤ i) (hy : l[i]? = some y) : (l.take (i + 1)).drop j = (l.take i).drop j ++ [y] := by
  rw [take_succ_of hy, List.drop_append_of_le_length]
  have := (List.getElem?_eq_some_iff.1 hy).1
  simp; omega

theorem best_part {p : Int} {l B : List Int} (h : IsBest p l B) : ∀ i, i < B.length → i ≤ l.length → Part p (l.take i) (B.getD i 0) := by
  intro i
  induction i using Nat.strongRecOn with
  | _ i ih =>
    intro hi hl
    rcases i with _ | i
    · rw [h.1]; exact .nil
    · have hy := List.getElem?_eq_getElem (show i < l.length by omega)
      obtain ⟨_, j, hj, e⟩ := h.2 i _ hi hy
      have h1 := ih j (by omega) (by omega) (by omega)
      rw [e, take_drop_last hj hy]
      have h2 := h1.snoc ((l.take i).drop j) l[i]
      rw [← take_drop_last hj hy] at h2 ⊢
      have e2 : l.take j ++ (l.take (i + 1)).drop j = l.take (i + 1) := by
        rw [show l.take j = (l.take (i + 1)).take j by rw [List.take_take, Nat.min_eq_left (by omega)], List.take_append_drop]
      rwa [e2] at h2

/-- No way costs less: from any beginning on. -/
theorem best_le {p : Int} {l B : List Int} (h : IsBest p l B) (hB : B.length = l.length + 1) {m : List Int} {c : Int} (hm : Part p m c) :
    ∀ j, j ≤ l.length → l.drop j = m → B.getD l.length 0 ≤ B.getD j 0 + c := by
  induction hm with
  | nil =>
    intro j hj e
    have : j = l.length := by have := congrArg List.length e; simp at this; omega
    subst this; omega
  | cons a b T c hb hT ih =>
    intro j hj e
    have hlen : (l.drop j).length = (a ++ [T] ++ b).length := by rw [e]
    simp at hlen
    have h1 := ih (j + a.length + 1) (by omega) (by
      rw [Nat.add_assoc, ← List.drop_drop, e]
      rw [show a.length + 1 = (a ++ [T]).length by simp, List.drop_left])
    have hy : l[j + a.length]? = some T := by
      rw [← List.getElem?_drop, e]; simp
    obtain ⟨h2, _⟩ := h.2 (j + a.length) T (by omega) hy
    have h3 := h2 j (by omega)
    have e3 : (l.take (j + a.length + 1)).drop j = a ++ [T] := by
      rw [List.drop_take, e, show j + a.length + 1 - j = (a ++ [T]).length by simp; omega, List.take_left]
    rw [e3] at h3
    omega
theorem best_least {p : Int} {l B : List Int} (h : IsBest p l B) (hB : B.length = l.length + 1) {c : Int} (hm : Part p l c) : B.getD l.length 0 ≤ c := by
  have := best_le h hB hm 0 (by omega) rfl
  rw [h.1] at this; omega
theorem best_is {p : Int} {l B : List Int} (h : IsBest p l B) (hB : B.length = l.length + 1) : Part p l (B.getD l.length 0) := by
  have := best_part h l.length (by omega) (by omega)
  rwa [List.take_of_length_le (by omega)] at this
theorem best_nonneg {p : Int} (hp : 0 ≤ p) {l B : List Int} (h : IsBest p l B) (hB : B.length ≤ l.length + 1) (i : Nat) (hi : i < B.length) : 0 ≤ B.getD i 0 :=
  (best_part h i hi (by omega)).nonneg hp

/-- The least of the first j numbers c, or -1. -/
def MinUp (c : Nat → Int) (j : Nat) (m : Int) : Prop := (j = 0 ∧ m = -1) ∨ (0 < j ∧ 0 ≤ m ∧ (∀ i, i < j → m ≤ c i) ∧ ∃ i, i < j ∧ m = c i)
theorem MinUp.none (c : Nat → Int) : MinUp c 0 (-1) := .inl ⟨rfl, rfl⟩
theorem MinUp.new {c : Nat → Int} {j : Nat} {m : Int} (h : MinUp c j m) (h0 : 0 ≤ c j) (hm : m < 0 ∨ c j < m) : MinUp c (j + 1) (c j) := by
  refine .inr ⟨by omega, h0, fun i hi => ?_, j, by omega, rfl⟩
  by_cases hij : i = j
  · subst hij; omega
  · rcases h with ⟨h1, h2⟩ | ⟨h1, h2, h3, _⟩
    · omega
    · have := h3 i (by omega); omega
theorem MinUp.old {c : Nat → Int} {j : Nat} {m : Int} (h : MinUp c j m) (hm : ¬ (m < 0 ∨ c j < m)) : MinUp c (j + 1) m := by
  rcases h with ⟨h1, h2⟩ | ⟨h1, h2, h3, i, h4, h5⟩
  · omega
  · refine .inr ⟨by omega, h2, fun k hk => ?_, i, by omega, h5⟩
    by_cases hkj : k = j
    · subst hkj; omega
    · exact h3 k (by omega)
theorem isBest_snoc {p : Int} {l B : List Int} (h : IsBest p l B) {k : Nat} (hk : B.length = k + 1) {y m : Int} (hy : l[k]? = some y)
    (hm : MinUp (fun j => B.getD j 0 + p + lateI ((l.take (k + 1)).drop j) y) (k + 1) m) : IsBest p l (B ++ [m]) := by
  have hget : ∀ j, j ≤ k → (B ++ [m]).getD j 0 = B.getD j 0 := fun j hj => by
    rw [List.getD_eq_getElem?_getD, List.getD_eq_getElem?_getD, List.getElem?_append_left (by omega)]
  refine ⟨by rw [hget 0 (by omega)]; exact h.1, fun i x hi hx => ?_⟩
  simp at hi
  by_cases hik : i = k
  · subst hik
    rw [hy] at hx; injection hx with hx; subst hx
    have e : (B ++ [m]).getD (i + 1) 0 = m := by
      rw [List.getD_eq_getElem?_getD, List.getElem?_append_right (by omega), hk]; simp
    rcases hm with ⟨h1, _⟩ | ⟨_, _, h3, j, h4, h5⟩
    · omega
    · rw [e]
      exact ⟨fun j hj => by rw [hget j hj]; exact h3 j (by omega), j, by omega, by rw [hget j (by omega)]; exact h5⟩
  · obtain ⟨h1, j, h2, h3⟩ := h.2 i x (by omega) hx
    rw [hget (i + 1) (by omega)]
    exact ⟨fun j hj => by rw [hget j (by omega)]; exact h1 j hj, j, h2, by rw [hget j (by omega)]; exact h3⟩
theorem isBest_nil (p : Int) (l : List Int) : IsBest p l [0] := ⟨rfl, fun i y hi => by simp at hi⟩
/-- No cost is more than all told at once. -/
theorem best_bound {p : Int} (hp : 0 ≤ p) {l B : List Int} (h : IsBest p l B) (hl : ∀ x ∈ l, 0 ≤ x ∧ x ≤ 1000) (hn : l.length ≤ 20) (hB : B.length ≤ l.length + 1) (i : Nat) (hi : i < B.length) : 0 ≤ B.getD i 0 ∧ B.getD i 0 ≤ p + 20000 := by
  refine ⟨best_nonneg hp h hB i hi, ?_⟩
  rcases i with _ | i
  · rw [h.1]; omega
  · have hy := List.getElem?_eq_getElem (show i < l.length by omega)
    have h1 := (h.2 i _ hi hy).1 0 (by omega)
    have hyb := hl l[i] (List.getElem_mem _)
    have h2 := lateI_le ((l.take (i + 1)).drop 0) l[i] (fun t ht => (hl t (List.mem_of_mem_take (List.mem_of_mem_drop ht))).1) hyb.1
    have h3 : ((((l.take (i + 1)).drop 0).length : Nat) : Int) * l[i] ≤ 20 * 1000 := by
      apply Int.mul_le_mul
      · simp; omega
      · exact hyb.2
      · exact hyb.1
      · omega
    rw [h.1] at h1
    omega

/-! ### What the program does is one way. -/
theorem ackRun_part {p : Int} {l out : List Int} {s : Int} (h : AckRun p l out s) (hl : Rise l) : ∃ c, Part p l c ∧ c ≤ s := by
  induction h with
  | nil => exact ⟨0, .nil, by omega⟩
  | step t l T n out s h1 h2 h3 h4 h5 h6 h7 ih =>
    obtain ⟨c, hc, hle⟩ := ih (hl.drop _)
    have hn : n < (t :: l).length := by simp; omega
    have hy := List.getElem?_eq_getElem hn
    have e := take_succ_of hy
    have hT : (t :: l)[n] ≤ T := h5 _ (by rw [e]; exact List.mem_append_right _ (List.mem_singleton.2 rfl))
    refine ⟨p + lateI ((t :: l).take (n + 1)) (t :: l)[n] + c, ?_, ?_⟩
    · have := Part.mk ((t :: l).take n) (t :: l)[n] hc
      rw [← e, List.take_append_drop] at this
      exact this
    · have := lateI_mono ((t :: l).take (n + 1)) hT
      omega

/-! ### No more than twice the least. -/
theorem part_cut {p : Int} (hp : 0 ≤ p) {l : List Int} {c : Int} (h : Part p l c) : ∀ j, j ≤ l.length → ∃ c', Part p (l.drop j) c' ∧ c' ≤ c := by
  induction h with
  | nil => intro j _; exact ⟨0, by simpa using Part.nil, by omega⟩
  | cons a b T c hb hT ih =>
    intro j hj
    simp at hj
    by_cases hja : j ≤ a.length
    · refine ⟨p + lateI (a.drop j ++ [T]) T + c, ?_, ?_⟩
      · have := Part.mk (a.drop j) T hb
        rw [List.append_assoc, List.drop_append_of_le_length hja, ← List.append_assoc]
        exact this
      · have h1 := lateI_append (a.take j) (a.drop j) T
        rw [List.take_append_drop] at h1
        have h2 := lateI_nonneg (a.take j) T
        rw [lateI_append, lateI_append]; omega
    · obtain ⟨c', h1, h2⟩ := ih (j - (a.length + 1)) (by omega)
      refine ⟨c', ?_, ?_⟩
      · have e : j = (a ++ [T]).length + (j - (a.length + 1)) := by simp; omega
        rw [e, ← List.drop_drop, List.drop_left]; exact h1
      · have := lateI_nonneg (a ++ [T]) T; omega
theorem part_first {p : Int} (hp : 0 ≤ p) {t : Int} {l : List Int} {T : Int} {n : Nat} (hl : Rise (t :: l)) (h3 : p < lateI (t :: l) (T + 1)) (h4 : n ≤ l.length) (h6 : ∀ x, (t :: l)[n + 1]? = some x → T < x)
    {m : List Int} {c : Int} (h : Part p m c) (hm : m = t :: l) : ∃ c', Part p ((t :: l).drop (n + 1)) c' ∧ p + c' ≤ c := by
  cases h with
  | nil => cases hm
  | cons a b T' c hb hT =>
    by_cases hna : a.length ≤ n
    · obtain ⟨c', h1, h2⟩ := part_cut hp hb (n - a.length) (by
        have := congrArg List.length hm; simp at this; omega)
      refine ⟨c', ?_, by have := lateI_nonneg (a ++ [T']) T'; omega⟩
      rw [← hm, show n + 1 = (a ++ [T']).length + (n - a.length) by simp; omega, ← List.drop_drop, List.drop_left]
      exact h1
    · have hlen := congrArg List.length hm
      simp at hlen
      have hn1 : n + 1 < (t :: l).length := by simp; omega
      have hy := List.getElem?_eq_getElem hn1
      have hx := h6 _ hy
      have hd : (t :: l).drop (n + 1) = a.drop (n + 1) ++ [T'] ++ b := by
        rw [← hm, List.append_assoc, List.drop_append_of_le_length (by omega), ← List.append_assoc]
      refine ⟨p + lateI (a.drop (n + 1) ++ [T']) T' + c, by rw [hd]; exact Part.mk _ _ hb, ?_⟩
      have hT' : T + 1 ≤ T' := by
        have hmem : T' ∈ (t :: l).drop (n + 1) := by rw [hd]; simp
        obtain ⟨i, hi⟩ := List.mem_iff_getElem?.1 hmem
        rw [List.getElem?_drop] at hi
        have := hl.le i (n + 1) _ T' hy hi
        omega
      have e1 := lateI_append (a.take (n + 1)) (a.drop (n + 1)) T'
      rw [List.take_append_drop] at e1
      have e2 : a.take (n + 1) = (t :: l).take (n + 1) := by
        rw [← hm, List.append_assoc, List.take_append_of_le_length (by omega)]
      have e3 : lateI ((t :: l).take (n + 1)) (T + 1) = lateI (t :: l) (T + 1) := by
        have h1 := lateI_append ((t :: l).take (n + 1)) ((t :: l).drop (n + 1)) (T + 1)
        rw [List.take_append_drop] at h1
        have h2 : lateI ((t :: l).drop (n + 1)) (T + 1) = 0 := lateI_zero fun z hz => by
          obtain ⟨i, hi⟩ := List.mem_iff_getElem?.1 hz
          rw [List.getElem?_drop] at hi
          have := hl.le i (n + 1) _ z hy hi
          omega
        omega
      have e4 := lateI_mono ((t :: l).take (n + 1)) hT'
      rw [e2] at e1
      rw [lateI_append a, lateI_append (a.drop (n + 1))]
      omega

theorem ackRun_count {p : Int} (hp : 0 ≤ p) {l out : List Int} {s : Int} (h : AckRun p l out s) (hl : Rise l) : ∀ c, Part p l c → p * out.length ≤ c ∧ s ≤ 2 * (p * out.length) := by
  induction h with
  | nil => intro c hc; have := hc.nonneg hp; simp; exact this
  | step t l T n out s h1 h2 h3 h4 h5 h6 h7 ih =>
    intro c hc
    obtain ⟨c', k1, k2⟩ := part_first hp hl h3 h4 h6 hc rfl
    obtain ⟨k3, k4⟩ := ih (hl.drop _) c' k1
    have e : p * ((T :: out).length : Nat) = p * (out.length : Nat) + p := by
      rw [List.length_cons, Int.natCast_add, Int.mul_add]; simp
    have h8 := lateI_take_le (t :: l) (n + 1) T
    rw [e]
    exact ⟨by omega, by omega⟩
theorem ackRun_twice {p : Int} (hp : 0 ≤ p) {l out B : List Int} {s : Int} (h : AckRun p l out s) (hl : Rise l) (hB : IsBest p l B) (hBl : B.length = l.length + 1) :
    s ≤ 2 * B.getD l.length 0 ∧ B.getD l.length 0 ≤ s := by
  obtain ⟨c, hc, hle⟩ := ackRun_part h hl
  have h1 := best_least hB hBl hc
  obtain ⟨h2, h3⟩ := ackRun_count hp h hl _ (best_is hB hBl)
  exact ⟨by omega, by omega⟩
theorem ackRun_bound {p : Int} (hp : 0 ≤ p) {l out : List Int} {s : Int} (h : AckRun p l out s) : out.length ≤ l.length ∧ 0 ≤ s ∧ s ≤ 2 * (p * out.length) := by
  induction h with
  | nil => simp
  | step t l T n out s h1 h2 h3 h4 h5 h6 h7 ih =>
    obtain ⟨k1, k2, k3⟩ := ih
    simp at k1
    have e : p * ((T :: out).length : Nat) = p * (out.length : Nat) + p := by
      rw [List.length_cons, Int.natCast_add, Int.mul_add]; simp
    have h8 := lateI_take_le (t :: l) (n + 1) T
    have h9 := lateI_nonneg ((t :: l).take (n + 1)) T
    rw [e]
    exact ⟨by simp; omega, by omega, by omega⟩
end Go.Proofs.YtmeamgeojcbljaaDoor
