/- Plain words on lists of integers and bools; no program in sight. -/
namespace Go.Proofs.YtmeamgeojcbljaaDoor
def hasB (l : List Int) (x : Int) : Bool := l.contains x
theorem hasB_iff (l : List Int) (x : Int) : hasB l x = true ↔ x ∈ l := by simp [hasB]
theorem hasB_false (l : List Int) (x : Int) : hasB l x = false ↔ x ∉ l := by simp [hasB]
theorem take_succ_of {l : List Int} {k : Nat} {y : Int} (h : l[k]? = some y) : l.take (k + 1) = l.take k ++ [y] := by
  obtain ⟨hk, rfl⟩ := List.getElem?_eq_some_iff.1 h
  exact List.take_succ_eq_append_getElem hk
theorem not_mem_take_succ {l : List Int} {x y : Int} {k : Nat} (h : x ∉ l.take k) (hy : l[k]? = some y) (hx : ¬ y = x) : x ∉ l.take (k + 1) := by
  rw [take_succ_of hy, List.mem_append, List.mem_singleton]
  rintro (h1 | h1)
  · exact h h1
  · exact hx h1.symm
theorem mem_of_at {l : List Int} {k : Nat} {y : Int} (h : l[k]? = some y) : y ∈ l := List.mem_of_getElem? h

def ixI (l : List Int) (x : Int) : Int := if x ∈ l then (l.idxOf x : Int) else -1
theorem ixI_mem {l : List Int} {x : Int} (h : x ∈ l) : ixI l x = (l.idxOf x : Int) := if_pos h
theorem ixI_not {l : List Int} {x : Int} (h : x ∉ l) : ixI l x = -1 := if_neg h
theorem idxOf_at {l : List Int} {x : Int} {k : Nat} (h : x ∉ l.take k) (hx : l[k]? = some x) : l.idxOf x = k := by
  obtain ⟨hk, rfl⟩ := List.getElem?_eq_some_iff.1 hx
  have e : l = l.take k ++ l.drop k := (List.take_append_drop k l).symm
  have hd : l.drop k = l[k] :: l.drop (k + 1) := List.drop_eq_getElem_cons hk
  have e2 : l = l.take k ++ l[k] :: l.drop (k + 1) := by rw [← hd]; exact e
  generalize hz : l[k] = z at *
  rw [e2, List.idxOf_append, if_neg h]
  simp [List.length_take]; omega

def AllIn (l : List Int) (lo hi : Int) : Prop := ∀ x ∈ l, lo ≤ x ∧ x ≤ hi
theorem AllIn.take_succ {l : List Int} {lo hi y : Int} {k : Nat} (h : AllIn (l.take k) lo hi) (hy : l[k]? = some y) (hx : lo ≤ y ∧ y ≤ hi) : AllIn (l.take (k + 1)) lo hi := by
  intro x hm
  rw [take_succ_of hy, List.mem_append, List.mem_singleton] at hm
  rcases hm with h1 | h1
  · exact h x h1
  · subst h1; exact hx

def GoodReqs (l : List Int) (slots : Int) : Prop := l.length ≤ 40 ∧ AllIn l 0 15 ∧ 1 ≤ slots ∧ slots ≤ 8

noncomputable def reqsE (l : List Int) (slots : Int) : Int := open Classical in if 40 < l.length then 4 else if AllIn l 0 15 ∧ 1 ≤ slots ∧ slots ≤ 8 then 0 else 1

def eqI (l l' : List Int) : Bool := decide (l = l')
def eqB (l l' : List Bool) : Bool := decide (l = l')
theorem take_eq_succ {α : Type} {l l' : List α} {k : Nat} {x : α} (h : l.take k = l'.take k) (hx : l[k]? = some x) (hy : l'[k]? = some x) : l.take (k + 1) = l'.take (k + 1) := by
  rw [List.take_add_one, List.take_add_one, h, hx, hy]

def missN (l : List Bool) : Nat := (l.filter fun b => !b).length
theorem missN_succ {l : List Bool} {k : Nat} {y : Bool} (h : l[k]? = some y) : missN (l.take (k + 1)) = missN (l.take k) + if y then 0 else 1 := by
  unfold missN
  rw [List.take_add_one, h, List.filter_append, List.length_append]
  cases y <;> simp
theorem missN_le (l : List Bool) : missN l ≤ l.length := List.length_filter_le _ _

def dd (l : List Int) : List Int := l.foldl (fun acc y => if y ∈ acc then acc else acc ++ [y]) []
theorem dd_snoc (l : List Int) (y : Int) : dd (l ++ [y]) = if y ∈ dd l then dd l else dd l ++ [y] := by unfold dd; rw [List.foldl_append]; rfl
theorem list_snoc_ind {α : Type} {P : List α → Prop} (h0 : P []) (h1 : ∀ l y, P l → P (l ++ [y])) (l : List α) : P l := by
  have : ∀ n (l : List α), l.length = n → P l := by
    intro n
    induction n with
    | zero => intro l hl; rw [List.eq_nil_of_length_eq_zero hl]; exact h0
    | succ n ih =>
      intro l hl
      have hne : l ≠ [] := by intro h; subst h; simp at hl
      rw [← List.dropLast_concat_getLast hne]
      exact h1 _ _ (ih _ (by simp; omega))
  exact this _ l rfl
theorem mem_dd' (l : List Int) : ∀ x : Int, x ∈ dd l ↔ x ∈ l := by
  induction l using list_snoc_ind with
  | h0 => simp [dd]
  | h1 l y ih =>
    intro x
    rw [dd_snoc]
    split
    · rename_i h
      rw [ih, List.mem_append, List.mem_singleton]
      exact ⟨.inl, fun hh => hh.elim id (fun e => by subst e; exact (ih x).1 h)⟩
    · simp [ih]
theorem mem_dd (l : List Int) (x : Int) : x ∈ dd l ↔ x ∈ l := mem_dd' l x
def someN (l : List Int) : Nat := (dd l).length
theorem someN_snoc (l : List Int) (y : Int) : someN (l ++ [y]) = someN l + if y ∈ l then 0 else 1 := by
  unfold someN
  rw [dd_snoc]
  by_cases h : y ∈ l
  · rw [if_pos ((mem_dd l y).2 h), if_pos h]; rfl
  · rw [if_neg (fun hh => h ((mem_dd l y).1 hh)), if_neg h]; simp
theorem someN_le (l : List Int) : someN l ≤ l.length := by
  induction l using list_snoc_ind with
  | h0 => simp [someN, dd]
  | h1 l y ih => rw [someN_snoc, List.length_append]; split <;> simp <;> omega
theorem someN_succ {l : List Int} {k : Nat} {y : Int} (h : l[k]? = some y) : someN (l.take (k + 1)) = someN (l.take k) + if y ∈ l.take k then 0 else 1 := by
  rw [take_succ_of h, someN_snoc]
theorem mem_take_succ {l : List Int} {j : Nat} {y z : Int} (h : l[j]? = some z) : y ∈ l.take (j + 1) ↔ y ∈ l.take j ∨ y = z := by
  rw [take_succ_of h, List.mem_append, List.mem_singleton]

theorem foldl_take_succ {α β : Type} (f : α → β → α) (a : α) (l : List β) (k : Nat) (y : β) (h : l[k]? = some y) : (l.take (k + 1)).foldl f a = f ((l.take k).foldl f a) y := by
  obtain ⟨hk, rfl⟩ := List.getElem?_eq_some_iff.1 h
  rw [List.take_succ_eq_append_getElem hk, List.foldl_append]; rfl


end Go.Proofs.YtmeamgeojcbljaaDoor
