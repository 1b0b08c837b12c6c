/- Plain laws of phases; no program in sight. -/
import Derived.Test.YtgljpdfmejganaaFlushPlain
import Derived.Test.YtgljpdfmejganaaMask
namespace Go.Proofs.Ytgljpdfmejganaa

/-- The pages of the phase so far. -/
def phSet (s : Nat) (l : List Int) : List Int := l.foldl (flushG s) []
theorem phSet_snoc (s : Nat) (l : List Int) (y : Int) : phSet s (l ++ [y]) = flushG s (phSet s l) y := foldl_snoc _ _ _ _
theorem phSet_sub (s : Nat) (l : List Int) : ∀ x ∈ phSet s l, x ∈ l := by
  induction l using list_snoc_ind with
  | h0 => simp [phSet]
  | h1 l y ih =>
    intro x hx
    rw [phSet_snoc] at hx
    unfold flushG at hx
    rw [List.mem_append, List.mem_singleton]
    split at hx
    · exact .inl (ih x hx)
    · rw [List.mem_append, List.mem_singleton] at hx
      rcases hx with hx | hx
      · split at hx
        · cases hx
        · exact .inl (ih x hx)
      · exact .inr hx
theorem phSet_in (s : Nat) (l : List Int) (k : Nat) (h : AllIn l 0 15) : AllIn (phSet s (l.take k)) 0 15 := fun x hx => h x (List.mem_of_mem_take (phSet_sub s _ x hx))
theorem phSet_nodup (s : Nat) (l : List Int) : (phSet s l).Nodup := by
  induction l using list_snoc_ind with
  | h0 => simp [phSet]
  | h1 l y ih =>
    rw [phSet_snoc]
    unfold flushG
    split
    · exact ih
    · rename_i h
      split
      · simp
      · rw [List.nodup_append]
        exact ⟨ih, by simp, fun a ha b hb => by simp at hb; subst hb; rintro rfl; exact h ha⟩
theorem phSet_le (s : Nat) (hs : 1 ≤ s) (l : List Int) : (phSet s l).length ≤ s := by
  induction l using list_snoc_ind with
  | h0 => simp [phSet]
  | h1 l y ih =>
    rw [phSet_snoc]
    unfold flushG
    split
    · exact ih
    · split <;> simp <;> omega

/-- Does a phase begin at a request? -/
def isStart (s : Nat) (l : List Int) (i : Nat) : Bool := i == 0 || (!(hasB (phSet s (l.take i)) (l.getD i 0)) && (phSet s (l.take i)).length == s)
/-- Where phases begin, of the first k requests. -/
def startsL (s : Nat) (l : List Int) (k : Nat) : List Int := ((List.range k).filter (isStart s l)).map Int.ofNat
theorem startsL_succ (s : Nat) (l : List Int) (k : Nat) : startsL s l (k + 1) = startsL s l k ++ if isStart s l k then [(k : Int)] else [] := by
  unfold startsL
  rw [List.range_succ, List.filter_append, List.map_append]
  congr 1
  by_cases h : isStart s l k
  · simp [List.filter_cons, h]
  · simp [List.filter_cons, h]
theorem phSet_take_succ (s : Nat) (l : List Int) (k : Nat) (y : Int) (h : l[k]? = some y) : phSet s (l.take (k + 1)) = flushG s (phSet s (l.take k)) y := by
  rw [take_succ_of h, phSet_snoc]
theorem getD_of {l : List Int} {k : Nat} {y : Int} (h : l[k]? = some y) : l.getD k 0 = y := by rw [List.getD_eq_getElem?_getD, h]; rfl
/-- A request at which a phase begins. -/
theorem step_start (s : Nat) (l : List Int) (k : Nat) (y : Int) (hs : 1 ≤ s) (h : l[k]? = some y) (hk : k = 0 ∨ (y ∉ phSet s (l.take k) ∧ (phSet s (l.take k)).length = s)) :
    startsL s l (k + 1) = startsL s l k ++ [(k : Int)] ∧ phSet s (l.take (k + 1)) = [y] := by
  have h1 : isStart s l k = true := by
    unfold isStart
    rcases hk with rfl | ⟨h1, h2⟩
    · rfl
    · rw [getD_of h, (hasB_false _ _).2 h1, h2]; simp
  refine ⟨by rw [startsL_succ, h1]; rfl, ?_⟩
  rw [phSet_take_succ s l k y h]
  unfold flushG
  rcases hk with rfl | ⟨h1, h2⟩
  · show (if y ∈ ([] : List Int) then [] else (if ([] : List Int).length = s then [] else []) ++ [y]) = [y]
    simp
  · rw [if_neg h1, if_pos h2]; rfl
/-- A request within a phase. -/
theorem step_in (s : Nat) (l : List Int) (k : Nat) (y : Int) (h : l[k]? = some y) (hk : k ≠ 0) (hn : y ∈ phSet s (l.take k) ∨ (phSet s (l.take k)).length ≠ s) :
    startsL s l (k + 1) = startsL s l k ∧ phSet s (l.take (k + 1)) = if y ∈ phSet s (l.take k) then phSet s (l.take k) else phSet s (l.take k) ++ [y] := by
  have h1 : isStart s l k = false := by
    unfold isStart
    rw [getD_of h]
    rcases hn with hn | hn
    · rw [(hasB_iff _ _).2 hn]; simp [hk]
    · simp [hk, hn]
  refine ⟨by rw [startsL_succ, h1]; simp, ?_⟩
  rw [phSet_take_succ s l k y h]
  unfold flushG
  by_cases hm : y ∈ phSet s (l.take k)
  · rw [if_pos hm, if_pos hm]
  · rcases hn with hn | hn
    · exact absurd hn hm
    · rw [if_neg hm, if_neg hm, if_neg hn]
theorem starts_pos (s : Nat) (l : List Int) (k : Nat) (hk : 0 < k) : 0 < (startsL s l k).length := by
  obtain ⟨j, rfl⟩ : ∃ j, k = j + 1 := ⟨k - 1, by omega⟩
  induction j with
  | zero => simp [startsL, isStart]
  | succ j ih => rw [startsL_succ, List.length_append]; have := ih (by omega); omega
theorem starts_le (s : Nat) (l : List Int) (k : Nat) : (startsL s l k).length ≤ k := by
  induction k with
  | zero => simp [startsL]
  | succ k ih => rw [startsL_succ, List.length_append]; split <;> simp <;> omega
theorem mem_starts (s : Nat) (l : List Int) (n k : Nat) : (k : Int) ∈ startsL s l n ↔ k < n ∧ isStart s l k = true := by
  unfold startsL
  simp only [List.mem_map, List.mem_filter, List.mem_range]
  constructor
  · rintro ⟨a, ha, e⟩
    have : a = k := by have e' : (a : Int) = (k : Int) := e; omega
    subst this; exact ha
  · exact fun h => ⟨k, h, rfl⟩
theorem has_starts (s : Nat) (l : List Int) (n k : Nat) (h : k < n) : hasB (startsL s l n) (k : Int) = isStart s l k := by
  cases hs : isStart s l k
  · rw [hasB_false, mem_starts]; simp [hs]
  · rw [hasB_iff, mem_starts]; exact ⟨h, hs⟩
/-- From the last beginning on, the same pages were asked for as the phase has. -/
def FromInv (s : Nat) (l : List Int) (k f : Nat) : Prop := f ≤ k ∧ ∀ x, x ∈ (l.take k).drop f ↔ x ∈ phSet s (l.take k)
theorem from_zero (s : Nat) (l : List Int) : FromInv s l 0 0 := ⟨by omega, by simp [phSet]⟩
theorem isStart_cases (s : Nat) (l : List Int) (k : Nat) (y : Int) (h : l[k]? = some y) : isStart s l k = true ↔ (k = 0 ∨ (y ∉ phSet s (l.take k) ∧ (phSet s (l.take k)).length = s)) := by
  unfold isStart
  rw [getD_of h]
  cases hm : hasB (phSet s (l.take k)) y
  · have := (hasB_false _ _).1 hm; simp [this]
  · have := (hasB_iff _ _).1 hm; simp [this]
theorem from_start (s : Nat) (l : List Int) (k : Nat) (y : Int) (hs : 1 ≤ s) (h : l[k]? = some y) (hst : isStart s l k = true) : FromInv s l (k + 1) k := by
  refine ⟨by omega, fun x => ?_⟩
  rw [(step_start s l k y hs h ((isStart_cases s l k y h).1 hst)).2, take_succ_of h, List.drop_append_of_le_length (by simp; have := (List.getElem?_eq_some_iff.1 h).1; omega)]
  simp [List.drop_eq_nil_of_le]
theorem from_in (s : Nat) (l : List Int) (k f : Nat) (y : Int) (h : l[k]? = some y) (hst : isStart s l k = false) (hf : FromInv s l k f) : FromInv s l (k + 1) f := by
  have hn : ¬ (k = 0 ∨ (y ∉ phSet s (l.take k) ∧ (phSet s (l.take k)).length = s)) := fun hh => by
    rw [(isStart_cases s l k y h).2 hh] at hst; cases hst
  have hk : k ≠ 0 := fun hh => hn (.inl hh)
  have h2 : y ∈ phSet s (l.take k) ∨ (phSet s (l.take k)).length ≠ s := by
    by_cases hm : y ∈ phSet s (l.take k)
    · exact .inl hm
    · exact .inr fun hl => hn (.inr ⟨hm, hl⟩)
  refine ⟨by have := hf.1; omega, fun x => ?_⟩
  rw [(step_in s l k y h hk h2).2, take_succ_of h, List.drop_append_of_le_length (by simp; have := (List.getElem?_eq_some_iff.1 h).1; have := hf.1; omega), List.mem_append, hf.2, List.mem_singleton]
  split
  · rename_i hin
    constructor
    · rintro (h3 | rfl)
      · exact h3
      · exact hin
    · exact .inl
  · rw [List.mem_append, List.mem_singleton]
/-- What is there for who flushes is what was asked for since the phase began. -/
theorem flush_from (s : Nat) (l : List Int) (k f : Nat) (y : Int) (h : l[k]? = some y) (hst : isStart s l k = false) (hf : FromInv s l k f) :
    (flushRun s l).1[k]? = some (hasB ((l.take k).drop f) y) := by
  rw [flush_at s l k y h]
  congr 1
  rw [Bool.eq_iff_iff, hasB_iff, hasB_iff, hf.2]
  rfl
theorem flush_start (s : Nat) (l : List Int) (k : Nat) (y : Int) (h : l[k]? = some y) (hst : isStart s l k = true) : (flushRun s l).1[k]? = some false := by
  rw [flush_at s l k y h]
  congr 1
  rw [hasB_false]
  rcases (isStart_cases s l k y h).1 hst with rfl | ⟨h1, _⟩
  · simp
  · exact h1
end Go.Proofs.Ytgljpdfmejganaa
