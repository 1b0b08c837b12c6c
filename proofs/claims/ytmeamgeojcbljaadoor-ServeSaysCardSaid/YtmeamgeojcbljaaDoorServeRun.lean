/- Plain words on the two ways servers go: from both sides, and the nearest one; no program in sight. -/
import Derived.Test.YtmeamgeojcbljaaDoorServePlain
import Derived.Test.YtmeamgeojcbljaaDoorOptRun
namespace Go.Proofs.YtmeamgeojcbljaaDoor

/-- The first server that stands at x or beyond it; as many as there are if there is none. -/
def rightI (s : List Int) (x : Int) : Nat := s.findIdx fun p => decide (x ≤ p)
def midD (s : List Int) (x : Int) : Int := min (x - s.getD (rightI s x - 1) 0) (s.getD (rightI s x) 0 - x)
def dstep (s : List Int) (x : Int) : Int × List Int :=
  if rightI s x = s.length then (absI (s.getD (s.length - 1) 0) x, s.set (s.length - 1) x)
  else if rightI s x = 0 ∨ s.getD (rightI s x) 0 = x then (absI (s.getD (rightI s x) 0) x, s.set (rightI s x) x)
  else (2 * midD s x, (s.set (rightI s x - 1) (s.getD (rightI s x - 1) 0 + midD s x)).set (rightI s x) (s.getD (rightI s x) 0 - midD s x))
def bestI (s : List Int) (x : Int) : Nat → Nat
  | 0 => 0
  | j + 1 => if absI (s.getD j 0) x < absI (s.getD (bestI s x j) 0) x then j else bestI s x j
def nstep (s : List Int) (x : Int) : Int × List Int := (absI (s.getD (bestI s x s.length) 0) x, s.set (bestI s x s.length) x)
def runS (f : List Int → Int → Int × List Int) (s a : List Int) : Int × List Int := a.foldl (fun st x => (st.1 + (f st.2 x).1, sortI (f st.2 x).2)) (0, sortI s)
theorem runS_snoc (f : List Int → Int → Int × List Int) (s a : List Int) (x : Int) : runS f s (a ++ [x]) = ((runS f s a).1 + (f (runS f s a).2 x).1, sortI (f (runS f s a).2 x).2) := by
  unfold runS; rw [List.foldl_append]; rfl
theorem runS_nil (f : List Int → Int → Int × List Int) (s : List Int) : runS f s [] = (0, sortI s) := rfl

/-- So many servers, all on the line. -/
def onL (n : Nat) (s : List Int) : Prop := s.length = n ∧ ∀ y ∈ s, 0 ≤ y ∧ y ≤ 12
theorem onL_sort {n : Nat} {s : List Int} (h : onL n s) : onL n (sortI s) := ⟨by rw [sortI_len]; exact h.1, fun y hy => h.2 y ((sortI_perm s).mem_iff.1 hy)⟩
theorem onL_set {n : Nat} {s : List Int} (h : onL n s) (i : Nat) {x : Int} (hx : 0 ≤ x ∧ x ≤ 12) : onL n (s.set i x) := ⟨by simpa using h.1, fun y hy => by
  rcases List.mem_or_eq_of_mem_set hy with hy | rfl
  · exact h.2 y hy
  · exact hx⟩
theorem onL_getD {n : Nat} {s : List Int} (h : onL n s) (i : Nat) : 0 ≤ s.getD i 0 ∧ s.getD i 0 ≤ 12 := by
  rw [List.getD_eq_getElem?_getD]
  cases e : s[i]? with
  | none => simp
  | some y => exact h.2 y (List.mem_of_getElem? e)
theorem rightI_le (s : List Int) (x : Int) : rightI s x ≤ s.length := List.findIdx_le_length
theorem rightI_ge {s : List Int} {x : Int} (h : rightI s x < s.length) : x ≤ s.getD (rightI s x) 0 := by
  have := List.findIdx_getElem (xs := s) (p := fun p => decide (x ≤ p)) (w := h)
  rw [List.getD_eq_getElem?_getD, List.getElem?_eq_getElem h]
  exact of_decide_eq_true this
theorem rightI_lt {s : List Int} {x : Int} {i : Nat} (h : i < rightI s x) : s.getD i 0 < x := by
  have hi : i < s.length := Nat.lt_of_lt_of_le h (rightI_le s x)
  have := List.not_of_lt_findIdx (xs := s) (p := fun p => decide (x ≤ p)) h
  rw [List.getD_eq_getElem?_getD, List.getElem?_eq_getElem hi]
  have h2 := of_decide_eq_false (by simpa using this : decide (x ≤ s[i]) = false)
  show s[i] < x
  omega
theorem midD_in {s : List Int} {x : Int} (h0 : ¬ rightI s x = 0) (h : rightI s x < s.length) (hne : ¬ s.getD (rightI s x) 0 = x) :
    0 < midD s x ∧ s.getD (rightI s x - 1) 0 + midD s x ≤ x ∧ x ≤ s.getD (rightI s x) 0 - midD s x ∧ s.getD (rightI s x - 1) 0 < x ∧ x < s.getD (rightI s x) 0 := by
  have h1 := rightI_ge h
  have h2 := rightI_lt (s := s) (x := x) (i := rightI s x - 1) (by omega)
  unfold midD; omega
theorem dstep_in {n : Nat} {s : List Int} {x : Int} (h : onL n s) (hx : 0 ≤ x ∧ x ≤ 12) : 0 ≤ (dstep s x).1 ∧ (dstep s x).1 ≤ 12 ∧ onL n (dstep s x).2 := by
  unfold dstep
  by_cases e1 : rightI s x = s.length
  · rw [if_pos e1]
    have := absI_in (onL_getD h (s.length - 1)) hx
    exact ⟨this.1, this.2, onL_set h _ hx⟩
  · rw [if_neg e1]
    by_cases e2 : rightI s x = 0 ∨ s.getD (rightI s x) 0 = x
    · rw [if_pos e2]
      have := absI_in (onL_getD h (rightI s x)) hx
      exact ⟨this.1, this.2, onL_set h _ hx⟩
    · rw [if_neg e2]
      obtain ⟨m1, m2, m3, m4, m5⟩ := midD_in (s := s) (x := x) (fun e => e2 (.inl e)) (by have := rightI_le s x; omega) (fun e => e2 (.inr e))
      have a1 := onL_getD h (rightI s x - 1)
      have a2 := onL_getD h (rightI s x)
      exact ⟨by dsimp only; omega, by dsimp only; omega, onL_set (onL_set h _ (by omega)) _ (by omega)⟩
theorem nstep_in {n : Nat} {s : List Int} {x : Int} (h : onL n s) (hx : 0 ≤ x ∧ x ≤ 12) : 0 ≤ (nstep s x).1 ∧ (nstep s x).1 ≤ 12 ∧ onL n (nstep s x).2 := by
  have := absI_in (onL_getD h (bestI s x s.length)) hx
  exact ⟨this.1, this.2, onL_set h _ hx⟩
theorem runS_in' {f : List Int → Int → Int × List Int} {n : Nat} (hf : ∀ s x, onL n s → 0 ≤ x ∧ x ≤ 12 → 0 ≤ (f s x).1 ∧ (f s x).1 ≤ 12 ∧ onL n (f s x).2) {s : List Int} (hs : onL n s) : ∀ a : List Int, AllIn a 0 12 →
    0 ≤ (runS f s a).1 ∧ (runS f s a).1 ≤ 12 * a.length ∧ onL n (runS f s a).2 := by
  suffices ∀ (a : List Int), AllIn a 0 12 → ∀ st : Int × List Int, 0 ≤ st.1 → onL n st.2 → 0 ≤ (a.foldl (fun st x => (st.1 + (f st.2 x).1, sortI (f st.2 x).2)) st).1 ∧
      (a.foldl (fun st x => (st.1 + (f st.2 x).1, sortI (f st.2 x).2)) st).1 ≤ st.1 + 12 * a.length ∧ onL n (a.foldl (fun st x => (st.1 + (f st.2 x).1, sortI (f st.2 x).2)) st).2 by
    intro a ha
    have := this a ha (0, sortI s) (by simp) (onL_sort hs)
    unfold runS
    refine ⟨this.1, by have := this.2.1; dsimp only at this; omega, this.2.2⟩
  intro a
  induction a with
  | nil => intro _ st h0 h1; exact ⟨h0, by simp, h1⟩
  | cons x a ih =>
    intro ha st h0 h1
    obtain ⟨f1, f2, f3⟩ := hf st.2 x h1 (ha x (by simp))
    obtain ⟨i1, i2, i3⟩ := ih (fun y hy => ha y (by simp [hy])) (st.1 + (f st.2 x).1, sortI (f st.2 x).2) (by dsimp only; omega) (onL_sort f3)
    rw [List.foldl_cons]
    refine ⟨i1, ?_, i3⟩
    rw [List.length_cons, Int.natCast_add, Int.mul_add]
    dsimp only at i2; omega
theorem bestI_lt (s : List Int) (x : Int) (hs : s ≠ []) : ∀ j, j ≤ s.length → bestI s x j < s.length
  | 0, _ => List.length_pos_iff.2 hs
  | j + 1, h => by
    unfold bestI
    split
    · omega
    · exact bestI_lt s x hs j (by omega)
end Go.Proofs.YtmeamgeojcbljaaDoor
