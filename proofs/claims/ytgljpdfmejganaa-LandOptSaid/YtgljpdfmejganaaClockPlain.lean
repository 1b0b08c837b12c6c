/- Plain words on a clock: what it does, request by request; no program in sight. -/
import Derived.Test.YtgljpdfmejganaaLists
namespace Go.Proofs.Ytgljpdfmejganaa
def marks (h : List (Int × Bool)) : Nat := (h.filter fun s => s.2).length
/-- The hand goes on, and takes marks away, to the first slot without one. -/
def sweep (s : Nat) : Nat → List (Int × Bool) → Nat → List (Int × Bool) × Nat
  | 0, h, i => (h, i)
  | f + 1, h, i => if (h.getD i (0, false)).2 then sweep s f (h.set i ((h.getD i (0, false)).1, false)) ((i + 1) % s) else (h, i)
def sweepM (s : Nat) (h : List (Int × Bool)) (i : Nat) : List (Int × Bool) × Nat := sweep s (marks h + 1) h i
theorem marks_set : ∀ (h : List (Int × Bool)) (i : Nat) (q : Int), h[i]? = some (q, true) → marks h = marks (h.set i (q, false)) + 1 := by
  intro h
  induction h with
  | nil => intro i q hi; simp at hi
  | cons t h ih =>
    intro i q hi
    rcases i with _ | i
    · simp at hi; subst hi; simp [marks, List.filter_cons]
    · have := ih i q (by simpa using hi)
      unfold marks at *
      rw [List.set_cons_succ, List.filter_cons, List.filter_cons]
      by_cases ht : t.2 = true
      · simp only [ht, if_true, List.length_cons]; omega
      · simp only [Bool.not_eq_true] at ht; simp only [ht, Bool.false_eq_true, if_false]; exact this
theorem sweepM_on {s : Nat} {h : List (Int × Bool)} {i : Nat} {q : Int} (hi : h[i]? = some (q, true)) : sweepM s h i = sweepM s (h.set i (q, false)) ((i + 1) % s) := by
  have hg : h.getD i (0, false) = (q, true) := by rw [List.getD_eq_getElem?_getD, hi]; rfl
  unfold sweepM
  rw [sweep, hg, if_pos rfl, marks_set h i q hi]
theorem sweepM_stop {s : Nat} {h : List (Int × Bool)} {i : Nat} {q : Int} (hi : h[i]? = some (q, false)) : sweepM s h i = (h, i) := by
  have hg : h.getD i (0, false) = (q, false) := by rw [List.getD_eq_getElem?_getD, hi]; rfl
  unfold sweepM
  rw [sweep, hg]; rfl
structure CSt where
  hits : List Bool
  held : List (Int × Bool)
  hand : Nat
def clockStep (s : Nat) (c : CSt) (p : Int) : CSt :=
  if p ∈ c.held.map Prod.fst then ⟨c.hits ++ [true], c.held.set ((c.held.map Prod.fst).idxOf p) (p, true), c.hand⟩
  else if c.held.length < s then ⟨c.hits ++ [false], c.held ++ [(p, true)], c.hand⟩
  else ⟨c.hits ++ [false], (sweepM s c.held c.hand).1.set (sweepM s c.held c.hand).2 (p, true), ((sweepM s c.held c.hand).2 + 1) % s⟩
def clockRun (s : Nat) (l : List Int) : CSt := l.foldl (clockStep s) ⟨[], [], 0⟩
theorem clock_succ {s : Nat} {l : List Int} {k : Nat} {y : Int} (h : l[k]? = some y) : clockRun s (l.take (k + 1)) = clockStep s (clockRun s (l.take k)) y := foldl_take_succ _ _ _ _ _ h
theorem held_at {h : List (Int × Bool)} {y : Int} (hm : y ∈ h.map Prod.fst) : ∃ b, h[(h.map Prod.fst).idxOf y]? = some (y, b) := by
  have hlt := List.idxOf_lt_length_iff.2 hm
  have h1 : (h.map Prod.fst)[(h.map Prod.fst).idxOf y]? = some y := by
    rw [List.getElem?_eq_getElem hlt, List.getElem_idxOf hlt]
  rw [List.getElem?_map] at h1
  cases hs : h[(h.map Prod.fst).idxOf y]? with
  | none => rw [hs] at h1; cases h1
  | some s =>
    rw [hs] at h1
    obtain ⟨q, b⟩ := s
    have : q = y := by simpa using h1
    subst this
    exact ⟨b, rfl⟩
end Go.Proofs.Ytgljpdfmejganaa
