/- Plain laws on servers on a line: nobody goes less far than the least; to go from both sides is no more than so many times the least; no program in sight. -/
import Derived.Test.YtmeamgeojcbljaaDoorServeRun
namespace Go.Proofs.YtmeamgeojcbljaaDoor

theorem permStep {x : Int} {p q : List Int} (h : p.Perm q) : ∀ i, i < p.length → ∃ j, j < q.length ∧ q.getD j 0 = p.getD i 0 ∧ (p.set i x).Perm (q.set j x) := by
  induction h with
  | nil => intro i hi; simp at hi
  | cons a h ih =>
    intro i hi
    match i with
    | 0 => exact ⟨0, by simp, by simp, by simpa using h⟩
    | i + 1 =>
      obtain ⟨j, h1, h2, h3⟩ := ih i (by simpa using hi)
      exact ⟨j + 1, by simpa using h1, by simpa using h2, by simpa using h3⟩
  | swap a b l =>
    intro i hi
    match i with
    | 0 => exact ⟨1, by simp, by simp, by simpa using List.Perm.swap a x l⟩
    | 1 => exact ⟨0, by simp, by simp, by simpa using List.Perm.swap x b l⟩
    | i + 2 => exact ⟨i + 2, by simpa using hi, by simp, by simpa using List.Perm.swap a b (l.set i x)⟩
  | trans h1 h2 ih1 ih2 =>
    intro i hi
    obtain ⟨j, a1, a2, a3⟩ := ih1 i hi
    obtain ⟨k, b1, b2, b3⟩ := ih2 j a1
    exact ⟨k, b1, b2.trans a2, a3.trans b3⟩
theorem run_perm {n : Nat} : ∀ {a p q p' : List Int} {d : Int}, p.Perm q → p.length = n → RunTo (NxS n) p a p' d → ∃ q', RunTo (NxS n) q a q' d ∧ p'.Perm q' := by
  intro a
  induction a with
  | nil => rintro p q p' d h _ ⟨rfl, rfl⟩; exact ⟨q, ⟨rfl, rfl⟩, h⟩
  | cons x a ih =>
    rintro p q p' d h hl ⟨p1, d1, d2, ⟨i, hi, rfl, rfl⟩, h2, rfl⟩
    obtain ⟨j, h3, h4, h5⟩ := permStep (x := x) h i (by omega)
    obtain ⟨q', h6, h7⟩ := ih h5 (by simpa using hl) h2
    exact ⟨q', ⟨_, _, _, ⟨j, by rw [← hl, h.length_eq]; exact h3, rfl, rfl⟩, h6, by rw [h4]⟩, h7⟩
/-- How far two rows are apart, place by place. -/
def distL : List Int → List Int → Int
  | a :: p, b :: q => absI a b + distL p q
  | _, _ => 0
theorem absI_nonneg (a b : Int) : 0 ≤ absI a b := by unfold absI; omega
theorem absI_self (a : Int) : absI a a = 0 := by unfold absI; omega
theorem absI_tri (a b c : Int) : absI a c ≤ absI a b + absI b c := by unfold absI; omega
theorem absI_comm (a b : Int) : absI a b = absI b a := by unfold absI; omega
theorem distL_nonneg : ∀ p q : List Int, 0 ≤ distL p q
  | [], _ => by simp [distL]
  | _ :: _, [] => by simp [distL]
  | a :: p, b :: q => by have := distL_nonneg p q; have := absI_nonneg a b; unfold distL; omega
theorem distL_self : ∀ p : List Int, distL p p = 0
  | [] => rfl
  | a :: p => by unfold distL; rw [distL_self p, absI_self]; rfl
theorem distL_set {x : Int} : ∀ {p q : List Int} {i : Nat}, i < p.length → p.length = q.length → distL p q = distL (p.set i x) (q.set i x) + absI (p.getD i 0) (q.getD i 0)
  | [], _, i, h, _ => by simp at h
  | _ :: _, [], _, _, h => by simp at h
  | a :: p, b :: q, 0, _, _ => by simp [distL, absI_self]; omega
  | a :: p, b :: q, i + 1, h, hl => by
    have := distL_set (x := x) (p := p) (q := q) (i := i) (by simpa using h) (by simpa using hl)
    simp only [List.set_cons_succ, distL, List.getD_cons_succ]; omega
theorem distL_set1 {x : Int} : ∀ {p : List Int} {i : Nat}, i < p.length → distL p (p.set i x) = absI (p.getD i 0) x
  | [], i, h => by simp at h
  | a :: p, 0, _ => by simp [distL, distL_self]
  | a :: p, i + 1, h => by
    have := distL_set1 (x := x) (p := p) (i := i) (by simpa using h)
    simp only [List.set_cons_succ, distL, List.getD_cons_succ, absI_self]; omega
theorem distL_tri1 {x : Int} : ∀ {q t : List Int} {i : Nat}, i < t.length → q.length = t.length → distL q (t.set i x) ≤ distL q t + absI (t.getD i 0) x
  | _, [], i, h, _ => by simp at h
  | [], _ :: _, _, _, h => by simp at h
  | a :: q, b :: t, 0, _, _ => by have := absI_tri a b x; simp [distL]; omega
  | a :: q, b :: t, i + 1, h, hl => by
    have := distL_tri1 (x := x) (q := q) (t := t) (i := i) (by simpa using h) (by simpa using hl)
    simp only [List.set_cons_succ, distL, List.getD_cons_succ]; omega
theorem run_near {n : Nat} : ∀ {a p q q' : List Int} {d : Int}, p.length = n → q.length = n → RunTo (NxS n) q a q' d → ∃ p' d', RunTo (NxS n) p a p' d' ∧ d' ≤ d + distL p q := by
  intro a
  induction a with
  | nil => rintro p q q' d _ _ ⟨rfl, rfl⟩; exact ⟨p, 0, ⟨rfl, rfl⟩, by have := distL_nonneg p q'; omega⟩
  | cons x a ih =>
    rintro p q q' d hp hq ⟨q1, d1, d2, ⟨i, hi, rfl, rfl⟩, h2, rfl⟩
    obtain ⟨p', d', h3, h4⟩ := ih (p := p.set i x) (by simpa using hp) (by simpa using hq) h2
    refine ⟨p', absI (p.getD i 0) x + d', ⟨_, _, _, ⟨i, hi, rfl, rfl⟩, h3, rfl⟩, ?_⟩
    have h5 := distL_set (x := x) (p := p) (q := q) (i := i) (by omega) (by omega)
    have h6 := absI_tri (p.getD i 0) (q.getD i 0) x
    omega

/-- What a way costs from q on. -/
def costS (f : List Int → Int → Int × List Int) : List Int → List Int → Int
  | _, [] => 0
  | q, x :: a => (f q x).1 + costS f (sortI (f q x).2) a
theorem runS_cost (f : List Int → Int → Int × List Int) : ∀ (a : List Int) (st : Int × List Int), (a.foldl (fun st x => (st.1 + (f st.2 x).1, sortI (f st.2 x).2)) st).1 = st.1 + costS f st.2 a
  | [], st => by simp [costS]
  | x :: a, st => by rw [List.foldl_cons, runS_cost f a]; simp only [costS]; omega
theorem runS_fst (f : List Int → Int → Int × List Int) (s a : List Int) : (runS f s a).1 = costS f (sortI s) a := by unfold runS; rw [runS_cost]; simp
/-- A way that pays for all moves, and of whose servers one goes where it was asked for. -/
def Fair (n : Nat) (f : List Int → Int → Int × List Int) : Prop := ∀ q x, onL n q → 0 ≤ x ∧ x ≤ 12 → onL n (f q x).2 ∧ ∃ i, i < n ∧ absI (q.getD i 0) x + distL (q.set i x) (f q x).2 ≤ (f q x).1
theorem fair_run {n : Nat} {f : List Int → Int → Int × List Int} (hf : Fair n f) : ∀ {a q : List Int}, AllIn a 0 12 → onL n q → ∃ q' d, RunTo (NxS n) q a q' d ∧ d ≤ costS f q a := by
  intro a
  induction a with
  | nil => intro q _ _; exact ⟨q, 0, ⟨rfl, rfl⟩, by simp [costS]⟩
  | cons x a ih =>
    intro q ha hq
    obtain ⟨h1, i, hi, h2⟩ := hf q x hq (ha x (by simp))
    obtain ⟨q', d, h3, h4⟩ := ih (fun y hy => ha y (by simp [hy])) (onL_sort h1)
    obtain ⟨q2, h5, _⟩ := run_perm (sortI_perm (f q x).2) (onL_sort h1).1 h3
    obtain ⟨q3, d3, h6, h7⟩ := run_near (p := q.set i x) (by simpa using hq.1) h1.1 h5
    exact ⟨q3, absI (q.getD i 0) x + d3, ⟨_, _, _, ⟨i, hi, rfl, rfl⟩, h6, rfl⟩, by simp only [costS]; omega⟩
theorem getD_set_ne {q : List Int} {i j : Nat} {x : Int} (h : i ≠ j) : (q.set i x).getD j 0 = q.getD j 0 := by
  rw [List.getD_eq_getElem?_getD, List.getElem?_set, if_neg h, List.getD_eq_getElem?_getD]
theorem fair_d {n : Nat} (hn : 0 < n) : Fair n dstep := by
  intro q x hq hx
  refine ⟨(dstep_in hq hx).2.2, ?_⟩
  have hl := hq.1
  unfold dstep
  by_cases e1 : rightI q x = q.length
  · rw [if_pos e1]
    exact ⟨q.length - 1, by omega, by rw [distL_self]; simp⟩
  · rw [if_neg e1]
    have hr := rightI_le q x
    by_cases e2 : rightI q x = 0 ∨ q.getD (rightI q x) 0 = x
    · rw [if_pos e2]
      exact ⟨rightI q x, by omega, by rw [distL_self]; simp⟩
    · rw [if_neg e2]
      obtain ⟨m1, m2, m3, m4, m5⟩ := midD_in (s := q) (x := x) (fun e => e2 (.inl e)) (by omega) (fun e => e2 (.inr e))
      have h0 : ¬ rightI q x = 0 := fun e => e2 (.inl e)
      have hne : rightI q x - 1 ≠ rightI q x := by omega
      have hmid : midD q x = x - q.getD (rightI q x - 1) 0 ∨ midD q x = q.getD (rightI q x) 0 - x := by unfold midD; omega
      generalize midD q x = m at *
      generalize rightI q x = r at *
      dsimp only
      rcases hmid with e | e
      · refine ⟨r - 1, by omega, ?_⟩
        rw [show q.getD (r - 1) 0 + m = x by omega, distL_set1 (by simp; omega), getD_set_ne hne]
        unfold absI; omega
      · refine ⟨r, by omega, ?_⟩
        rw [show q.getD r 0 - m = x by omega, List.set_comm _ _ hne, distL_set1 (by simp; omega), getD_set_ne hne.symm]
        unfold absI; omega
theorem fair_n {n : Nat} (hn : 0 < n) : Fair n nstep := by
  intro q x hq hx
  refine ⟨(nstep_in hq hx).2.2, bestI q x q.length, ?_, by unfold nstep; rw [distL_self]; simp⟩
  have := bestI_lt q x (fun e => by have := hq.1; rw [e] at this; simp at this; omega) q.length (Nat.le_refl _)
  have := hq.1; omega

theorem getD_app {s t : List Int} {i : Nat} (h : i < s.length) : (s ++ t).getD i 0 = s.getD i 0 := by
  rw [List.getD_eq_getElem?_getD, List.getElem?_append_left h, List.getD_eq_getElem?_getD]
theorem nxS_pad {n : Nat} {s t p' : List Int} {x d : Int} (hs : s.length = n) : NxS n x (s ++ t) p' d ↔ ∃ s', s'.length = n ∧ NxS n x s s' d ∧ p' = s' ++ t := by
  constructor
  · rintro ⟨i, hi, rfl, rfl⟩
    exact ⟨s.set i x, by simpa using hs, ⟨i, hi, rfl, by rw [getD_app (by omega)]⟩, by rw [List.set_append_left _ _ (by omega)]⟩
  · rintro ⟨s', _, ⟨i, hi, rfl, rfl⟩, rfl⟩
    exact ⟨i, hi, by rw [List.set_append_left _ _ (by omega)], by rw [getD_app (by omega)]⟩
theorem run_pad {n : Nat} {t : List Int} : ∀ {a s p' : List Int} {d : Int}, s.length = n → (RunTo (NxS n) (s ++ t) a p' d ↔ ∃ s', RunTo (NxS n) s a s' d ∧ p' = s' ++ t) := by
  intro a
  induction a with
  | nil =>
    intro s p' d hs
    constructor
    · rintro ⟨rfl, rfl⟩; exact ⟨s, ⟨rfl, rfl⟩, rfl⟩
    · rintro ⟨s', ⟨rfl, rfl⟩, rfl⟩; exact ⟨rfl, rfl⟩
  | cons x a ih =>
    intro s p' d hs
    constructor
    · rintro ⟨p1, d1, d2, h1, h2, rfl⟩
      obtain ⟨s1, hl, h3, rfl⟩ := (nxS_pad hs).1 h1
      obtain ⟨s', h4, rfl⟩ := (ih hl).1 h2
      exact ⟨s', ⟨_, _, _, h3, h4, rfl⟩, rfl⟩
    · rintro ⟨s', ⟨s1, d1, d2, h1, h2, rfl⟩, rfl⟩
      obtain ⟨i, hi, e1, e2⟩ := h1
      have hl : s1.length = n := by rw [e1]; simpa using hs
      exact ⟨_, _, _, (nxS_pad hs).2 ⟨s1, hl, ⟨i, hi, e1, e2⟩, rfl⟩, (ih hl).2 ⟨s', h2, rfl⟩, rfl⟩
theorem best_pad {n : Nat} {s a : List Int} {v : Int} (hs : s.length = n) (h : Best (NxS n) (pad3 s) a v) : Best (NxS n) s a v := by
  obtain ⟨⟨k', h1⟩, h2⟩ := h
  obtain ⟨s', h3, _⟩ := (run_pad hs).1 h1
  exact ⟨⟨s', h3⟩, fun k d hk => h2 _ d ((run_pad hs).2 ⟨k, hk, rfl⟩)⟩
theorem sbest_le {n : Nat} (hn : 0 < n) {f : List Int → Int → Int × List Int} (hf : Fair n f) {s a : List Int} (hs : onL n s) (ha : AllIn a 0 12) {v : Int} (h : Best (NxS n) s a v) : v ≤ (runS f s a).1 := by
  obtain ⟨q', d, h1, h2⟩ := fair_run hf ha (onL_sort hs)
  obtain ⟨q2, h3, _⟩ := run_perm (sortI_perm s) (onL_sort hs).1 h1
  have := h.2 _ _ h3
  rw [runS_fst]; omega

/-- At the end somebody is there. -/
theorem dstep_there {q : List Int} (hq : q ≠ []) (x : Int) : x ∈ (dstep q x).2 := by
  have hl := List.length_pos_iff.2 hq
  have hr := rightI_le q x
  have hm : ∀ (l : List Int) (i : Nat), i < l.length → x ∈ l.set i x := fun l i hi => List.mem_iff_getElem?.2 ⟨i, by rw [List.getElem?_set, if_pos rfl, if_pos hi]⟩
  unfold dstep
  by_cases e1 : rightI q x = q.length
  · rw [if_pos e1]; exact hm _ _ (by omega)
  · rw [if_neg e1]
    by_cases e2 : rightI q x = 0 ∨ q.getD (rightI q x) 0 = x
    · rw [if_pos e2]; exact hm _ _ (by omega)
    · rw [if_neg e2]
      have h0 : ¬ rightI q x = 0 := fun e => e2 (.inl e)
      have hne : rightI q x - 1 ≠ rightI q x := by omega
      have hmid : midD q x = x - q.getD (rightI q x - 1) 0 ∨ midD q x = q.getD (rightI q x) 0 - x := by unfold midD; omega
      generalize midD q x = m at *
      generalize rightI q x = r at *
      dsimp only
      rcases hmid with e | e
      · rw [show q.getD (r - 1) 0 + m = x by omega, List.set_comm _ _ hne]
        exact hm _ _ (by simp; omega)
      · rw [show q.getD r 0 - m = x by omega]
        exact hm _ _ (by simp; omega)
theorem nstep_there {q : List Int} (hq : q ≠ []) (x : Int) : x ∈ (nstep q x).2 := by
  unfold nstep
  exact List.mem_iff_getElem?.2 ⟨_, by rw [List.getElem?_set, if_pos rfl, if_pos (bestI_lt q x hq _ (Nat.le_refl _))]⟩
theorem there_end {f : List Int → Int → Int × List Int} (hf : ∀ q x, q ≠ [] → x ∈ (f q x).2) {n : Nat} (hn : 0 < n) (hg : ∀ s x, onL n s → 0 ≤ x ∧ x ≤ 12 → 0 ≤ (f s x).1 ∧ (f s x).1 ≤ 12 ∧ onL n (f s x).2) {s a : List Int} (hs : onL n s) (ha : AllIn a 0 12) {x : Int} (hx : a[a.length - 1]? = some x) : x ∈ (runS f s a).2 := by
  have hp : 0 < a.length := by
    rcases Nat.eq_zero_or_pos a.length with e | e
    · rw [List.eq_nil_of_length_eq_zero e] at hx; simp at hx
    · exact e
  have hl : a = a.take (a.length - 1) ++ [x] := by
    have := take_succ_of hx
    rw [show a.length - 1 + 1 = a.length by omega, List.take_length] at this
    exact this
  rw [hl, runS_snoc]
  refine (sortI_perm _).mem_iff.2 (hf _ x ?_)
  have := (runS_in' hg hs (a.take (a.length - 1)) (fun y hy => ha y (List.mem_of_mem_take hy))).2.2.1
  intro e; rw [e] at this; simp at this; omega

/-- Whoever is sent. -/
theorem who_le {n : Nat} {s a : List Int} {v : Int} (h : Best (NxS n) s a v) {p : List Int} {d : Int} (hr : RunTo (NxS n) s a p d) : v ≤ d := h.2 _ _ hr
end Go.Proofs.YtmeamgeojcbljaaDoor
