/- Plain words: a table that has, by number of a state, the least cost of it (below 0: none), filled step by step; no program in sight. -/
import Derived.Test.YtmeamgeojcbljaaDoorLists
namespace Go.Proofs.YtmeamgeojcbljaaDoor

def lessI (a b : Int) : Int := if a < 0 ∨ b < a then b else a
/-- A table of the least costs that R lets. -/
def Tab (R : Nat → Int → Prop) (T : List Int) : Prop := (∀ s v, T[s]? = some v → 0 ≤ v → R s v) ∧ ∀ s c, R s c → ∃ v, T[s]? = some v ∧ 0 ≤ v ∧ v ≤ c
theorem Tab.congr {R R' : Nat → Int → Prop} {T : List Int} (h : Tab R T) (hr : ∀ s c, R s c ↔ R' s c) : Tab R' T := ⟨fun s v h1 h2 => (hr _ _).1 (h.1 s v h1 h2), fun s c h1 => h.2 s c ((hr _ _).2 h1)⟩
theorem tab_none (n : Nat) : Tab (fun _ _ => False) (List.replicate n (-1)) := by
  refine ⟨fun s v h1 h2 => ?_, fun s c h => h.elim⟩
  have := List.eq_of_mem_replicate (List.mem_of_getElem? h1)
  omega
theorem Tab.upd {R : Nat → Int → Prop} {T : List Int} (h : Tab R T) {t : Nat} {u x : Int} (ht : T[t]? = some u) (hx : 0 ≤ x) : Tab (fun s c => R s c ∨ (s = t ∧ c = x)) (T.set t (lessI u x)) := by
  have hl := (List.getElem?_eq_some_iff.1 ht).1
  refine ⟨fun s v h1 h2 => ?_, fun s c hr => ?_⟩
  · by_cases e : s = t
    · subst e
      rw [List.getElem?_set_self hl] at h1
      injection h1 with h1
      subst h1
      unfold lessI at h2 ⊢
      by_cases hc : u < 0 ∨ x < u
      · rw [if_pos hc]; exact .inr ⟨rfl, rfl⟩
      · rw [if_neg hc] at h2 ⊢
        exact .inl (h.1 s u ht h2)
    · rw [List.getElem?_set_ne (fun e' => e e'.symm)] at h1
      exact .inl (h.1 s v h1 h2)
  · by_cases e : s = t
    · subst e
      refine ⟨lessI u x, List.getElem?_set_self hl, ?_⟩
      unfold lessI
      rcases hr with hr | ⟨_, rfl⟩
      · obtain ⟨v, h1, h2, h3⟩ := h.2 s c hr
        rw [ht] at h1
        injection h1 with h1
        subst h1
        by_cases hc : u < 0 ∨ x < u
        · rw [if_pos hc]; omega
        · rw [if_neg hc]; omega
      · by_cases hc : u < 0 ∨ c < u
        · rw [if_pos hc]; omega
        · rw [if_neg hc]; omega
    · rcases hr with hr | ⟨e2, _⟩
      · obtain ⟨v, h1, h2, h3⟩ := h.2 s c hr
        exact ⟨v, by rw [List.getElem?_set_ne (fun e' => e e'.symm)]; exact h1, h2, h3⟩
      · exact (e e2).elim
/-- A table of what comes of a table by one step. -/
theorem Tab.step {R R' Nx : Nat → Int → Prop} {now T : List Int} {N2 : Nat → Nat → Int → Prop} (h : Tab R now) (hd : ∀ s t d, N2 s t d → 0 ≤ d) (hr : ∀ t c, R' t c ↔ ∃ s c0 d, R s c0 ∧ N2 s t d ∧ c = c0 + d)
    (hT : Tab (fun t c => ∃ s v d, now[s]? = some v ∧ 0 ≤ v ∧ N2 s t d ∧ c = v + d) T) : Tab R' T := by
  refine ⟨fun t v h1 h2 => ?_, fun t c hc => ?_⟩
  · obtain ⟨s, v0, d, g1, g2, g3, g4⟩ := hT.1 t v h1 h2
    exact (hr t v).2 ⟨s, v0, d, h.1 s v0 g1 g2, g3, g4⟩
  · obtain ⟨s, c0, d, g1, g2, rfl⟩ := (hr t c).1 hc
    obtain ⟨v0, e1, e2, e3⟩ := h.2 s c0 g1
    obtain ⟨v, f1, f2, f3⟩ := hT.2 t (v0 + d) ⟨s, v0, d, e1, e2, g2, rfl⟩
    exact ⟨v, f1, f2, by omega⟩
/-- The least of all so far. -/
def minT (T : List Int) : Int := T.foldl (fun m x => if 0 ≤ x then lessI m x else m) (-1)
theorem minT_snoc (T : List Int) (x : Int) : minT (T ++ [x]) = if 0 ≤ x then lessI (minT T) x else minT T := by unfold minT; rw [List.foldl_append]; rfl
theorem minT_spec (T : List Int) : (minT T = -1 ∧ ∀ x ∈ T, x < 0) ∨ (0 ≤ minT T ∧ minT T ∈ T ∧ ∀ x ∈ T, 0 ≤ x → minT T ≤ x) := by
  induction T using list_snoc_ind with
  | h0 => exact .inl ⟨rfl, by simp⟩
  | h1 T x ih =>
    rw [minT_snoc]
    by_cases hx : 0 ≤ x
    · rw [if_pos hx]
      right
      unfold lessI
      rcases ih with ⟨e, h⟩ | ⟨h1, h2, h3⟩
      · rw [e, if_pos (by omega)]
        refine ⟨hx, by simp, fun y hy hy0 => ?_⟩
        rw [List.mem_append, List.mem_singleton] at hy
        rcases hy with hy | rfl
        · have := h y hy; omega
        · omega
      · by_cases hc : minT T < 0 ∨ x < minT T
        · rw [if_pos hc]
          refine ⟨hx, by simp, fun y hy hy0 => ?_⟩
          rw [List.mem_append, List.mem_singleton] at hy
          rcases hy with hy | rfl
          · have := h3 y hy hy0; omega
          · omega
        · rw [if_neg hc]
          refine ⟨h1, by simp [h2], fun y hy hy0 => ?_⟩
          rw [List.mem_append, List.mem_singleton] at hy
          rcases hy with hy | rfl
          · exact h3 y hy hy0
          · omega
    · rw [if_neg hx]
      rcases ih with ⟨e, h⟩ | ⟨h1, h2, h3⟩
      · exact .inl ⟨e, fun y hy => by
          rw [List.mem_append, List.mem_singleton] at hy
          rcases hy with hy | rfl
          · exact h y hy
          · omega⟩
      · exact .inr ⟨h1, by simp [h2], fun y hy hy0 => by
          rw [List.mem_append, List.mem_singleton] at hy
          rcases hy with hy | rfl
          · exact h3 y hy hy0
          · omega⟩
/-- It is the least of all states. -/
theorem Tab.min {R : Nat → Int → Prop} {T : List Int} (h : Tab R T) {v : Int} (h1 : ∃ s, R s v) (h2 : ∀ s c, R s c → v ≤ c) : minT T = v := by
  obtain ⟨s, hs⟩ := h1
  obtain ⟨u, e1, e2, e3⟩ := h.2 s v hs
  have hu := List.mem_of_getElem? e1
  rcases minT_spec T with ⟨_, g⟩ | ⟨g1, g2, g3⟩
  · have := g u hu; omega
  · have a1 := g3 u hu e2
    obtain ⟨t, ht⟩ := List.getElem?_of_mem g2
    have a2 := h2 t _ (h.1 t _ ht g1)
    omega
theorem Tab.best {R : Nat → Int → Prop} {T : List Int} (h : Tab R T) (h1 : ∃ s c, R s c) : (∃ s, R s (minT T)) ∧ ∀ s c, R s c → minT T ≤ c := by
  obtain ⟨s, c, hs⟩ := h1
  obtain ⟨u, e1, e2, e3⟩ := h.2 s c hs
  have hu := List.mem_of_getElem? e1
  rcases minT_spec T with ⟨_, g⟩ | ⟨g1, g2, g3⟩
  · have := g u hu; omega
  · obtain ⟨t, ht⟩ := List.getElem?_of_mem g2
    refine ⟨⟨t, h.1 t _ ht g1⟩, fun s c hc => ?_⟩
    obtain ⟨v, f1, f2, f3⟩ := h.2 s c hc
    have := g3 v (List.mem_of_getElem? f1) f2
    omega
/-- Filled so far. -/
theorem fill_set {T : List Int} {k : Nat} {x y : Int} {p : Nat → Prop} [DecidablePred p] {N : Nat} (hl : T.length = N) (h : ∀ s, s < N → T[s]? = some (if p s ∧ s < k then x else y)) (hk : k < N) (hp : p k) : ∀ s, s < N → (T.set k x)[s]? = some (if p s ∧ s < k + 1 then x else y) := by
  intro s hs
  by_cases e : s = k
  · subst e
    rw [List.getElem?_set_self (by omega), if_pos ⟨hp, by omega⟩]
  · rw [List.getElem?_set_ne (fun e' => e e'.symm), h s hs]
    by_cases h1 : p s ∧ s < k
    · rw [if_pos h1, if_pos ⟨h1.1, by omega⟩]
    · rw [if_neg h1, if_neg (fun h2 => h1 ⟨h2.1, by omega⟩)]
end Go.Proofs.YtmeamgeojcbljaaDoor
