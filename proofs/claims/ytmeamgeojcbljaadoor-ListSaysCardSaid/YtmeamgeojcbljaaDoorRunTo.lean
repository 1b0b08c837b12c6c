/- Plain words: runs through states, each step at a cost; a memo that has the best of them; no program in sight. -/
import Derived.Test.YtmeamgeojcbljaaDoorMemoMap
namespace Go.Proofs.YtmeamgeojcbljaaDoor

section
variable {K ρ : Type} (Nx : ρ → K → K → Int → Prop)
def RunTo : K → List ρ → K → Int → Prop
  | k, [], k', d => k' = k ∧ d = 0
  | k, p :: l, k', d => ∃ k1 d1 d2, Nx p k k1 d1 ∧ RunTo k1 l k' d2 ∧ d = d1 + d2
theorem runTo_snoc {p : ρ} {k' : K} : ∀ {l : List ρ} {k : K} {d : Int}, RunTo Nx k (l ++ [p]) k' d ↔ ∃ k1 d1 d2, RunTo Nx k l k1 d1 ∧ Nx p k1 k' d2 ∧ d = d1 + d2 := by
  intro l
  induction l with
  | nil =>
    intro k d
    constructor
    · rintro ⟨k1, d1, d2, h1, ⟨rfl, rfl⟩, rfl⟩
      exact ⟨k, 0, d1, ⟨rfl, rfl⟩, h1, by omega⟩
    · rintro ⟨k1, d1, d2, ⟨rfl, rfl⟩, h, rfl⟩
      exact ⟨k', d2, 0, h, ⟨rfl, rfl⟩, by omega⟩
  | cons q l ih =>
    intro k d
    constructor
    · rintro ⟨k1, d1, d2, h1, h2, rfl⟩
      obtain ⟨k2, d3, d4, h3, h4, rfl⟩ := ih.1 h2
      exact ⟨k2, d1 + d3, d4, ⟨k1, d1, d3, h1, h3, rfl⟩, h4, by omega⟩
    · rintro ⟨k2, d3, d4, ⟨k1, d1, d5, h1, h3, rfl⟩, h4, rfl⟩
      exact ⟨k1, d1, d5 + d4, h1, ih.2 ⟨k2, d5, d4, h3, h4, rfl⟩, by omega⟩
/-- The least of all runs. -/
def Best (k : K) (l : List ρ) (v : Int) : Prop := (∃ k', RunTo Nx k l k' v) ∧ ∀ k' d, RunTo Nx k l k' d → v ≤ d
end

section
variable {K : Type}
/-- A memo has the best of all that R lets. -/
def MemoR (R : K → Int → Prop) (L : List (K × Int)) : Prop := (∀ q ∈ L, R q.1 q.2) ∧ ∀ k c, R k c → ∃ q ∈ L, q.1 = k ∧ q.2 ≤ c
theorem MemoR.congr {R R' : K → Int → Prop} {L : List (K × Int)} (h : MemoR R L) (hr : ∀ k c, R k c ↔ R' k c) : MemoR R' L := ⟨fun q hq => (hr _ _).1 (h.1 q hq), fun k c hk => h.2 k c ((hr _ _).2 hk)⟩
theorem memoR_nil : MemoR (fun (_ : K) (_ : Int) => False) [] := ⟨by simp, by simp⟩
theorem MemoR.less [DecidableEq K] {R : K → Int → Prop} {L : List (K × Int)} (h : MemoR R L) (x : K) (y : Int) : MemoR (fun k c => R k c ∨ (k = x ∧ c = y)) (lessL L x y) := by
  unfold lessL
  split
  · rename_i he
    refine ⟨fun q hq => .inl (h.1 q hq), fun k c hk => ?_⟩
    rcases hk with hk | ⟨rfl, rfl⟩
    · exact h.2 k c hk
    · exact he
  · rename_i hne
    refine ⟨fun q hq => ?_, fun k c hk => ?_⟩
    · rw [List.mem_cons] at hq
      rcases hq with rfl | hq
      · exact .inr ⟨rfl, rfl⟩
      · exact .inl (h.1 q (List.mem_filter.1 hq).1)
    · rcases hk with hk | ⟨rfl, rfl⟩
      · obtain ⟨q, hq, h1, h2⟩ := h.2 k c hk
        by_cases e : k = x
        · subst e
          refine ⟨(k, y), by simp, rfl, ?_⟩
          have : ¬ q.2 ≤ y := fun hl => hne ⟨q, hq, h1, hl⟩
          show y ≤ c; omega
        · exact ⟨q, by rw [List.mem_cons]; exact .inr (List.mem_filter.2 ⟨hq, by simpa using (fun e' => e (h1 ▸ e'))⟩), h1, h2⟩
      · exact ⟨(k, c), by simp, rfl, Int.le_refl _⟩
theorem MemoR.perm {R : K → Int → Prop} {L L' : List (K × Int)} (h : MemoR R L) (hp : L.Perm L') : MemoR R L' := ⟨fun q hq => h.1 q (hp.mem_iff.2 hq), fun k c hk => by obtain ⟨q, hq, e⟩ := h.2 k c hk; exact ⟨q, hp.mem_iff.1 hq, e⟩⟩

/-- What comes of entries by one step. -/
def After {ρ : Type} (Nx : ρ → K → K → Int → Prop) (p : ρ) (pre : List (K × Int)) (k : K) (c : Int) : Prop := ∃ q ∈ pre, ∃ d, Nx p q.1 k d ∧ c = q.2 + d
theorem after_snoc {ρ : Type} {Nx : ρ → K → K → Int → Prop} {p : ρ} {pre : List (K × Int)} {x : K × Int} {k : K} {c : Int} : After Nx p (pre ++ [x]) k c ↔ After Nx p pre k c ∨ ∃ d, Nx p x.1 k d ∧ c = x.2 + d := by
  constructor
  · rintro ⟨q, hq, h⟩
    rw [List.mem_append, List.mem_singleton] at hq
    rcases hq with hq | rfl
    · exact .inl ⟨q, hq, h⟩
    · exact .inr h
  · rintro (⟨q, hq, h⟩ | h)
    · exact ⟨q, by simp [hq], h⟩
    · exact ⟨x, by simp, h⟩
theorem after_nil {ρ : Type} {Nx : ρ → K → K → Int → Prop} {p : ρ} {k : K} {c : Int} : ¬ After Nx p [] k c := by rintro ⟨q, hq, _⟩; simp at hq
theorem MemoR.step {ρ : Type} {Nx : ρ → K → K → Int → Prop} {p : ρ} {k0 : K} {l : List ρ} {L T xs : List (K × Int)} (h : MemoR (RunTo Nx k0 l) L) (hp : L.Perm xs) (hT : MemoR (After Nx p xs) T) : MemoR (RunTo Nx k0 (l ++ [p])) T := by
  refine ⟨fun q hq => ?_, fun k c hk => ?_⟩
  · obtain ⟨y, hy, d, h1, h2⟩ := hT.1 q hq
    exact (runTo_snoc Nx).2 ⟨y.1, y.2, d, h.1 y (hp.mem_iff.2 hy), h1, h2⟩
  · obtain ⟨k1, d1, d2, h1, h2, rfl⟩ := (runTo_snoc Nx).1 hk
    obtain ⟨y, hy, rfl, e⟩ := h.2 _ _ h1
    obtain ⟨z, hz, e1, e2⟩ := hT.2 k (y.2 + d2) ⟨y, hp.mem_iff.1 hy, d2, h2, rfl⟩
    exact ⟨z, hz, e1, by omega⟩
theorem MemoR.best {ρ : Type} {Nx : ρ → K → K → Int → Prop} {k0 : K} {l : List ρ} {L : List (K × Int)} (h : MemoR (RunTo Nx k0 l) L) {v : Int} (h1 : ∃ q ∈ L, q.2 = v) (h2 : ∀ q ∈ L, v ≤ q.2) : Best Nx k0 l v := by
  obtain ⟨q, hq, rfl⟩ := h1
  refine ⟨⟨q.1, h.1 q hq⟩, fun k' d hd => ?_⟩
  obtain ⟨r, hr, _, e⟩ := h.2 _ _ hd
  have := h2 r hr; omega
end
theorem nodup_leK {α : Type} [DecidableEq α] : ∀ {a b : List α}, a.Nodup → (∀ x ∈ a, x ∈ b) → a.length ≤ b.length := by
  intro a
  induction a with
  | nil => intro b _ _; simp
  | cons x a ih =>
    intro b hn h
    rw [List.nodup_cons] at hn
    have hx := h x (by simp)
    have h1 := ih (b := b.erase x) hn.2 (fun y hy => by
      have hne : y ≠ x := by rintro rfl; exact hn.1 hy
      exact (List.mem_erase_of_ne hne).2 (h y (by simp [hy])))
    have h2 := List.length_erase_of_mem hx
    have h3 := List.length_pos_of_mem hx
    simp; omega
theorem nodup_bound {l : List Int} {n : Nat} (hn : l.Nodup) (hl : ∀ x ∈ l, 0 ≤ x ∧ x < n) : l.length ≤ n := by
  have := nodup_leK (b := (List.range n).map Int.ofNat) hn (fun x hx => by
    have := hl x hx
    exact List.mem_map.2 ⟨x.toNat, List.mem_range.2 (by omega), by show ((x.toNat : Nat) : Int) = x; omega⟩)
  simpa using this
end Go.Proofs.YtmeamgeojcbljaaDoor
