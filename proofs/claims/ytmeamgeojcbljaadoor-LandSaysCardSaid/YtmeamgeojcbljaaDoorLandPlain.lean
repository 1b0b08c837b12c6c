/- Plain words on a landlord: what he does, request by request; no program in sight. -/
import Derived.Test.YtmeamgeojcbljaaDoorLists
namespace Go.Proofs.YtmeamgeojcbljaaDoor
theorem foldl_min_le : ∀ (l : List Int) (m : Int), l.foldl min m ≤ m ∧ ∀ x ∈ l, l.foldl min m ≤ x := by
  intro l
  induction l with
  | nil => intro m; simp
  | cons y l ih =>
    intro m
    obtain ⟨h1, h2⟩ := ih (min m y)
    rw [List.foldl_cons]
    refine ⟨by omega, fun x hx => ?_⟩
    rw [List.mem_cons] at hx
    rcases hx with rfl | hx
    · omega
    · exact h2 x hx
theorem foldl_min_mem : ∀ (l : List Int) (m : Int), l.foldl min m = m ∨ l.foldl min m ∈ l := by
  intro l
  induction l with
  | nil => intro m; exact .inl rfl
  | cons y l ih =>
    intro m
    rw [List.foldl_cons]
    rcases ih (min m y) with h | h
    · rw [h]
      by_cases hm : m ≤ y
      · exact .inl (by omega)
      · exact .inr (by rw [show min m y = y by omega]; simp)
    · exact .inr (by simp [h])
/-- The least credit. -/
def leastH (h : List (Int × Int)) : Int := (h.map Prod.snd).foldl min (h.getD 0 (0, 0)).2
/-- All pay so much. -/
def lowered (h : List (Int × Int)) (d : Int) : List (Int × Int) := h.map fun t => (t.1, t.2 - d)
/-- The first one without a credit goes. -/
def roomed (h : List (Int × Int)) : List (Int × Int) :=
  (lowered h (leastH h)).take (((lowered h (leastH h)).map Prod.snd).idxOf 0) ++ (lowered h (leastH h)).drop (((lowered h (leastH h)).map Prod.snd).idxOf 0 + 1)
def landStep (cost : List Int) (s : Nat) (c : Int × List (Int × Int)) (p : Int) : Int × List (Int × Int) :=
  if p ∈ c.2.map Prod.fst then (c.1, c.2.set ((c.2.map Prod.fst).idxOf p) (p, cost.getD p.toNat 0))
  else (c.1 + cost.getD p.toNat 0, (if c.2.length = s then roomed c.2 else c.2) ++ [(p, cost.getD p.toNat 0)])
def landRun (cost : List Int) (s : Nat) (l : List Int) : Int × List (Int × Int) := l.foldl (landStep cost s) (0, [])
theorem land_succ {cost : List Int} {s : Nat} {l : List Int} {k : Nat} {y : Int} (h : l[k]? = some y) : landRun cost s (l.take (k + 1)) = landStep cost s (landRun cost s (l.take k)) y := foldl_take_succ _ _ _ _ _ h
theorem leastH_in {h : List (Int × Int)} (hn : 0 < h.length) : leastH h ∈ h.map Prod.snd := by
  unfold leastH
  rcases foldl_min_mem (h.map Prod.snd) (h.getD 0 (0, 0)).2 with e | e
  · rw [e]
    rw [List.getD_eq_getElem?_getD, List.getElem?_eq_getElem hn]
    exact List.mem_map.2 ⟨h[0], List.getElem_mem hn, rfl⟩
  · exact e
theorem leastH_le {h : List (Int × Int)} {t : Int × Int} (ht : t ∈ h) : leastH h ≤ t.2 := (foldl_min_le _ _).2 _ (List.mem_map.2 ⟨t, ht, rfl⟩)
theorem lowered_zero {h : List (Int × Int)} (hn : 0 < h.length) : (0 : Int) ∈ (lowered h (leastH h)).map Prod.snd := by
  obtain ⟨t, ht, e⟩ := List.mem_map.1 (leastH_in hn)
  refine List.mem_map.2 ⟨(t.1, t.2 - leastH h), List.mem_map.2 ⟨t, ht, rfl⟩, ?_⟩
  show t.2 - leastH h = 0
  rw [e]; omega
theorem lowered_len (h : List (Int × Int)) (d : Int) : (lowered h d).length = h.length := by simp [lowered]
theorem roomed_len {h : List (Int × Int)} (hn : 0 < h.length) : (roomed h).length + 1 = h.length := by
  have h1 := List.idxOf_lt_length_iff.2 (lowered_zero hn)
  rw [List.length_map, lowered_len] at h1
  unfold roomed
  rw [List.length_append, List.length_take, List.length_drop, lowered_len]; omega
theorem roomed_sub {h : List (Int × Int)} {t : Int × Int} (ht : t ∈ roomed h) : ∃ u ∈ h, t = (u.1, u.2 - leastH h) := by
  have : t ∈ lowered h (leastH h) := by
    unfold roomed at ht
    rw [List.mem_append] at ht
    rcases ht with ht | ht
    · exact List.mem_of_mem_take ht
    · exact List.mem_of_mem_drop ht
  obtain ⟨u, hu, e⟩ := List.mem_map.1 this
  exact ⟨u, hu, e.symm⟩
/-- What holds all the time. -/
def LandOk (s k : Nat) (c : Int × List (Int × Int)) : Prop := c.2.length ≤ s ∧ (∀ t ∈ c.2, 0 ≤ t.2 ∧ t.2 ≤ 20) ∧ 0 ≤ c.1 ∧ c.1 ≤ 20 * k
theorem costAt {cost : List Int} (hc : AllIn cost 0 20) (j : Nat) : 0 ≤ cost.getD j 0 ∧ cost.getD j 0 ≤ 20 := by
  rw [List.getD_eq_getElem?_getD]
  cases h : cost[j]? with
  | none => simp
  | some x => exact hc x (List.mem_of_getElem? h)
theorem landOk_step {cost : List Int} (hc : AllIn cost 0 20) {s k : Nat} (hs : 1 ≤ s) {c : Int × List (Int × Int)} (h : LandOk s k c) (p : Int) : LandOk s (k + 1) (landStep cost s c p) := by
  obtain ⟨h1, h2, h3, h4⟩ := h
  obtain ⟨c0, c1⟩ := costAt hc p.toNat
  unfold landStep
  split
  · refine ⟨by simpa using h1, fun t ht => ?_, h3, by show c.1 ≤ _; omega⟩
    rcases List.mem_or_eq_of_mem_set ht with ht | ht
    · exact h2 t ht
    · subst ht; exact ⟨c0, c1⟩
  · split
    · rename_i hl
      have h5 := roomed_len (h := c.2) (by omega)
      refine ⟨by simp; omega, fun t ht => ?_, by show 0 ≤ c.1 + _; omega, by show c.1 + _ ≤ _; omega⟩
      rw [List.mem_append, List.mem_singleton] at ht
      rcases ht with ht | ht
      · obtain ⟨u, hu, e⟩ := roomed_sub ht
        have h6 := leastH_le hu
        have h7 := h2 u hu
        have h8 : 0 ≤ leastH c.2 := by
          obtain ⟨v, hv, e2⟩ := List.mem_map.1 (leastH_in (h := c.2) (by omega))
          rw [← e2]; exact (h2 v hv).1
        subst e
        exact ⟨by show 0 ≤ u.2 - _; omega, by show u.2 - _ ≤ 20; omega⟩
      · subst ht; exact ⟨c0, c1⟩
    · rename_i hl
      refine ⟨by simp; omega, fun t ht => ?_, by show 0 ≤ c.1 + _; omega, by show c.1 + _ ≤ _; omega⟩
      rw [List.mem_append, List.mem_singleton] at ht
      rcases ht with ht | ht
      · exact h2 t ht
      · subst ht; exact ⟨c0, c1⟩
theorem landOk_take {cost : List Int} (hc : AllIn cost 0 20) {s : Nat} (hs : 1 ≤ s) (l : List Int) : ∀ k, k ≤ l.length → LandOk s k (landRun cost s (l.take k)) := by
  intro k
  induction k with
  | zero => intro _; exact ⟨by simp [landRun], by simp [landRun], by simp [landRun], by simp [landRun]⟩
  | succ k ih =>
    intro hk
    have h1 := ih (by omega)
    rw [land_succ (List.getElem?_eq_getElem (show k < l.length by omega))]
    exact landOk_step hc hs h1 _

def GoodL (l cost : List Int) (slots : Int) : Prop := l.length ≤ 40 ∧ cost.length ≤ 6 ∧ AllIn cost 0 20 ∧ AllIn l 0 ((cost.length : Int) - 1) ∧ 1 ≤ slots ∧ slots ≤ 8
noncomputable def landE (l cost : List Int) (slots : Int) : Int := open Classical in if 40 < l.length ∨ 6 < cost.length then 4 else if AllIn cost 0 20 ∧ AllIn l 0 ((cost.length : Int) - 1) ∧ 1 ≤ slots ∧ slots ≤ 8 then 0 else 1
end Go.Proofs.YtmeamgeojcbljaaDoor
