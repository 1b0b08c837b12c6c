/- Plain laws of a store that lets go of what was not asked for longest; no program in sight. -/
import Derived.Test.YtgljpdfmejganaaSim
namespace Go.Proofs.Ytgljpdfmejganaa

def lruStep (slots : Nat) (s : List Bool × List Int) (p : Int) : List Bool × List Int :=
  if p ∈ s.2 then (s.1 ++ [true], p :: (s.2.take (s.2.idxOf p) ++ s.2.drop (s.2.idxOf p + 1))) else (s.1 ++ [false], p :: (if s.2.length = slots then s.2.take (slots - 1) else s.2))
def lruRun (slots : Nat) (l : List Int) : List Bool × List Int := l.foldl (lruStep slots) ([], [])

/-- All pages that were asked for, the one that was asked for last first. -/
def recStep (acc : List Int) (p : Int) : List Int := p :: acc.erase p
def recL (l : List Int) : List Int := l.foldl recStep []
theorem recL_snoc (l : List Int) (y : Int) : recL (l ++ [y]) = y :: (recL l).erase y := foldl_snoc _ _ _ _

theorem recL_nodup (l : List Int) : (recL l).Nodup := by
  induction l using list_snoc_ind with
  | h0 => simp [recL]
  | h1 l y ih => rw [recL_snoc, List.nodup_cons]; exact ⟨fun h => (List.Nodup.mem_erase_iff ih).1 h |>.1 rfl, ih.erase y⟩
theorem mem_recL' (l : List Int) : ∀ x : Int, x ∈ recL l ↔ x ∈ l := by
  induction l using list_snoc_ind with
  | h0 => simp [recL]
  | h1 l y ih =>
    intro x
    rw [recL_snoc, List.mem_cons, List.Nodup.mem_erase_iff (recL_nodup l), ih, List.mem_append, List.mem_singleton]
    by_cases h : x = y <;> simp [h]
theorem mem_recL (l : List Int) (x : Int) : x ∈ recL l ↔ x ∈ l := mem_recL' l x

/-- A list of unlike numbers is cut by one of its own. -/
theorem split_at {l : List Int} {p : Int} (h : p ∈ l) : ∃ a b, l = a ++ p :: b ∧ p ∉ a := by
  induction l with
  | nil => simp at h
  | cons x t ih =>
    by_cases hx : p = x
    · subst hx; exact ⟨[], t, rfl, by simp⟩
    · have ht : p ∈ t := by rcases List.mem_cons.1 h with h | h; exact absurd h hx; exact h
      obtain ⟨a, b, e, ha⟩ := ih ht
      exact ⟨x :: a, b, by rw [e]; rfl, by simp [hx, ha]⟩
theorem erase_split {a b : List Int} {p : Int} (h : p ∉ a) : (a ++ p :: b).erase p = a ++ b := by
  rw [List.erase_append_right _ h]; simp
theorem idx_split {a b : List Int} {p : Int} (h : p ∉ a) : (a ++ p :: b).idxOf p = a.length := by
  rw [List.idxOf_append, if_neg h]; simp
theorem del_idx {l : List Int} {p : Int} (h : p ∈ l) : l.take (l.idxOf p) ++ l.drop (l.idxOf p + 1) = l.erase p := by
  obtain ⟨a, b, rfl, ha⟩ := split_at h
  rw [idx_split ha, erase_split ha]
  simp

def lruG (s : Nat) (held : List Int) (p : Int) : List Int := if p ∈ held then p :: held.erase p else p :: (if held.length = s then held.take (s - 1) else held)
theorem lruRun_sim (s : Nat) (l : List Int) : lruRun s l = simG (fun held p => hasB held p) (lruG s) [] l := by
  unfold lruRun simG
  congr 1
  funext st p
  unfold lruStep lruG
  by_cases h : p ∈ st.2
  · rw [if_pos h, if_pos h, del_idx h]; simp only [(hasB_iff _ _).2 h]
  · rw [if_neg h, if_neg h]; simp only [(hasB_false _ _).2 h]

theorem erase_take_succ {l : List Int} {p : Int} {s : Nat} (h : p ∈ l.take (s + 1)) : (l.take (s + 1)).erase p = (l.erase p).take s := by
  obtain ⟨a, b, e, ha⟩ := split_at (List.mem_of_mem_take h)
  subst e
  by_cases hl : a.length ≤ s
  · rw [erase_split ha, List.take_append, show s + 1 - a.length = (s - a.length) + 1 by omega, List.take_succ_cons, List.take_of_length_le (show a.length ≤ s + 1 by omega), erase_split ha, List.take_append, List.take_of_length_le hl]
  · exfalso
    rw [List.take_append_of_le_length (by omega)] at h
    exact ha (List.mem_of_mem_take h)
theorem take_erase_of_not {l : List Int} {p : Int} {s : Nat} (h : p ∉ l.take (s + 1)) : (l.erase p).take s = l.take s := by
  by_cases hm : p ∈ l
  · obtain ⟨a, b, e, ha⟩ := split_at hm
    subst e
    by_cases hl : a.length ≤ s
    · exfalso
      apply h
      rw [List.take_append, show s + 1 - a.length = (s - a.length) + 1 by omega]
      simp
    · rw [erase_split ha, List.take_append_of_le_length (by omega), List.take_append_of_le_length (by omega)]
  · rw [List.erase_of_not_mem hm]

theorem lru_held (s : Nat) (l : List Int) : l.foldl (lruG (s + 1)) [] = (recL l).take (s + 1) := by
  induction l using list_snoc_ind with
  | h0 => simp [recL]
  | h1 l y ih =>
    rw [foldl_snoc, recL_snoc, List.take_succ_cons, ih]
    unfold lruG
    by_cases h : y ∈ (recL l).take (s + 1)
    · rw [if_pos h, erase_take_succ h]
    · rw [if_neg h, take_erase_of_not h]
      congr 1
      split
      · rename_i hl
        rw [List.take_take]; congr 1; omega
      · rename_i hl
        have : (recL l).length < s + 1 := by rw [List.length_take] at hl; omega
        rw [List.take_of_length_le (by omega), List.take_of_length_le (by omega)]
theorem lru_snd (s : Nat) (l : List Int) : (lruRun (s + 1) l).2 = (recL l).take (s + 1) := by rw [lruRun_sim, simG_snd, lru_held]
theorem lru_len (s : Nat) (l : List Int) : (lruRun s l).1.length = l.length := by rw [lruRun_sim, simG_len]
theorem lru_at (s : Nat) (l : List Int) (k : Nat) (y : Int) (h : l[k]? = some y) : (lruRun (s + 1) l).1[k]? = some (hasB ((recL (l.take k)).take (s + 1)) y) := by
  rw [lruRun_sim, simG_at _ _ _ l k y h, lru_held]

theorem hasB_mono {l : List Int} {s : Nat} {y : Int} (h : hasB (l.take s) y = true) : hasB (l.take (s + 1)) y = true := by
  rw [hasB_iff] at h ⊢
  have : l.take s = (l.take (s + 1)).take s := by rw [List.take_take]; congr 1; omega
  rw [this] at h; exact List.mem_of_mem_take h
theorem lru_nested_held (s : Nat) (l : List Int) : (lruRun (s + 1) l).2 = ((lruRun (s + 2) l).2).take (lruRun (s + 1) l).2.length := by
  rw [lru_snd, lru_snd, List.length_take, List.take_take]
  by_cases h : s + 1 ≤ (recL l).length
  · congr 1; omega
  · rw [List.take_of_length_le (by omega), List.take_of_length_le (by omega)]
theorem lru_nested_len (s : Nat) (l : List Int) : (lruRun (s + 1) l).2.length ≤ (lruRun (s + 2) l).2.length := by
  rw [lru_snd, lru_snd, List.length_take, List.length_take]; omega
theorem lru_nested_at (s : Nat) (l : List Int) (k : Nat) (h : (lruRun (s + 1) l).1[k]? = some true) : (lruRun (s + 2) l).1[k]? = some true := by
  have hk : k < l.length := by have := (List.getElem?_eq_some_iff.1 h).1; rwa [lru_len] at this
  have hy := List.getElem?_eq_getElem hk
  rw [lru_at s l k _ hy] at h
  rw [lru_at (s + 1) l k _ hy]
  injection h with h
  rw [hasB_mono h]

theorem lru_again_held (s : Nat) (l : List Int) (p : Int) : (lruRun (s + 1) (l ++ [p])).2 = (lruRun (s + 1) (l ++ [p] ++ [p])).2 := by
  rw [lru_snd, lru_snd, recL_snoc (l ++ [p]), recL_snoc]; simp
theorem lru_again_at (s : Nat) (l : List Int) (p : Int) : (lruRun (s + 1) (l ++ [p] ++ [p])).1[l.length + 1]? = some true := by
  have e : (l ++ [p] ++ [p]).take (l.length + 1) = l ++ [p] := by
    rw [List.take_append_of_le_length (by simp)]
    exact List.take_of_length_le (by simp)
  rw [lru_at s _ (l.length + 1) p (by simp), e, recL_snoc]
  simp [hasB]
theorem lru_again_head (s : Nat) (l : List Int) (p : Int) : (lruRun (s + 1) (l ++ [p])).2[0]? = some p := by
  rw [lru_snd, recL_snoc]; simp
end Go.Proofs.Ytgljpdfmejganaa
