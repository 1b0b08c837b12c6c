/- Plain laws of depths and curves; no program in sight. -/
import Derived.Test.YthppmdoomcpbkaaStackPlain
import Derived.Test.YthppmdoomcpbkaaLastPlain
namespace Go.Proofs.Ythppmdoomcpbkaa
theorem mem_take_iff {L : List Int} (y : Int) (s : Nat) : y ∈ L.take s ↔ y ∈ L ∧ L.idxOf y < s := by
  constructor
  · intro h
    refine ⟨List.mem_of_mem_take h, ?_⟩
    obtain ⟨a, b, e, ha⟩ := split_at (List.mem_of_mem_take h)
    subst e
    rw [idx_split ha]
    by_cases hl : a.length < s
    · exact hl
    · exfalso
      rw [List.take_append_of_le_length (by omega)] at h
      exact ha (List.mem_of_mem_take h)
  · rintro ⟨h1, h2⟩
    obtain ⟨a, b, e, ha⟩ := split_at h1
    subst e
    rw [idx_split ha] at h2
    rw [List.take_append, show s - a.length = (s - a.length - 1) + 1 by omega]
    simp
/-- By s slots a page is there where it lies no deeper than s. -/
theorem lru_depth_at (s : Nat) (hs : 1 ≤ s) (l : List Int) (k : Nat) (d : Int) (h : (depthRun l).1[k]? = some d) : (lruRun s l).1[k]? = some (decide (0 < d ∧ d ≤ s)) := by
  have hk : k < l.length := by have := (List.getElem?_eq_some_iff.1 h).1; rwa [depth_len] at this
  have hy := List.getElem?_eq_getElem hk
  obtain ⟨t, rfl⟩ : ∃ t, s = t + 1 := ⟨s - 1, by omega⟩
  rw [depth_at l k _ hy] at h
  rw [lru_at t l k _ hy]
  injection h with h
  congr 1
  rw [Bool.eq_iff_iff, hasB_iff, mem_take_iff, decide_eq_true_iff, ← h]
  by_cases hm : l[k] ∈ recL (l.take k)
  · rw [ixI_mem hm]; simp only [hm, true_and]; omega
  · rw [ixI_not hm]; simp [hm]
theorem miss_cnt (s : Nat) (hs : 1 ≤ s) (l : List Int) : ∀ k, k ≤ l.length → missN ((lruRun s l).1.take k) = cntD ((depthRun l).1.take k) (s - 1) := by
  intro k
  induction k with
  | zero => intro _; simp [missN, cntD]
  | succ k ih =>
    intro hk
    obtain ⟨d, hd⟩ : ∃ d, (depthRun l).1[k]? = some d := ⟨_, List.getElem?_eq_getElem (show k < (depthRun l).1.length by rw [depth_len]; omega)⟩
    have hb := lru_depth_at s hs l k _ hd
    rw [missN_succ hb, cntD_succ (s - 1) hd, ih (by omega)]
    congr 1
    have h0 := (depth_bd l _ (mem_of_at hd)).1
    have hs1 : ((s - 1 : Nat) : Int) + 1 = s := by omega
    rw [hs1]
    by_cases h : 0 < d ∧ d ≤ s
    · have h' : ¬ (d = 0 ∨ (s : Int) < d) := by omega
      rw [if_neg h', decide_eq_true h]; rfl
    · have h' : d = 0 ∨ (s : Int) < d := by omega
      rw [if_pos h', decide_eq_false h]; rfl
theorem miss_curve (s : Nat) (hs : 1 ≤ s) (l : List Int) : missN (lruRun s l).1 = cntD (depthRun l).1 (s - 1) := by
  have := miss_cnt s hs l l.length (Nat.le_refl _)
  rwa [List.take_of_length_le (by rw [lru_len]; omega), List.take_of_length_le (by rw [depth_len]; omega)] at this
theorem cntD_mono (ds : List Int) (k : Nat) : cntD ds (k + 1) ≤ cntD ds k := by
  unfold cntD
  induction ds with
  | nil => simp
  | cons d ds ih =>
    rw [List.filter_cons, List.filter_cons]
    by_cases h1 : deepB (k + 1) d = true
    · have h2 : deepB k d = true := by
        have := of_decide_eq_true h1
        exact decide_eq_true (by omega)
      rw [if_pos h1, if_pos h2]; simp; exact ih
    · rw [if_neg h1]
      split
      · simp; omega
      · exact ih
/-- By one slot: as often as a page is unlike the one ahead of it. -/
theorem cnt_neighbour (l : List Int) (k : Nat) (y : Int) (hy : l[k]? = some y) : cntD ((depthRun l).1.take (k + 1)) 0 = cntD ((depthRun l).1.take k) 0 + if k = 0 ∨ l[k - 1]? ≠ some y then 1 else 0 := by
  rw [cntD_succ 0 (depth_at l k y hy)]
  congr 1
  rcases k with _ | k
  · simp [recL, ixI]
  · have hk : k < l.length := by have := (List.getElem?_eq_some_iff.1 hy).1; omega
    have hx := List.getElem?_eq_getElem hk
    have e : recL (l.take (k + 1)) = l[k] :: (recL (l.take k)).erase l[k] := by rw [take_succ_of hx, recL_snoc]
    rw [Nat.add_sub_cancel, hx, e]
    by_cases hxy : l[k] = y
    · have hR : ¬ (k + 1 = 0 ∨ some l[k] ≠ some y) := by rintro (a | a); omega; exact a (by rw [hxy])
      have hLc : ¬ (ixI (l[k] :: (recL (l.take k)).erase l[k]) y + 1 = 0 ∨ ((0 : Nat) : Int) + 1 < ixI (l[k] :: (recL (l.take k)).erase l[k]) y + 1) := by
        rw [hxy, ixI_mem (by simp)]; simp
      rw [if_neg hR, if_neg hLc]
    · have hR : k + 1 = 0 ∨ some l[k] ≠ some y := .inr fun h => hxy (by injection h)
      have hLc : ixI (l[k] :: (recL (l.take k)).erase l[k]) y + 1 = 0 ∨ ((0 : Nat) : Int) + 1 < ixI (l[k] :: (recL (l.take k)).erase l[k]) y + 1 := by
        by_cases hm : y ∈ l[k] :: (recL (l.take k)).erase l[k]
        · right
          have hb : (l[k] == y) = false := by simp [hxy]
          rw [ixI_mem hm, List.idxOf_cons, hb, cond_false]
          omega
        · left; rw [ixI_not hm]; rfl
      rw [if_pos hR, if_pos hLc]
theorem curve_eight (l : List Int) : someN l ≤ cntD (depthRun l).1 7 ∧ (someN l ≤ 8 → cntD (depthRun l).1 7 = someN l) := by
  have h := miss_curve 8 (by omega) l
  have h' : cntD (depthRun l).1 7 = missN (lruRun 8 l).1 := h.symm
  rw [h']
  exact ⟨lru_miss_le 8 (by omega) l, fun h => lru_miss_eq 8 (by omega) l h⟩
end Go.Proofs.Ythppmdoomcpbkaa
