/- Plain law: who flushes has nothing more than who goes by what was asked for; no program in sight. -/
import Derived.Test.YtgljpdfmejganaaPhasePlain
import Derived.Test.YtgljpdfmejganaaLruPlain
namespace Go.Proofs.Ytgljpdfmejganaa
theorem take_erase_not {l : List Int} {p : Int} {m : Nat} (h : p ∉ l.take m) : (l.erase p).take m = l.take m := by
  by_cases hm : p ∈ l
  · obtain ⟨a, b, e, ha⟩ := split_at hm
    subst e
    by_cases hl : a.length < m
    · exfalso
      apply h
      rw [List.take_append, show m - a.length = (m - a.length - 1) + 1 by omega]
      simp
    · rw [erase_split ha, List.take_append_of_le_length (by omega), List.take_append_of_le_length (by omega)]
  · rw [List.erase_of_not_mem hm]
/-- The pages of a phase are those that were asked for last. -/
theorem phSet_rec (s : Nat) (hs : 1 ≤ s) (l : List Int) : ∀ x, x ∈ phSet s l ↔ x ∈ (recL l).take (phSet s l).length := by
  induction l using list_snoc_ind with
  | h0 => intro x; simp [phSet, recL]
  | h1 l y ih =>
    intro x
    rw [phSet_snoc, recL_snoc]
    unfold flushG
    by_cases hm : y ∈ phSet s l
    · rw [if_pos hm]
      have hpos : 0 < (phSet s l).length := List.length_pos_of_mem hm
      obtain ⟨m, hmm⟩ : ∃ m, (phSet s l).length = m + 1 := ⟨_, (Nat.succ_pred_eq_of_pos hpos).symm⟩
      rw [hmm] at ih ⊢
      have hy := (ih y).1 hm
      rw [List.take_succ_cons, ← erase_take_succ hy, List.mem_cons, List.Nodup.mem_erase_iff (List.Nodup.sublist (List.take_sublist _ _) (recL_nodup l)), ← ih]
      by_cases hxy : x = y
      · subst hxy; simp [hm]
      · simp [hxy]
    · rw [if_neg hm]
      by_cases hf : (phSet s l).length = s
      · rw [if_pos hf]; simp
      · rw [if_neg hf, List.length_append, List.length_singleton, List.take_succ_cons, take_erase_not (fun h => hm ((ih y).2 h)), List.mem_append, List.mem_singleton, List.mem_cons, ← ih, or_comm]
theorem phSet_in_lru (s : Nat) (hs : 1 ≤ s) (l : List Int) (x : Int) (h : x ∈ phSet s l) : x ∈ (recL l).take s := by
  have h1 := (phSet_rec s hs l x).1 h
  have h2 := phSet_le s hs l
  have : (recL l).take (phSet s l).length = ((recL l).take s).take (phSet s l).length := by rw [List.take_take, Nat.min_eq_left h2]
  rw [this] at h1
  exact List.mem_of_mem_take h1
theorem flush_lru_held (s : Nat) (hs : 1 ≤ s) (l : List Int) (x : Int) (h : x ∈ (flushRun s l).2) : x ∈ (lruRun s l).2 := by
  obtain ⟨t, rfl⟩ : ∃ t, s = t + 1 := ⟨s - 1, by omega⟩
  rw [lru_snd]
  rw [flush_snd] at h
  exact phSet_in_lru (t + 1) hs l x h
theorem flush_lru_at (s : Nat) (hs : 1 ≤ s) (l : List Int) (k : Nat) (h : (flushRun s l).1[k]? = some true) : (lruRun s l).1[k]? = some true := by
  have hk : k < l.length := by have := (List.getElem?_eq_some_iff.1 h).1; rwa [flush_len] at this
  have hy := List.getElem?_eq_getElem hk
  obtain ⟨t, rfl⟩ : ∃ t, s = t + 1 := ⟨s - 1, by omega⟩
  rw [flush_at _ l k _ hy] at h
  rw [lru_at t l k _ hy]
  injection h with h
  rw [(hasB_iff _ _).2 (phSet_in_lru (t + 1) hs (l.take k) _ ((hasB_iff _ _).1 h))]
end Go.Proofs.Ytgljpdfmejganaa
