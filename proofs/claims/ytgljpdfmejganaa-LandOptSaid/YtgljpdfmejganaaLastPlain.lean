/- Plain law: the pages of a store that goes by what was asked for are the last unlike ones; no program in sight. -/
import Derived.Test.YtgljpdfmejganaaLruPlain
import Derived.Test.YtgljpdfmejganaaStores
namespace Go.Proofs.Ytgljpdfmejganaa
theorem dd_cons (y : Int) (m : List Int) : dd (y :: m) = y :: (dd m).erase y := by
  induction m using list_snoc_ind with
  | h0 => simp [dd]
  | h1 m z ih =>
    rw [← List.cons_append, dd_snoc, ih, dd_snoc]
    by_cases hz : z ∈ dd m
    · rw [if_pos hz]
      by_cases hzy : z = y
      · subst hzy; simp
      · have : z ∈ y :: (dd m).erase y := List.mem_cons_of_mem _ ((List.Nodup.mem_erase_iff (dd_nodup m)).2 ⟨hzy, hz⟩)
        rw [if_pos this]
    · rw [if_neg hz]
      by_cases hzy : z = y
      · subst hzy
        rw [if_pos (by simp), List.erase_append_right _ hz]
        simp [List.erase_of_not_mem hz]
      · have : ¬ z ∈ y :: (dd m).erase y := by
          rw [List.mem_cons]
          rintro (h | h)
          · exact hzy h
          · exact hz (List.mem_of_mem_erase h)
        rw [if_neg this, List.cons_append]
        congr 1
        by_cases hy : y ∈ dd m
        · rw [List.erase_append_left _ hy]
        · rw [List.erase_of_not_mem hy, List.erase_of_not_mem (by rw [List.mem_append, List.mem_singleton]; rintro (h | h); exact hy h; exact hzy h.symm)]
theorem recL_dd (l : List Int) : recL l = dd l.reverse := by
  induction l using list_snoc_ind with
  | h0 => simp [recL, dd]
  | h1 l y ih => rw [recL_snoc, List.reverse_append, ih]; exact (dd_cons y _).symm
theorem dd_prefix (a b : List Int) : ∃ r, dd (a ++ b) = dd a ++ r := by
  induction b using list_snoc_ind with
  | h0 => exact ⟨[], by simp⟩
  | h1 b z ih =>
    obtain ⟨r, e⟩ := ih
    rw [← List.append_assoc, dd_snoc]
    split
    · exact ⟨r, e⟩
    · exact ⟨r ++ [z], by rw [e, List.append_assoc]⟩
/-- A page that is not among the first ones is the next one. -/
theorem last_next {l : List Int} {i b : Nat} (hb : b + 1 ≤ l.length) (h : dd (l.reverse.take (l.length - (b + 1))) = (recL l).take i) {x : Int} (hx : l[b]? = some x) :
    (x ∈ (recL l).take i → dd (l.reverse.take (l.length - b)) = (recL l).take i) ∧ (x ∉ (recL l).take i → (recL l)[i]? = some x ∧ dd (l.reverse.take (l.length - b)) = (recL l).take (i + 1)) := by
  have hr : l.reverse[l.length - (b + 1)]? = some x := by
    rw [List.getElem?_reverse (by omega), show l.length - 1 - (l.length - (b + 1)) = b by omega]; exact hx
  have e : l.reverse.take (l.length - b) = l.reverse.take (l.length - (b + 1)) ++ [x] := by
    rw [show l.length - b = l.length - (b + 1) + 1 by omega]
    exact take_succ_of hr
  rw [e, dd_snoc, h]
  refine ⟨fun hm => by rw [if_pos hm], fun hm => ?_⟩
  rw [if_neg hm]
  have hlen : i ≤ (recL l).length := by
    by_cases h : i ≤ (recL l).length
    · exact h
    · exfalso
      apply hm
      rw [List.take_of_length_le (by omega), mem_recL]
      exact mem_of_at hx
  obtain ⟨r, hp⟩ := dd_prefix (l.reverse.take (l.length - b)) (l.reverse.drop (l.length - b))
  rw [List.take_append_drop, ← recL_dd, e, dd_snoc, h, if_neg hm] at hp
  have hi : (recL l)[i]? = some x := by
    rw [hp, List.append_assoc, List.getElem?_append_right (by rw [List.length_take]; omega), List.length_take, Nat.min_eq_left hlen]; simp
  exact ⟨hi, (take_succ_of hi).symm⟩
theorem last_none {l : List Int} {i : Nat} (h : dd (l.reverse.take (l.length - 0)) = (recL l).take i) (hi : i < (recL l).length) : False := by
  rw [List.take_of_length_le (by simp), ← recL_dd] at h
  have := congrArg List.length h
  rw [List.length_take] at this
  omega
theorem recL_length (l : List Int) : (recL l).length = someN l := (someN_set (recL_nodup l) fun x => (mem_recL l x).symm).symm
theorem lru_held_len (s : Nat) (hs : 1 ≤ s) (l : List Int) : (lruRun s l).2 = (recL l).take s ∧ (lruRun s l).2.length = (if someN l < s then someN l else s) ∧ someN (lruRun s l).2 = (lruRun s l).2.length := by
  obtain ⟨t, rfl⟩ : ∃ t, s = t + 1 := ⟨s - 1, by omega⟩
  have e := lru_snd t l
  refine ⟨e, ?_, ?_⟩
  · rw [e, List.length_take, recL_length]; split <;> omega
  · rw [e]; exact someN_set (List.Nodup.sublist (List.take_sublist _ _) (recL_nodup l)) (fun x => Iff.rfl)
theorem someN_take_le (l : List Int) (k : Nat) : someN (l.take k) ≤ someN l := by
  have key : ∀ (m : List Int) (a : List Int), someN a ≤ someN (a ++ m) := by
    intro m
    induction m using list_snoc_ind with
    | h0 => intro a; simp
    | h1 m y ih => intro a; rw [← List.append_assoc]; exact Nat.le_trans (ih a) (someN_mono _ y)
  have := key (l.drop k) (l.take k)
  rwa [List.take_append_drop] at this
theorem recL_len (l : List Int) : (recL l).length = someN l := (someN_set (recL_nodup l) fun x => (mem_recL l x).symm).symm
theorem lru_miss_le (s : Nat) (hs : 1 ≤ s) (l : List Int) : someN l ≤ missN (lruRun s l).1 := some_le_miss (lru_len s l) fun k y hy hb => by
  obtain ⟨t, rfl⟩ : ∃ t, s = t + 1 := ⟨s - 1, by omega⟩
  rw [lru_at t l k y hy] at hb
  injection hb with hb
  exact (mem_recL _ _).1 (List.mem_of_mem_take ((hasB_iff _ _).1 hb))
theorem lru_miss_eq (s : Nat) (hs : 1 ≤ s) (l : List Int) (h : someN l ≤ s) : missN (lruRun s l).1 = someN l := some_eq_miss (lru_len s l) fun k y hy => by
  obtain ⟨t, rfl⟩ : ∃ t, s = t + 1 := ⟨s - 1, by omega⟩
  rw [lru_at t l k y hy, List.take_of_length_le (by rw [recL_len]; exact Nat.le_trans (someN_take_le l k) h)]
  congr 1
  rw [Bool.eq_iff_iff, hasB_iff, hasB_iff, mem_recL]
end Go.Proofs.Ytgljpdfmejganaa
