/- Plain words on larderwickref1.Near and .Double: how servers go, in the words of ServeRun; no program in sight. -/
import Derived.Test.YtmeamgeojcbljaaDoorServeLaws
namespace Go.Proofs.YtmeamgeojcbljaaDoor

theorem set_perm {x : Int} : ∀ {q : List Int} {i : Nat}, i < q.length → (q.set i x).Perm (q.erase (q.getD i 0) ++ [x]) := by
  intro q
  induction q with
  | nil => intro i hi; simp at hi
  | cons y t ih =>
    intro i hi
    cases i with
    | zero =>
      show (x :: t).Perm ((y :: t).erase y ++ [x])
      rw [List.erase_cons_head]
      exact (List.perm_append_singleton x t).symm
    | succ i =>
      have hi' : i < t.length := by simpa using hi
      have h1 := ih hi'
      show (y :: t.set i x).Perm ((y :: t).erase (t.getD i 0) ++ [x])
      have hm : t.getD i 0 ∈ t := by rw [List.getD_eq_getElem?_getD, List.getElem?_eq_getElem hi']; exact List.getElem_mem hi'
      generalize t.getD i 0 = g at *
      by_cases e : y = g
      · subst e
        rw [List.erase_cons_head]
        exact (h1.cons y).trans ((List.perm_cons_erase hm).symm.append_right [x])
      · rw [List.erase_cons_tail (by simpa using e)]
        exact h1.cons y
theorem near_sort {q : List Int} (hq : q ≠ []) (x : Int) : sortI (q.erase (q.getD (bestI q x q.length) 0) ++ [x]) = sortI (nstep q x).2 :=
  (sortI_eq (set_perm (bestI_lt q x hq _ (Nat.le_refl _)))).symm
theorem getD_at {q : List Int} {i : Nat} {y : Int} (h : q[i]? = some y) : q.getD i 0 = y := by rw [List.getD_eq_getElem?_getD, h]; rfl
/-- The nearest from the left so far; below 0: none. -/
def LeftK (q : List Int) (x : Int) (k : Nat) (l : Int) : Prop := (l = -1 ∧ ∀ y ∈ q.take k, ¬ y ≤ x) ∨ (0 ≤ l ∧ l ∈ q.take k ∧ l ≤ x ∧ ∀ y ∈ q.take k, y ≤ x → y ≤ l)
def RightK (q : List Int) (x : Int) (k : Nat) (l : Int) : Prop := (l = -1 ∧ ∀ y ∈ q.take k, ¬ x ≤ y) ∨ (0 ≤ l ∧ l ∈ q.take k ∧ x ≤ l ∧ ∀ y ∈ q.take k, x ≤ y → l ≤ y)
theorem left_yes {q : List Int} {x l y : Int} {k : Nat} (h : LeftK q x k l) (hy : q[k]? = some y) (hy0 : 0 ≤ y) (h1 : y ≤ x) (h2 : l < 0 ∨ l < y) : LeftK q x (k + 1) y := by
  right
  rw [take_succ_of hy]
  refine ⟨hy0, by simp, h1, fun z hz hzx => ?_⟩
  rw [List.mem_append, List.mem_singleton] at hz
  rcases hz with hz | rfl
  · rcases h with ⟨_, h⟩ | ⟨h3, _, _, h⟩
    · exact absurd hzx (h z hz)
    · have := h z hz hzx; omega
  · exact Int.le_refl _
theorem left_no {q : List Int} {x l y : Int} {k : Nat} (h : LeftK q x k l) (hy : q[k]? = some y) (h1 : ¬ (y ≤ x ∧ (l < 0 ∨ l < y))) : LeftK q x (k + 1) l := by
  unfold LeftK at *
  rw [take_succ_of hy]
  rcases h with ⟨rfl, h⟩ | ⟨h2, h3, h4, h⟩
  · refine .inl ⟨rfl, fun z hz hzx => ?_⟩
    rw [List.mem_append, List.mem_singleton] at hz
    rcases hz with hz | rfl
    · exact h z hz hzx
    · exact h1 ⟨hzx, .inl (by omega)⟩
  · refine .inr ⟨h2, by simp [h3], h4, fun z hz hzx => ?_⟩
    rw [List.mem_append, List.mem_singleton] at hz
    rcases hz with hz | rfl
    · exact h z hz hzx
    · rcases Int.lt_or_le l z with hh | hh
      · exact absurd ⟨hzx, .inr hh⟩ h1
      · exact hh
theorem right_yes {q : List Int} {x l y : Int} {k : Nat} (h : RightK q x k l) (hy : q[k]? = some y) (hy0 : 0 ≤ y) (h1 : x ≤ y) (h2 : l < 0 ∨ y < l) : RightK q x (k + 1) y := by
  right
  rw [take_succ_of hy]
  refine ⟨hy0, by simp, h1, fun z hz hzx => ?_⟩
  rw [List.mem_append, List.mem_singleton] at hz
  rcases hz with hz | rfl
  · rcases h with ⟨_, h⟩ | ⟨h3, _, _, h⟩
    · exact absurd hzx (h z hz)
    · have := h z hz hzx; omega
  · exact Int.le_refl _
theorem right_no {q : List Int} {x l y : Int} {k : Nat} (h : RightK q x k l) (hy : q[k]? = some y) (h1 : ¬ (x ≤ y ∧ (l < 0 ∨ y < l))) : RightK q x (k + 1) l := by
  unfold RightK at *
  rw [take_succ_of hy]
  rcases h with ⟨rfl, h⟩ | ⟨h2, h3, h4, h⟩
  · refine .inl ⟨rfl, fun z hz hzx => ?_⟩
    rw [List.mem_append, List.mem_singleton] at hz
    rcases hz with hz | rfl
    · exact h z hz hzx
    · exact h1 ⟨hzx, .inl (by omega)⟩
  · refine .inr ⟨h2, by simp [h3], h4, fun z hz hzx => ?_⟩
    rw [List.mem_append, List.mem_singleton] at hz
    rcases hz with hz | rfl
    · exact h z hz hzx
    · rcases Int.lt_or_le z l with hh | hh
      · exact absurd ⟨hzx, .inr hh⟩ h1
      · exact hh
theorem sorted_getD {q : List Int} (hs : q.Pairwise (· ≤ ·)) {i j : Nat} (hij : i ≤ j) (hj : j < q.length) : q.getD i 0 ≤ q.getD j 0 := by
  rw [List.getD_eq_getElem?_getD, List.getD_eq_getElem?_getD, List.getElem?_eq_getElem hj, List.getElem?_eq_getElem (show i < q.length by omega)]
  show q[i] ≤ q[j]
  rcases Nat.lt_or_ge i j with h | h
  · exact List.pairwise_iff_getElem.1 hs i j (by omega) hj h
  · obtain rfl : i = j := by omega
    exact Int.le_refl _
theorem getD_memK {q : List Int} {i : Nat} (hi : i < q.length) : q.getD i 0 ∈ q := by
  rw [List.getD_eq_getElem?_getD, List.getElem?_eq_getElem hi]; exact List.getElem_mem hi
theorem mem_getDK {q : List Int} {y : Int} (h : y ∈ q) : ∃ i, i < q.length ∧ q.getD i 0 = y := by
  obtain ⟨i, hi, rfl⟩ := List.getElem_of_mem h
  exact ⟨i, hi, by rw [List.getD_eq_getElem?_getD, List.getElem?_eq_getElem hi]; rfl⟩
theorem right_end {q : List Int} {x r : Int} (hs : q.Pairwise (· ≤ ·)) (h : RightK q x q.length r) : (rightI q x < q.length ∧ r = q.getD (rightI q x) 0 ∧ 0 ≤ r) ∨ (rightI q x = q.length ∧ r = -1) := by
  unfold RightK at h
  rw [List.take_length] at h
  by_cases hr : rightI q x < q.length
  · left
    have h1 := rightI_ge hr
    rcases h with ⟨_, h⟩ | ⟨h0, hm, hx, h⟩
    · exact absurd h1 (h _ (getD_memK hr))
    · have h2 := h _ (getD_memK hr) h1
      obtain ⟨i, hi, rfl⟩ := mem_getDK hm
      have : rightI q x ≤ i := by
        rcases Nat.lt_or_ge i (rightI q x) with hh | hh
        · have := rightI_lt hh; omega
        · exact hh
      have := sorted_getD hs this hi
      exact ⟨hr, by omega, h0⟩
  · right
    have := rightI_le q x
    refine ⟨by omega, ?_⟩
    rcases h with ⟨h, _⟩ | ⟨h0, hm, hx, _⟩
    · exact h
    · obtain ⟨i, hi, rfl⟩ := mem_getDK hm
      have := rightI_lt (s := q) (x := x) (i := i) (by omega)
      omega
theorem left_end {q : List Int} {x l : Int} (hs : q.Pairwise (· ≤ ·)) (h : LeftK q x q.length l) :
    (rightI q x < q.length ∧ q.getD (rightI q x) 0 = x ∧ l = x ∧ 0 ≤ l) ∨ ((rightI q x < q.length → q.getD (rightI q x) 0 ≠ x) ∧ ((rightI q x = 0 ∧ l = -1) ∨ (0 < rightI q x ∧ l = q.getD (rightI q x - 1) 0 ∧ 0 ≤ l ∧ l < x))) := by
  unfold LeftK at h
  rw [List.take_length] at h
  by_cases hr : rightI q x < q.length ∧ q.getD (rightI q x) 0 = x
  · left
    have hm := getD_memK hr.1
    rw [hr.2] at hm
    rcases h with ⟨_, h⟩ | ⟨h0, _, hx, h⟩
    · exact absurd (Int.le_refl _) (h x hm)
    · have := h x hm (Int.le_refl _)
      exact ⟨hr.1, hr.2, by omega, h0⟩
  · right
    refine ⟨fun h1 h2 => hr ⟨h1, h2⟩, ?_⟩
    have hle := rightI_le q x
    have key : ∀ i, i < q.length → q.getD i 0 ≤ x → i < rightI q x := fun i hi hx => by
      rcases Nat.lt_or_ge i (rightI q x) with hh | hh
      · exact hh
      · have h1 := rightI_ge (s := q) (x := x) (by omega)
        have h2 := sorted_getD hs hh hi
        exact absurd ⟨by omega, by omega⟩ hr
    by_cases h0 : rightI q x = 0
    · refine .inl ⟨h0, ?_⟩
      rcases h with ⟨h, _⟩ | ⟨_, hm, hx, _⟩
      · exact h
      · obtain ⟨i, hi, rfl⟩ := mem_getDK hm
        have := key i hi hx; omega
    · have hlt := rightI_lt (s := q) (x := x) (i := rightI q x - 1) (by omega)
      have hm1 := getD_memK (q := q) (i := rightI q x - 1) (by omega)
      refine .inr ⟨by omega, ?_⟩
      rcases h with ⟨_, h⟩ | ⟨hl0, hm, hx, h⟩
      · exact absurd (by omega) (h _ hm1)
      · have h3 := h _ hm1 (by omega)
        obtain ⟨i, hi, rfl⟩ := mem_getDK hm
        have h4 := key i hi hx
        have := sorted_getD hs (show i ≤ rightI q x - 1 by omega) (by omega)
        exact ⟨by omega, hl0, by omega⟩
theorem sortI_self {q : List Int} (h : q.Pairwise (· ≤ ·)) : sortI q = q := sortI_of (List.Perm.refl _) h
/-- One alone goes. -/
theorem double_one {q : List Int} {x l r : Int} (hq : q ≠ []) (hs : q.Pairwise (· ≤ ·)) (hl : LeftK q x q.length l) (hr : RightK q x q.length r) (h : l < 0 ∨ r < 0) :
    (dstep q x).1 = absI (if l < 0 then r else l) x ∧ sortI (q.erase (if l < 0 then r else l) ++ [x]) = sortI (dstep q x).2 ∧ (if l < 0 then r else l) ∈ q := by
  have hn : 0 < q.length := List.length_pos_iff.2 hq
  rcases right_end hs hr with ⟨h1, h2, h3⟩ | ⟨h1, h2⟩
  · have hl0 : l < 0 := by omega
    rw [if_pos hl0]
    rcases left_end hs hl with ⟨_, _, _, h4⟩ | ⟨_, ⟨h4, _⟩ | ⟨_, _, h4, _⟩⟩
    · omega
    · have e : dstep q x = (absI (q.getD (rightI q x) 0) x, q.set (rightI q x) x) := by
        unfold dstep; rw [if_neg (by omega), if_pos (.inl h4)]
      rw [e, h2]
      exact ⟨rfl, (sortI_eq (set_perm h1)).symm, getD_memK h1⟩
    · omega
  · rcases left_end hs hl with ⟨h4, _⟩ | ⟨_, ⟨h4, _⟩ | ⟨h4, h5, h6, _⟩⟩
    · omega
    · omega
    · rw [if_neg (by omega)]
      have e : dstep q x = (absI (q.getD (q.length - 1) 0) x, q.set (q.length - 1) x) := by
        unfold dstep; rw [if_pos h1]
      rw [e, h5, h1]
      exact ⟨rfl, (sortI_eq (set_perm (by omega))).symm, getD_memK (by omega)⟩
/-- None goes. -/
theorem double_none {q : List Int} {x l r : Int} (hs : q.Pairwise (· ≤ ·)) (hl : LeftK q x q.length l) (hr : RightK q x q.length r) (h : 0 ≤ l ∧ 0 ≤ r) (hx : ¬ l < x) : (dstep q x).1 = 0 ∧ sortI (dstep q x).2 = q := by
  rcases right_end hs hr with ⟨h1, h2, h3⟩ | ⟨h1, h2⟩
  · rcases left_end hs hl with ⟨_, h5, _, h4⟩ | ⟨_, ⟨h4, _⟩ | ⟨_, _, h4, _⟩⟩
    · have e : dstep q x = (absI (q.getD (rightI q x) 0) x, q.set (rightI q x) x) := by
        unfold dstep; rw [if_neg (by omega), if_pos (.inr h5)]
      rw [e]
      refine ⟨by show absI _ _ = 0; rw [h5]; exact absI_self x, ?_⟩
      show sortI (q.set (rightI q x) x) = q
      have : q.set (rightI q x) x = q := by
        apply List.ext_getElem?
        intro i
        rw [List.getElem?_set]
        split
        · rename_i hh; subst hh
          rw [List.getElem?_eq_getElem h1]
          rw [List.getD_eq_getElem?_getD, List.getElem?_eq_getElem h1] at h5
          exact congrArg some h5.symm
        · rfl
      rw [this]; exact sortI_self hs
    · omega
    · omega
  · omega
/-- Two go. -/
theorem double_two {q : List Int} {x l r : Int} (hs : q.Pairwise (· ≤ ·)) (hl : LeftK q x q.length l) (hr : RightK q x q.length r) (h : 0 ≤ l ∧ 0 ≤ r) (hx : l < x) :
    (dstep q x).1 = 2 * min (x - l) (r - x) ∧ sortI ((q.erase l).erase r ++ [l + min (x - l) (r - x), r - min (x - l) (r - x)]) = sortI (dstep q x).2 ∧ l ∈ q ∧ r ∈ q ∧ x < r := by
  rcases right_end hs hr with ⟨h1, h2, h3⟩ | ⟨h1, h2⟩
  · rcases left_end hs hl with ⟨_, _, h5, _⟩ | ⟨h6, ⟨h4, h5⟩ | ⟨h4, h5, h7, _⟩⟩
    · omega
    · omega
    · have h8 := h6 h1
      have h9 := rightI_ge h1
      have hmd : midD q x = min (x - l) (r - x) := by unfold midD; rw [← h2, ← h5]
      have e : dstep q x = (2 * midD q x, (q.set (rightI q x - 1) (q.getD (rightI q x - 1) 0 + midD q x)).set (rightI q x) (q.getD (rightI q x) 0 - midD q x)) := by
        unfold dstep; rw [if_neg (by omega), if_neg (by rintro (h | h); omega; exact h8 h)]
      rw [e, hmd, ← h2, ← h5]
      have hmr : r ∈ q := by rw [h2]; exact getD_memK h1
      have hml : l ∈ q := by rw [h5]; exact getD_memK (by omega)
      refine ⟨rfl, ?_, hml, hmr, by omega⟩
      generalize min (x - l) (r - x) = d
      show _ = sortI ((q.set (rightI q x - 1) (l + d)).set (rightI q x) (r - d))
      refine (sortI_eq ?_).symm
      have p1 := set_perm (x := l + d) (q := q) (i := rightI q x - 1) (by omega)
      have p2 := set_perm (x := r - d) (q := q.set (rightI q x - 1) (l + d)) (i := rightI q x) (by rw [List.length_set]; exact h1)
      rw [← h5] at p1
      have hg : (q.set (rightI q x - 1) (l + d)).getD (rightI q x) 0 = r := by
        rw [List.getD_eq_getElem?_getD, List.getElem?_set_ne (by omega), ← List.getD_eq_getElem?_getD, h2]
      rw [hg] at p2
      refine p2.trans ?_
      have p3 := (p1.erase r).append_right [r - d]
      have hm2 : r ∈ q.erase l := (List.mem_erase_of_ne (by omega)).2 hmr
      rw [List.erase_append_left _ hm2, List.append_assoc] at p3
      exact p3
  · omega
end Go.Proofs.YtmeamgeojcbljaaDoor
