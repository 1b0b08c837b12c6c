/- Plain laws of how deep pages lie, and how often they are not there, by slots; no program in sight. -/
import Derived.Test.YtcobmiodgfonaaaDoorLruPlain
import Derived.Test.YtcobmiodgfonaaaDoorStores
namespace Go.Proofs.YtcobmiodgfonaaaDoor
/-- How deep each page lies; and the pile. -/
def depthStep (st : List Int × List Int) (p : Int) : List Int × List Int := (st.1 ++ [ixI st.2 p + 1], p :: st.2.erase p)
def depthRun (l : List Int) : List Int × List Int := l.foldl depthStep ([], [])
theorem depthRun_snoc (l : List Int) (y : Int) : depthRun (l ++ [y]) = depthStep (depthRun l) y := by unfold depthRun; rw [List.foldl_append]; rfl
theorem depth_pile (l : List Int) : (depthRun l).2 = recL l := by
  induction l using list_snoc_ind with
  | h0 => rfl
  | h1 l y ih => rw [depthRun_snoc, recL_snoc, ← ih]; rfl
theorem depth_len (l : List Int) : (depthRun l).1.length = l.length := by
  induction l using list_snoc_ind with
  | h0 => rfl
  | h1 l y ih => rw [depthRun_snoc]; simp [depthStep, ih]
theorem depth_at (l : List Int) : ∀ k y, l[k]? = some y → (depthRun l).1[k]? = some (ixI (recL (l.take k)) y + 1) := by
  induction l using list_snoc_ind with
  | h0 => intro k y hk; simp at hk
  | h1 l z ih =>
    intro k y hk
    rw [depthRun_snoc]
    show ((depthRun l).1 ++ [ixI (depthRun l).2 z + 1])[k]? = _
    by_cases hl : k < l.length
    · rw [List.getElem?_append_left hl] at hk
      rw [List.getElem?_append_left (by rw [depth_len]; exact hl), List.take_append_of_le_length (by omega)]
      exact ih k y hk
    · have hk2 : k = l.length := by have := (List.getElem?_eq_some_iff.1 hk).1; simp at this; omega
      subst hk2
      simp at hk
      subst hk
      rw [List.getElem?_append_right (by rw [depth_len]; omega), depth_len, depth_pile]
      simp
theorem depth_take_succ {l : List Int} {k : Nat} {y : Int} (h : l[k]? = some y) : depthRun (l.take (k + 1)) = depthStep (depthRun (l.take k)) y := by rw [take_succ_of h, depthRun_snoc]
theorem ixI_bd (l : List Int) (x : Int) : -1 ≤ ixI l x ∧ ixI l x < l.length := by
  unfold ixI
  split
  · rename_i h; have := List.idxOf_lt_length_iff.2 h; omega
  · omega
theorem recL_le (l : List Int) : (recL l).length ≤ l.length := by
  induction l using list_snoc_ind with
  | h0 => simp [recL]
  | h1 l y ih => rw [recL_snoc, List.length_cons, List.length_append]; have := List.length_erase_le (a := y) (l := recL l); simp; omega
theorem depth_bd (l : List Int) : ∀ d ∈ (depthRun l).1, 0 ≤ d ∧ d ≤ l.length := by
  intro d hd
  obtain ⟨k, hk⟩ := List.mem_iff_getElem?.1 hd
  have hkl : k < l.length := by have := (List.getElem?_eq_some_iff.1 hk).1; rwa [depth_len] at this
  have hy := List.getElem?_eq_getElem hkl
  rw [depth_at l k _ hy] at hk
  injection hk with hk
  have h1 := ixI_bd (recL (l.take k)) l[k]
  have h2 := recL_le (l.take k)
  rw [List.length_take] at h2
  omega

/-- Is a page that lies so deep not there, by k + 1 slots? -/
def deepB (k : Nat) (d : Int) : Bool := decide (d = 0 ∨ (k : Int) + 1 < d)
/-- How many are not there, by k + 1 slots. -/
def cntD (ds : List Int) (k : Nat) : Nat := (ds.filter (deepB k)).length
theorem cntD_succ {ds : List Int} {j : Nat} {d : Int} (k : Nat) (h : ds[j]? = some d) : cntD (ds.take (j + 1)) k = cntD (ds.take j) k + if d = 0 ∨ (k : Int) + 1 < d then 1 else 0 := by
  unfold cntD
  rw [List.take_add_one, h, List.filter_append, List.length_append]
  congr 1
  by_cases hd : d = 0 ∨ (k : Int) + 1 < d <;> simp [List.filter_cons, deepB, hd]
theorem cntD_le (ds : List Int) (k : Nat) : cntD ds k ≤ ds.length := List.length_filter_le _ _
/-- The curve: by 1 to 8 slots. -/
def curveL (ds : List Int) : List Int := (List.range 8).map fun k => ((cntD ds k : Nat) : Int)
theorem curve_at (ds : List Int) (k : Nat) (h : k < 8) : (curveL ds)[k]? = some ((cntD ds k : Nat) : Int) := by
  unfold curveL; rw [List.getElem?_map, List.getElem?_range h]; rfl
/-- In the middle of a round: the first t numbers are those behind it. -/
def midL (ds : List Int) (d : Int) (t : Nat) : List Int := (List.range 8).map fun k => ((cntD ds k + (if k < t ∧ (d = 0 ∨ (k : Int) + 1 < d) then 1 else 0) : Nat) : Int)
theorem mid_len (ds : List Int) (d : Int) (t : Nat) : (midL ds d t).length = 8 := by simp [midL]
theorem mid_zero (ds : List Int) (d : Int) : midL ds d 0 = curveL ds := by
  unfold midL curveL
  apply List.map_congr_left
  intro k _
  simp
theorem mid_eight {ds : List Int} {j : Nat} {d : Int} (h : ds[j]? = some d) : midL (ds.take j) d 8 = curveL (ds.take (j + 1)) := by
  unfold midL curveL
  apply List.map_congr_left
  intro k hk
  have hk8 : k < 8 := List.mem_range.1 hk
  rw [cntD_succ k h]
  by_cases hd : d = 0 ∨ (k : Int) + 1 < d <;> simp [hk8, hd]
theorem mid_at (ds : List Int) (d : Int) (t k : Nat) (h : k < 8) : (midL ds d t)[k]? = some (((cntD ds k + (if k < t ∧ (d = 0 ∨ (k : Int) + 1 < d) then 1 else 0) : Nat) : Int)) := by
  unfold midL; rw [List.getElem?_map, List.getElem?_range h]; rfl
theorem mid_self (ds : List Int) (d : Int) (t : Nat) (h : t < 8) : (midL ds d t)[t]? = some ((cntD ds t : Nat) : Int) := by
  rw [mid_at ds d t t h]; simp
theorem mid_yes (ds : List Int) (d : Int) (t : Nat) (h : t < 8) (hd : d = 0 ∨ (t : Int) + 1 < d) : midL ds d (t + 1) = (midL ds d t).set t (((cntD ds t : Nat) : Int) + 1) := by
  apply List.ext_getElem?
  intro k
  rw [List.getElem?_set, mid_len]
  by_cases hk : k < 8
  · rw [mid_at ds d (t + 1) k hk]
    by_cases htk : t = k
    · subst htk; simp [h, hd]
    · rw [if_neg htk, mid_at ds d t k hk]
      have : (k < t + 1) ↔ (k < t) := by omega
      simp [this]
  · have h1 : (midL ds d (t + 1))[k]? = none := List.getElem?_eq_none (by rw [mid_len]; omega)
    have h2 : (midL ds d t)[k]? = none := List.getElem?_eq_none (by rw [mid_len]; omega)
    rw [h1, h2, if_neg (by omega)]
theorem mid_no (ds : List Int) (d : Int) (t : Nat) (hd : ¬ (d = 0 ∨ (t : Int) + 1 < d)) : midL ds d (t + 1) = midL ds d t := by
  unfold midL
  apply List.map_congr_left
  intro k _
  by_cases htk : t = k
  · subst htk; simp [hd]
  · have : (k < t + 1) ↔ (k < t) := by omega
    simp [this]
theorem curve_nil : curveL [] = [0, 0, 0, 0, 0, 0, 0, 0] := by decide
end Go.Proofs.YtcobmiodgfonaaaDoor
