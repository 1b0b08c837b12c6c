/- Plain laws of windows: what one more sees is what was missed; no program in sight. -/
import Derived.Test.YtjonbbmgjiegcaaWsetMore
namespace Go.Proofs.Ytjonbbmgjiegcaa

theorem lastW_more (l : List Int) (v : Nat) (h : l.length ≤ v) : lastW l v = l := by unfold lastW; rw [show l.length - v = 0 by omega]; rfl
theorem lastW_snoc (l : List Int) (y : Int) (v : Nat) : lastW (l ++ [y]) (v + 1) = lastW l v ++ [y] := by
  unfold lastW
  rw [List.length_append, List.length_singleton, show l.length + 1 - (v + 1) = l.length - v by omega, List.drop_append_of_le_length (by omega)]
theorem sumW_succ (l : List Int) (v k : Nat) : sumW l v (k + 1) = sumW l v k + someN (lastW (l.take (k + 1)) v) := rfl
theorem missW_succ' (l : List Int) (v k : Nat) (y : Int) (h : l[k]? = some y) : missW l v (k + 1) = missW l v k + if y ∈ lastW (l.take k) v then 0 else 1 := by
  show missW l v k + (if hasB (lastW (l.take k) v) (l.getD k 0) then 0 else 1) = _
  rw [show l.getD k 0 = y by rw [List.getD_eq_getElem?_getD, h]; rfl]
  by_cases hm : y ∈ lastW (l.take k) v
  · rw [(hasB_iff _ _).2 hm, if_pos hm]; rfl
  · rw [(hasB_false _ _).2 hm, if_neg hm]; rfl
/-- The sums by v + 1 are those by v, and what was missed by v, less the last set: told without a difference. -/
theorem slope (l : List Int) (v : Nat) : ∀ k, k ≤ l.length → sumW l (v + 1) k + someN (lastW (l.take k) v) = sumW l v k + missW l v k := by
  intro k
  induction k with
  | zero => intro _; simp [sumW, missW, lastW, someN, dd]
  | succ k ih =>
    intro hk
    have hy := List.getElem?_eq_getElem (show k < l.length by omega)
    have h1 := ih (by omega)
    rw [sumW_succ, sumW_succ, missW_succ' l v k _ hy]
    have h2 : lastW (l.take (k + 1)) (v + 1) = lastW (l.take k) v ++ [l[k]] := by rw [take_succ_of hy, lastW_snoc]
    rw [h2, someN_snoc]
    omega
theorem pc_zero : ∀ n, pc n 0 = 0
  | 0 => rfl
  | n + 1 => by unfold pc; rw [Nat.zero_mod, Nat.zero_div, pc_zero n]
end Go.Proofs.Ytjonbbmgjiegcaa
