/- Plain laws of windows; no program in sight. -/
import Derived.Test.YtmeamgeojcbljaaDoorMask
namespace Go.Proofs.YtmeamgeojcbljaaDoor
/-- The last v of a list. -/
def lastW (l : List Int) (v : Nat) : List Int := l.drop (l.length - v)
theorem lastW_mem {l : List Int} {v : Nat} {x : Int} (h : x ∈ lastW l v) : x ∈ l := List.mem_of_mem_drop h
theorem mask_some (l : List Int) (h : AllIn l 0 15) : pc 16 (mask l) = someN l := by
  induction l using list_snoc_ind with
  | h0 => decide
  | h1 l y ih =>
    have h2 := h y (by simp)
    rw [mask_snoc, mask_with l (fun x hx => h x (by simp [hx])) y h2.1 h2.2, ih (fun x hx => h x (by simp [hx])), someN_snoc]
/-- The sets behind each of the first k requests. -/
def setsL (l : List Int) (v k : Nat) : List Int := (List.range k).map fun i => ((mask (lastW (l.take (i + 1)) v) : Nat) : Int)
theorem setsL_succ (l : List Int) (v k : Nat) : setsL l v (k + 1) = setsL l v k ++ [((mask (lastW (l.take (k + 1)) v) : Nat) : Int)] := by
  unfold setsL; rw [List.range_succ, List.map_append]; rfl
theorem setsL_len (l : List Int) (v k : Nat) : (setsL l v k).length = k := by simp [setsL]
/-- How many of the first k requests' pages are not in the set ahead of them. -/
def missW (l : List Int) (v : Nat) : Nat → Nat
  | 0 => 0
  | k + 1 => missW l v k + if hasB (lastW (l.take k) v) (l.getD k 0) then 0 else 1
/-- How many pages the first k sets have together. -/
def sumW (l : List Int) (v : Nat) : Nat → Nat
  | 0 => 0
  | k + 1 => sumW l v k + someN (lastW (l.take (k + 1)) v)
theorem missW_le (l : List Int) (v k : Nat) : missW l v k ≤ k := by
  induction k with
  | zero => simp [missW]
  | succ k ih => unfold missW; split <;> omega
theorem sumW_le (l : List Int) (v k : Nat) : sumW l v k ≤ k * l.length := by
  induction k with
  | zero => simp [sumW]
  | succ k ih =>
    unfold sumW
    have h1 := someN_le (lastW (l.take (k + 1)) v)
    have h2 : (lastW (l.take (k + 1)) v).length ≤ l.length := by unfold lastW; simp; omega
    rw [Nat.succ_mul]; omega
theorem bit_and (m p : Nat) : (m / 2 ^ p) &&& 1 = if m.testBit p then 1 else 0 := by
  rw [Nat.and_one_is_mod, Nat.testBit_eq_decide_div_mod_eq]
  have : m / 2 ^ p % 2 = 0 ∨ m / 2 ^ p % 2 = 1 := by omega
  rcases this with h | h <;> simp [h]
end Go.Proofs.YtmeamgeojcbljaaDoor
