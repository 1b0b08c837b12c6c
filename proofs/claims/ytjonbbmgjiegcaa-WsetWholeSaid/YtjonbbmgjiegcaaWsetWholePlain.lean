/- Plain laws of windows: one as wide as all; no program in sight. -/
import Derived.Test.YtjonbbmgjiegcaaWsetSlopePlain
namespace Go.Proofs.Ytjonbbmgjiegcaa
theorem missW_whole (l : List Int) (v : Nat) : ∀ k, k ≤ l.length → k ≤ v → missW l v k = someN (l.take k) := by
  intro k
  induction k with
  | zero => intro _ _; simp [someN, dd, missW]
  | succ k ih =>
    intro hk hv
    have hy := List.getElem?_eq_getElem (show k < l.length by omega)
    rw [missW_succ' l v k _ hy, ih (by omega) (by omega), someN_succ hy, lastW_more _ _ (by simp; omega)]
/-- The pages below p that a list has, rising. -/
def pagesTo (l : List Int) (p : Nat) : List Int := ((List.range p).filter fun i : Nat => hasB l (i : Int)).map Int.ofNat
theorem pagesTo_succ (l : List Int) (p : Nat) : pagesTo l (p + 1) = pagesTo l p ++ if hasB l (p : Int) then [(p : Int)] else [] := by
  unfold pagesTo
  rw [List.range_succ, List.filter_append, List.map_append]
  congr 1
  by_cases h : hasB l (p : Int)
  · simp [List.filter_cons, h]
  · simp [List.filter_cons, h]
theorem mem_pagesTo (l : List Int) (p : Nat) (x : Int) : x ∈ pagesTo l p ↔ 0 ≤ x ∧ x < p ∧ x ∈ l := by
  unfold pagesTo
  simp only [List.mem_map, List.mem_filter, List.mem_range, hasB_iff]
  constructor
  · rintro ⟨a, ⟨h1, h2⟩, e⟩
    have e' : (a : Int) = x := e
    subst e'
    exact ⟨by omega, by omega, h2⟩
  · rintro ⟨h1, h2, h3⟩
    exact ⟨x.toNat, ⟨by omega, by rw [show ((x.toNat : Nat) : Int) = x by omega]; exact h3⟩, by show ((x.toNat : Nat) : Int) = x; omega⟩
theorem pagesTo_in (l : List Int) (p : Nat) (hp : p ≤ 16) : AllIn (pagesTo l p) 0 15 := fun x hx => by have := (mem_pagesTo l p x).1 hx; omega
theorem mask_eq_of {l m : List Int} (hl : AllIn l 0 15) (hm : AllIn m 0 15) (h : ∀ x, x ∈ l ↔ x ∈ m) : mask l = mask m := by
  apply Nat.eq_of_testBit_eq
  intro i
  have e : i = ((i : Int)).toNat := by omega
  rw [e, mask_bit l hl _ (by omega), mask_bit m hm _ (by omega)]
  rw [Bool.eq_iff_iff, hasB_iff, hasB_iff, h]
/-- The number of a set of unlike numbers: the sum of their powers of two. -/
def setN (l : List Int) : Nat := l.foldl (fun n p => n + 2 ^ p.toNat) 0
theorem setN_snoc (l : List Int) (y : Int) : setN (l ++ [y]) = setN l + 2 ^ y.toNat := by unfold setN; rw [List.foldl_append]; rfl
theorem or_eq_add {m p : Nat} (h : m < 2 ^ p) : m ||| 2 ^ p = m + 2 ^ p := by
  have := Nat.two_pow_add_eq_or_of_lt h 1
  rw [Nat.mul_one] at this
  rw [Nat.add_comm, this, Nat.or_comm]
theorem mask_lt_pow (l : List Int) (p : Nat) (h : ∀ x ∈ l, 0 ≤ x ∧ x < p) : mask l < 2 ^ p := by
  induction l using list_snoc_ind with
  | h0 => exact Nat.two_pow_pos p
  | h1 l y ih =>
    rw [mask_snoc]
    have h1 := ih fun x hx => h x (by simp [hx])
    have h2 := h y (by simp)
    exact Nat.or_lt_two_pow h1 (Nat.pow_lt_pow_right (by omega) (by omega))
theorem setN_pages (l : List Int) : ∀ p, setN (pagesTo l p) = mask (pagesTo l p) := by
  intro p
  induction p with
  | zero => simp [pagesTo, setN, mask]
  | succ p ih =>
    rw [pagesTo_succ]
    by_cases h : hasB l (p : Int)
    · rw [if_pos h, setN_snoc, mask_snoc, Int.toNat_natCast, or_eq_add (mask_lt_pow _ _ (fun x hx => by have := (mem_pagesTo l p x).1 hx; omega)), ih]
    · rw [if_neg h, List.append_nil]; exact ih
end Go.Proofs.Ytjonbbmgjiegcaa
