/- Plain words: sets of pages as bits, and how many there are; no program in sight. -/
import Derived.Test.YtmeamgeojcbljaaDoorLists
namespace Go.Proofs.YtmeamgeojcbljaaDoor

/-- The bits of a number, counted, the lowest n. -/
def pc : Nat → Nat → Nat
  | 0, _ => 0
  | n + 1, x => x % 2 + pc n (x / 2)
theorem or_bit_mod (m p : Nat) : (m ||| 2 ^ (p + 1)) % 2 = m % 2 := by
  have h : (m ||| 2 ^ (p + 1)).testBit 0 = m.testBit 0 := by rw [Nat.testBit_or, Nat.testBit_two_pow]; simp
  rw [Nat.testBit_zero, Nat.testBit_zero] at h
  simp only [decide_eq_decide] at h
  omega
theorem or_bit_div (m p : Nat) : (m ||| 2 ^ (p + 1)) / 2 = m / 2 ||| 2 ^ p := by
  apply Nat.eq_of_testBit_eq
  intro i
  rw [Nat.testBit_div_two, Nat.testBit_or, Nat.testBit_or, Nat.testBit_div_two, Nat.testBit_two_pow, Nat.testBit_two_pow]
  congr 1
  simp
theorem pc_or : ∀ (n m p : Nat), p < n → pc n (m ||| 2 ^ p) = pc n m + if m.testBit p then 0 else 1
  | 0, _, _, h => by omega
  | n + 1, m, 0, _ => by
    have h1 : (m ||| 2 ^ 0) % 2 = 1 := by
      have h : (m ||| 2 ^ 0).testBit 0 = true := by rw [Nat.testBit_or]; simp
      rw [Nat.testBit_zero] at h; exact of_decide_eq_true h
    have h2 : (m ||| 2 ^ 0) / 2 = m / 2 := by
      apply Nat.eq_of_testBit_eq
      intro i
      rw [Nat.testBit_div_two, Nat.testBit_or, Nat.testBit_div_two, Nat.testBit_two_pow]
      simp
    unfold pc
    rw [h1, h2, Nat.testBit_zero]
    split <;> rename_i h <;> simp at h <;> omega
  | n + 1, m, p + 1, h => by
    unfold pc
    rw [or_bit_mod, or_bit_div, pc_or n (m / 2) p (by omega), Nat.testBit_div_two]
    omega

def mask (l : List Int) : Nat := l.foldl (fun m p => m ||| 2 ^ p.toNat) 0
theorem mask_snoc (l : List Int) (y : Int) : mask (l ++ [y]) = mask l ||| 2 ^ y.toNat := by unfold mask; rw [List.foldl_append]; rfl
theorem mask_lt (l : List Int) (h : AllIn l 0 15) : mask l < 65536 := by
  induction l using list_snoc_ind with
  | h0 => simp [mask]
  | h1 l y ih =>
    rw [mask_snoc]
    have h1 := ih fun x hx => h x (by simp [hx])
    have h2 := h y (by simp)
    exact Nat.or_lt_two_pow (n := 16) h1 (Nat.pow_lt_pow_right (by omega) (by omega))
theorem mask_bit' (l : List Int) (h : AllIn l 0 15) : ∀ y : Int, 0 ≤ y → ((mask l).testBit y.toNat = true ↔ y ∈ l) := by
  induction l using list_snoc_ind with
  | h0 => intro y hy; simp [mask]
  | h1 l z ih =>
    intro y hy
    have h2 := h z (by simp)
    rw [mask_snoc, Nat.testBit_or, Bool.or_eq_true, ih (fun x hx => h x (by simp [hx])) y hy, Nat.testBit_two_pow, List.mem_append, List.mem_singleton]
    have : (decide (z.toNat = y.toNat) = true) ↔ y = z := by rw [decide_eq_true_iff]; constructor <;> intro hh <;> omega
    rw [this]
theorem mask_bit (l : List Int) (h : AllIn l 0 15) (y : Int) (hy : 0 ≤ y) : (mask l).testBit y.toNat = hasB l y := by
  have := mask_bit' l h y hy
  rw [← hasB_iff] at this
  exact Bool.eq_iff_iff.2 this
theorem mask_with (l : List Int) (h : AllIn l 0 15) (y : Int) (h1 : 0 ≤ y) (h2 : y ≤ 15) : pc 16 (mask l ||| 2 ^ y.toNat) = pc 16 (mask l) + if y ∈ l then 0 else 1 := by
  rw [pc_or 16 _ _ (by omega), mask_bit l h y h1]
  by_cases hm : y ∈ l
  · rw [(hasB_iff l y).2 hm, if_pos hm, if_pos rfl]
  · rw [(hasB_false l y).2 hm, if_neg hm]; rfl
theorem mask_pc (l : List Int) (h : AllIn l 0 15) (hn : l.Nodup) : pc 16 (mask l) = l.length := by
  induction l using list_snoc_ind with
  | h0 => decide
  | h1 l y ih =>
    have h2 := h y (by simp)
    have hd := List.nodup_append.1 hn
    have hy : y ∉ l := fun hm => hd.2.2 y hm y (by simp) rfl
    rw [mask_snoc, mask_with l (fun x hx => h x (by simp [hx])) y h2.1 h2.2, ih (fun x hx => h x (by simp [hx])) hd.1, if_neg hy]
    simp
theorem mask_same (l : List Int) (h : AllIn l 0 15) (y : Int) (h1 : 0 ≤ y) (hm : y ∈ l) : mask l ||| 2 ^ y.toNat = mask l := by
  apply Nat.eq_of_testBit_eq
  intro i
  rw [Nat.testBit_or, Nat.testBit_two_pow]
  by_cases hi : y.toNat = i
  · subst hi
    rw [mask_bit l h y h1, (hasB_iff l y).2 hm]; rfl
  · simp [hi]
end Go.Proofs.YtmeamgeojcbljaaDoor
