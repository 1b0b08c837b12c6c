/- The walk of larderwickref1.LeastCost: the least cost, by a table of sets. -/
import Derived.Test.YtmeamgeojcbljaaDoorTables
import Derived.Test.YtmeamgeojcbljaaDoorLandCheck
import Derived.Test.YtmeamgeojcbljaaDoorLandFacts
import Derived.Test.YtmeamgeojcbljaaDoorLeastPlain
import Derived.Test.YtmeamgeojcbljaaDoorRefLast
namespace Go.Proofs.YtmeamgeojcbljaaDoor
open Go.ChangeShapes Go.WideShapes Go.ChangeAt Go.RowKit

theorem many_ok (m : Nat) (hm : m < 64) (w : World) : Calls Tryd.prog 57 #[.int .i64 m] w fun e w' => e = .returned (.int .i64 (pc 16 m : Nat)) ∧ w = w' := by
  have H16 := Lib.hid (show ∀ m : Nat, m < 64 → pc 16 m = m % 2 + pc 16 (m / 2) by decide +kernel)
  have HZ := Lib.hid (show pc 16 0 = 0 by decide +kernel)
  have HB := Lib.hid (show ∀ m : Nat, m < 64 → pc 16 m ≤ 16 by decide +kernel)
  obtain ⟨r, hr⟩ : ∃ r, pc 16 m = r := ⟨_, rfl⟩
  have hb := HB.out m hm
  rw [hr] at hb ⊢
  have HR := Lib.hid hr
  clear hr
  go_enter Tryd.func57, Tryd.ntmps57
  go_wp2
  go_loop [0, 3] (fun s v3 => ∃ (k q : Nat), k < 64 ∧ s = .int .i64 k ∧ v3 = .int .i64 q ∧ q ≤ 16 ∧ Hid (q + pc 16 k = r)) (fun s _ => (intOf s).toNat)
  case atStart => exact ⟨m, 0, hm, rfl, by go_num, by omega, Lib.hid (by rw [HR.out]; omega)⟩
  case round =>
    obtain ⟨k, q, hk, rfl, rfl, hq, hh⟩ := hrel
    by_cases hk0 : 0 < k
    · have h1 := Lib.hid (show q + k % 2 + pc 16 (k / 2) = r by have := H16.out k hk; have := hh.out; omega)
      have h4 := Lib.hid (show q + k % 2 ≤ 16 by have := h1.out; omega)
      go_wp2
      go_round
      case rel => exact ⟨k / 2, q + k % 2, by omega, by simp, by simp, h4.out, h1⟩
      case measure => simp [intOf]; omega
    · obtain rfl : k = 0 := by omega
      have hf := Lib.hid (show q = r by have := hh.out; have := HZ.out; omega)
      go_wp2
      go_ret
      rw [← hf.out]
      exact ⟨rfl, rfl⟩

/-! ### Sets, as numbers below 64 -/
def chk64 (f : Nat → Nat → Bool) : Bool := (List.range 64).all fun s => (List.range 6).all fun p => f s p
theorem chk64_all {f : Nat → Nat → Bool} (h : chk64 f = true) {s p : Nat} (hs : s < 64) (hp : p < 6) : f s p = true := by
  unfold chk64 at h
  exact List.all_eq_true.1 (List.all_eq_true.1 h s (List.mem_range.2 hs)) p (List.mem_range.2 hp)
theorem bit_div {s p : Nat} (hs : s < 64) (hp : p < 6) : s / 2 ^ p % 2 = 1 ↔ s.testBit p = true := by
  have h : chk64 (fun s p => (s / 2 ^ p % 2 == 1) == s.testBit p) = true := by decide +kernel
  have := chk64_all h hs hp
  simp only [beq_iff_eq] at this
  rw [← this]; simp
theorem or_plus {s p : Nat} (hs : s < 64) (hp : p < 6) (hb : s.testBit p = false) : s ||| 2 ^ p = s + 2 ^ p ∧ s + 2 ^ p < 64 ∧ pc 16 (s ||| 2 ^ p) = pc 16 s + 1 := by
  have h : chk64 (fun s p => s.testBit p || (s ||| 2 ^ p == s + 2 ^ p && decide (s + 2 ^ p < 64) && pc 16 (s ||| 2 ^ p) == pc 16 s + 1)) = true := by decide +kernel
  have := chk64_all h hs hp
  simp only [hb, Bool.false_or, Bool.and_eq_true, beq_iff_eq, decide_eq_true_eq] at this
  exact ⟨this.1.1, this.1.2, this.2⟩
theorem xor_minus {s p q : Nat} (hs : s < 64) (hp : p < 6) (hq : q < 6) (hb : s.testBit p = false) (hc : s.testBit q = true) : (s ||| 2 ^ p) ^^^ 2 ^ q = s - 2 ^ q + 2 ^ p ∧ 2 ^ q ≤ s ∧ s - 2 ^ q + 2 ^ p < 64 := by
  have h : (List.range 6).all (fun q => chk64 (fun s p => s.testBit p || !s.testBit q || ((s ||| 2 ^ p) ^^^ 2 ^ q == s - 2 ^ q + 2 ^ p && decide (2 ^ q ≤ s) && decide (s - 2 ^ q + 2 ^ p < 64)))) = true := by decide +kernel
  have := chk64_all (List.all_eq_true.1 h q (List.mem_range.2 hq)) hs hp
  simp only [hb, hc, Bool.not_true, Bool.or_false, Bool.false_or, Bool.and_eq_true, beq_iff_eq, decide_eq_true_eq] at this
  exact ⟨this.1.1, this.1.2, this.2⟩
theorem pow_lt64 {p : Nat} (hp : p < 6) : 2 ^ p ≤ 32 := by
  have : 2 ^ p ≤ 2 ^ 5 := Nat.pow_le_pow_right (by omega) (by omega)
  simpa using this
/-- A step of a table. -/
def Nx64 (f : Int → Int) (slots : Int) (p : Nat) (s t : Nat) (d : Int) : Prop := s < 64 ∧ NxL f slots p (s : Int) (t : Int) d
theorem nx_stay {f : Int → Int} {slots : Int} {p s : Nat} (hs : s < 64) (hb : s.testBit p = true) (t : Nat) (d : Int) : Nx64 f slots p s t d ↔ t = s ∧ d = 0 := by
  unfold Nx64 NxL nxtL
  simp only [Int.toNat_natCast, hb, if_true, List.mem_singleton, Prod.mk.injEq, hs, true_and, Int.ofNat_inj]
theorem nx_more {f : Int → Int} {slots : Int} {p s : Nat} (hs : s < 64) (hp : p < 6) (hb : s.testBit p = false) (hm : (pc 16 s : Int) < slots) (t : Nat) (d : Int) : Nx64 f slots p s t d ↔ t = s + 2 ^ p ∧ d = f p := by
  obtain ⟨h1, h2, h3⟩ := or_plus hs hp hb
  have h4 : ((pc 16 (s ||| 2 ^ p) : Nat) : Int) ≤ slots := by rw [h3]; omega
  have hl : nxtL f slots p s = [(((s + 2 ^ p : Nat) : Int), f p)] := by
    unfold nxtL
    rw [Int.toNat_natCast, Int.toNat_natCast, if_neg (by simp [hb]), if_pos h4, h1]
  unfold Nx64 NxL
  rw [hl, List.mem_singleton, Prod.mk.injEq]
  constructor
  · rintro ⟨_, e1, e2⟩; exact ⟨by exact_mod_cast e1, e2⟩
  · rintro ⟨rfl, rfl⟩; exact ⟨hs, rfl, rfl⟩
theorem nx_swap {f : Int → Int} {slots : Int} {p s : Nat} (hs : s < 64) (hp : p < 6) (hb : s.testBit p = false) (hm : ¬ (pc 16 s : Int) < slots) (t : Nat) (d : Int) : Nx64 f slots p s t d ↔ ∃ q, q < 6 ∧ s.testBit q = true ∧ t = s - 2 ^ q + 2 ^ p ∧ d = f p := by
  obtain ⟨h1, h2, h3⟩ := or_plus hs hp hb
  unfold Nx64 NxL nxtL
  have : ¬ ((pc 16 (s ||| 2 ^ p) : Nat) : Int) ≤ slots := by rw [h3]; omega
  simp only [Int.toNat_natCast, hb, Bool.false_eq_true, if_false, this, List.mem_map, Prod.mk.injEq, hs, true_and]
  constructor
  · rintro ⟨q, hq, e1, e2⟩
    obtain ⟨k, rfl, hk, hkb⟩ := mem_bitsL.1 hq
    have hk6 : k < 6 := by
      rcases Nat.lt_or_ge k 6 with h | h
      · exact h
      · have := Nat.testBit_lt_two_pow (Nat.lt_of_lt_of_le hs (show 64 ≤ 2 ^ k from by have := Nat.pow_le_pow_right (n := 2) (by omega) h; simpa using this))
        rw [this] at hkb; cases hkb
    obtain ⟨g1, _, _⟩ := xor_minus hs hp hk6 hb hkb
    rw [Int.toNat_natCast, g1] at e1
    exact ⟨k, hk6, hkb, by exact_mod_cast e1.symm, e2.symm⟩
  · rintro ⟨q, hq, hqb, rfl, rfl⟩
    obtain ⟨g1, _, _⟩ := xor_minus hs hp hq hb hqb
    exact ⟨(q : Int), mem_bitsL.2 ⟨q, rfl, by omega, hqb⟩, by rw [Int.toNat_natCast, g1], rfl⟩
theorem nx_in {f : Int → Int} {slots : Int} {p s t : Nat} {d : Int} (hp : p < 6) (h : Nx64 f slots p s t d) : t < 64 := by
  have := nxtL_in (c := 6) (by omega) (show (0 : Int) ≤ p by omega) (by exact_mod_cast hp) (show (0 : Int) ≤ s by omega) (by have := h.1; show (s : Int) < 64; omega) h.2
  have h2 : (t : Int) < 64 := this.2.1
  omega
end Go.Proofs.YtmeamgeojcbljaaDoor
