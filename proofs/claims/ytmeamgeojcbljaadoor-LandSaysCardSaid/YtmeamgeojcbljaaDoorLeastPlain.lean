/- Plain words: the least that anybody could pay for pages: sets as bits, step by step; no program in sight. -/
import Derived.Test.YtmeamgeojcbljaaDoorRunTo
import Derived.Test.YtmeamgeojcbljaaDoorBits
import Derived.Test.YtmeamgeojcbljaaDoorYoung
namespace Go.Proofs.YtmeamgeojcbljaaDoor

/-- What a set of pages turns into, where page p is asked for, and what is paid. -/
def nxtL (f : Int → Int) (s : Int) (p m : Int) : List (Int × Int) :=
  if m.toNat.testBit p.toNat then [(m, 0)]
  else if (pc 16 (m.toNat ||| 2 ^ p.toNat) : Int) ≤ s then [(((m.toNat ||| 2 ^ p.toNat : Nat) : Int), f p)]
  else (bitsL m.toNat).map fun q => ((((m.toNat ||| 2 ^ p.toNat) ^^^ 2 ^ q.toNat : Nat) : Int), f p)
def NxL (f : Int → Int) (s : Int) (p m m' d : Int) : Prop := (m', d) ∈ nxtL f s p m
/-- The least of all ways to let go of pages. -/
def LeastC (f : Int → Int) (s : Nat) (l : List Int) (v : Int) : Prop := SchedC f s [] l v ∧ ∀ n, SchedC f s [] l n → v ≤ n

theorem bitsFrom_len {m : Nat} : ∀ {g i : Nat}, (bitsFrom m g i).length = pc g (m / 2 ^ i) := by
  intro g
  induction g with
  | zero => intro i; rfl
  | succ g ih =>
    intro i
    have e : m / 2 ^ i / 2 = m / 2 ^ (i + 1) := by rw [Nat.pow_succ, Nat.div_div_eq_div_mul]
    rw [bitsFrom, pc, e, Nat.testBit_eq_decide_div_mod_eq]
    by_cases h : m / 2 ^ i % 2 = 1
    · rw [if_pos (by simpa using h), List.length_cons, ih, h]; omega
    · rw [if_neg (by simpa using h), ih]; omega
theorem bitsL_len (m : Nat) : (bitsL m).length = pc 16 m := by unfold bitsL; rw [bitsFrom_len, Nat.pow_zero, Nat.div_one]
theorem bitsFrom_nodup {m : Nat} : ∀ {g i : Nat}, (bitsFrom m g i).Nodup := by
  intro g
  induction g with
  | zero => intro i; simp [bitsFrom]
  | succ g ih =>
    intro i
    rw [bitsFrom]
    split
    · rw [List.nodup_cons]
      refine ⟨fun h => ?_, ih⟩
      obtain ⟨k, e, h1, _⟩ := mem_bitsFrom.1 h
      omega
    · exact ih
theorem bitsL_nodup (m : Nat) : (bitsL m).Nodup := bitsFrom_nodup

/-- The step lies within small numbers. -/
theorem nxtL_in {f : Int → Int} {s p m : Int} {c : Nat} (hc : c ≤ 16) (hp : 0 ≤ p) (hpc : p < c) (hm0 : 0 ≤ m) (hm : m < 2 ^ c) {y : Int × Int} (hy : y ∈ nxtL f s p m) : 0 ≤ y.1 ∧ y.1 < 2 ^ c ∧ (y.2 = 0 ∨ y.2 = f p) := by
  have hmN : m.toNat < 2 ^ c := by
    have : ((m.toNat : Nat) : Int) < ((2 ^ c : Nat) : Int) := by rw [Int.natCast_pow]; simpa [Int.toNat_of_nonneg hm0] using hm
    exact_mod_cast this
  have hw : m.toNat ||| 2 ^ p.toNat < 2 ^ c := Nat.or_lt_two_pow hmN (Nat.pow_lt_pow_right (by omega) (by omega))
  have cast : ∀ x : Nat, x < 2 ^ c → ((x : Nat) : Int) < 2 ^ c := fun x hx => by
    have : ((x : Nat) : Int) < ((2 ^ c : Nat) : Int) := by exact_mod_cast hx
    rwa [Int.natCast_pow] at this
  unfold nxtL at hy
  split at hy
  · simp at hy; subst hy; exact ⟨hm0, hm, .inl rfl⟩
  · split at hy
    · simp only [List.mem_singleton] at hy; subst hy; exact ⟨Int.natCast_nonneg _, cast _ hw, .inr rfl⟩
    · obtain ⟨q, hq, rfl⟩ := List.mem_map.1 hy
      obtain ⟨k, rfl, hk, hb⟩ := mem_bitsL.1 hq
      refine ⟨Int.natCast_nonneg _, cast _ ?_, .inr rfl⟩
      have hk2 : k < c := by
        rcases Nat.lt_or_ge k c with h | h
        · exact h
        · rw [Nat.testBit_lt_two_pow (Nat.lt_of_lt_of_le hmN (Nat.pow_le_pow_right (by omega) h))] at hb; cases hb
      exact Nat.xor_lt_two_pow hw (Nat.pow_lt_pow_right (by omega) (by simpa using hk2))
theorem nxtL_ne {f : Int → Int} {s p m : Int} (hs : 1 ≤ s) (hp : 0 ≤ p) (hp2 : p < 16) : nxtL f s p m ≠ [] := by
  unfold nxtL
  split
  · simp
  · rename_i h0
    split
    · simp
    · rename_i h
      intro e
      have e2 : bitsL m.toNat = [] := by simpa using e
      have h2 := bitsL_len m.toNat
      rw [e2] at h2
      rw [pc_or 16 _ _ (by omega), ← h2, if_neg h0] at h
      simp at h; omega
/-- All runs stay within small numbers. -/
theorem runL_in {f : Int → Int} {s : Int} {c : Nat} {B : Int} (hc : c ≤ 16) (hf : ∀ x, 0 ≤ f x ∧ f x ≤ B) : ∀ {l : List Int} {m m' d : Int}, (∀ p ∈ l, 0 ≤ p ∧ p < c) → 0 ≤ m → m < 2 ^ c → RunTo (NxL f s) m l m' d →
    0 ≤ m' ∧ m' < 2 ^ c ∧ 0 ≤ d ∧ d ≤ B * l.length := by
  intro l
  induction l with
  | nil => rintro m m' d _ h0 h1 ⟨rfl, rfl⟩; exact ⟨h0, h1, Int.le_refl _, by simp⟩
  | cons p l ih =>
    rintro m m' d hl h0 h1 ⟨k1, d1, d2, h2, h3, rfl⟩
    have hp := hl p (by simp)
    obtain ⟨a1, a2, a3⟩ := nxtL_in hc hp.1 hp.2 h0 h1 h2
    obtain ⟨b1, b2, b3, b4⟩ := ih (fun q hq => hl q (by simp [hq])) a1 a2 h3
    have := hf p
    simp only at a3
    refine ⟨b1, b2, by rcases a3 with a3 | a3 <;> omega, ?_⟩
    rw [List.length_cons, Int.natCast_add, Int.mul_add]
    simp
    rcases a3 with a3 | a3 <;> omega

theorem testBit_or_pow (m p k : Nat) : (m ||| 2 ^ p).testBit k = (m.testBit k || decide (p = k)) := by rw [Nat.testBit_or, Nat.testBit_two_pow]
/-- Such a run is a way to let go of pages. -/
theorem runL_sched {f : Int → Int} {s : Nat} (hs : 1 ≤ s) : ∀ {l : List Int} {m m' d : Int}, (∀ p ∈ l, 0 ≤ p ∧ p < 16) → 0 ≤ m → m < 2 ^ 16 → pc 16 m.toNat ≤ s → RunTo (NxL f s) m l m' d → SchedC f s (bitsL m.toNat) l d := by
  intro l
  induction l with
  | nil => rintro m m' d _ _ _ _ ⟨_, rfl⟩; rfl
  | cons p l ih =>
    rintro m m' d hl h0 h1 hpc ⟨k1, d1, d2, h2, h3, rfl⟩
    have hp := hl p (by simp)
    obtain ⟨a1, a2, a3⟩ := nxtL_in (c := 16) (by omega) hp.1 (by omega) h0 h1 h2
    have hmem : ∀ x : Nat, p ∈ bitsL x ↔ x.testBit p.toNat = true := fun x => by
      rw [mem_bitsL]
      exact ⟨fun ⟨k, e, _, h⟩ => by subst e; simpa using h, fun h => ⟨p.toNat, by omega, by omega, h⟩⟩
    have key : pc 16 k1.toNat ≤ s ∧ p ∈ bitsL k1.toNat ∧ (∀ x ∈ bitsL k1.toNat, x = p ∨ x ∈ bitsL m.toNat) ∧ d1 = if p ∈ bitsL m.toNat then 0 else f p := by
      unfold NxL nxtL at h2
      split at h2
      · rename_i hb
        simp at h2
        obtain ⟨rfl, rfl⟩ := h2
        exact ⟨hpc, (hmem _).2 hb, fun x hx => .inr hx, by rw [if_pos ((hmem _).2 hb)]⟩
      · rename_i hb
        have hnp : ¬ p ∈ bitsL m.toNat := fun h => hb ((hmem _).1 h)
        split at h2
        · rename_i hl2
          simp only [List.mem_singleton, Prod.mk.injEq] at h2
          obtain ⟨rfl, rfl⟩ := h2
          rw [Int.toNat_natCast]
          refine ⟨by omega, (hmem _).2 (by rw [testBit_or_pow]; simp), fun x hx => ?_, by rw [if_neg hnp]⟩
          obtain ⟨k, rfl, hk, hb2⟩ := mem_bitsL.1 hx
          rw [testBit_or_pow, Bool.or_eq_true] at hb2
          rcases hb2 with hb2 | hb2
          · exact .inr (mem_bitsL.2 ⟨k, rfl, hk, hb2⟩)
          · have := of_decide_eq_true hb2; exact .inl (by omega)
        · rename_i hl2
          obtain ⟨q, hq, e⟩ := List.mem_map.1 h2
          simp only [Prod.mk.injEq] at e
          obtain ⟨rfl, rfl⟩ := e
          rw [Int.toNat_natCast]
          obtain ⟨k, rfl, hk, hbk⟩ := mem_bitsL.1 hq
          rw [Int.toNat_natCast]
          have hkp : k ≠ p.toNat := fun e => hb (e ▸ hbk)
          have hbits : ∀ j : Nat, ((m.toNat ||| 2 ^ p.toNat) ^^^ 2 ^ k).testBit j = ((m.toNat.testBit j || decide (p.toNat = j)) && !decide (k = j)) := fun j => by
            rw [Nat.testBit_xor, testBit_or_pow, Nat.testBit_two_pow]
            by_cases e : k = j
            · subst e; simp [hbk]
            · simp [e]
          refine ⟨?_, (hmem _).2 (by rw [hbits]; simp [hkp]), fun x hx => ?_, by rw [if_neg hnp]⟩
          · rw [← bitsL_len]
            have := nodup_leK (a := (k : Int) :: bitsL ((m.toNat ||| 2 ^ p.toNat) ^^^ 2 ^ k)) (b := p :: bitsL m.toNat) (by
              rw [List.nodup_cons]
              refine ⟨fun h => ?_, bitsL_nodup _⟩
              obtain ⟨j, e, _, hj⟩ := mem_bitsL.1 h
              rw [hbits] at hj
              have : k = j := by omega
              simp [this] at hj) (fun x hx => by
              rw [List.mem_cons] at hx ⊢
              rcases hx with rfl | hx
              · exact .inr hq
              · obtain ⟨j, rfl, hj, hbj⟩ := mem_bitsL.1 hx
                rw [hbits] at hbj
                simp only [Bool.and_eq_true, Bool.or_eq_true] at hbj
                rcases hbj.1 with h | h
                · exact .inr (mem_bitsL.2 ⟨j, rfl, hj, h⟩)
                · have := of_decide_eq_true h; exact .inl (by omega))
            simp only [List.length_cons, bitsL_len] at this ⊢
            omega
          · obtain ⟨j, rfl, hj, hbj⟩ := mem_bitsL.1 hx
            rw [hbits] at hbj
            simp only [Bool.and_eq_true, Bool.or_eq_true] at hbj
            rcases hbj.1 with h | h
            · exact .inr (mem_bitsL.2 ⟨j, rfl, hj, h⟩)
            · have := of_decide_eq_true h; exact .inl (by omega)
    exact ⟨bitsL k1.toNat, d2, bitsL_nodup _, by rw [bitsL_len]; exact key.1, key.2.1, key.2.2.1, ih (fun q hq => hl q (by simp [hq])) a1 a2 key.1 h3, by rw [key.2.2.2]⟩

/-- No way pays less than some such run. -/
theorem sched_runL {f : Int → Int} (hf : ∀ x, 0 ≤ f x) {s : Nat} (hs : 1 ≤ s) : ∀ {l H : List Int} {m n : Int}, (∀ p ∈ l, 0 ≤ p ∧ p < 16) → 0 ≤ m → m < 2 ^ 16 → pc 16 m.toNat ≤ s → (∀ x ∈ H, x ∈ bitsL m.toNat) → SchedC f s H l n →
    ∃ m' d, RunTo (NxL f s) m l m' d ∧ d ≤ n := by
  intro l
  induction l with
  | nil => rintro H m n _ _ _ _ _ rfl; exact ⟨m, 0, ⟨rfl, rfl⟩, Int.le_refl _⟩
  | cons p l ih =>
    rintro H m n hl h0 h1 hpc hH ⟨H2, n2, g1, g2, g3, g4, g5, rfl⟩
    have hp := hl p (by simp)
    have hmem : ∀ x : Nat, p ∈ bitsL x ↔ x.testBit p.toNat = true := fun x => by
      rw [mem_bitsL]
      exact ⟨fun ⟨k, e, _, h⟩ => by subst e; simpa using h, fun h => ⟨p.toNat, by omega, by omega, h⟩⟩
    have fin : ∀ y ∈ nxtL f s p m, pc 16 y.1.toNat ≤ s → (∀ x ∈ H2, x ∈ bitsL y.1.toNat) → y.2 ≤ (if p ∈ H then 0 else f p) → ∃ m' d, RunTo (NxL f s) m (p :: l) m' d ∧ d ≤ (if p ∈ H then 0 else f p) + n2 := by
      intro y hy c1 c2 c3
      obtain ⟨a1, a2, _⟩ := nxtL_in (c := 16) (by omega) hp.1 (by omega) h0 h1 hy
      obtain ⟨m', d, r1, r2⟩ := ih (fun q hq => hl q (by simp [hq])) a1 a2 c1 c2 g5
      exact ⟨m', y.2 + d, ⟨y.1, y.2, d, hy, r1, rfl⟩, by omega⟩
    by_cases hb : m.toNat.testBit p.toNat = true
    · refine fin (m, 0) (by unfold nxtL; rw [if_pos hb]; simp) hpc (fun x hx => ?_) ?_
      · rcases g4 x hx with rfl | h
        · exact (hmem _).2 hb
        · exact hH x h
      · have := hf p
        show (0 : Int) ≤ _
        split <;> omega
    · have hnp : ¬ p ∈ H := fun h => hb ((hmem _).1 (hH p h))
      rw [if_neg hnp] at fin ⊢
      by_cases hr : (pc 16 (m.toNat ||| 2 ^ p.toNat) : Int) ≤ s
      · refine fin (((m.toNat ||| 2 ^ p.toNat : Nat) : Int), f p) (by unfold nxtL; rw [if_neg hb, if_pos hr]; simp) (by simp only [Int.toNat_natCast]; omega) (fun x hx => ?_) (Int.le_refl _)
        simp only [Int.toNat_natCast]
        rcases g4 x hx with rfl | h
        · exact (hmem _).2 (by rw [testBit_or_pow]; simp)
        · obtain ⟨k, rfl, hk, hbk⟩ := mem_bitsL.1 (hH x h)
          exact mem_bitsL.2 ⟨k, rfl, hk, by rw [testBit_or_pow, hbk]; rfl⟩
      · rw [pc_or 16 _ _ (by omega), if_neg hb] at hr
        have hfull : s ≤ (bitsL m.toNat).length := by rw [bitsL_len]; omega
        have hex : ∃ q ∈ bitsL m.toNat, q ∉ H2 := by
          apply Classical.byContradiction
          intro hno
          have hall : ∀ q ∈ bitsL m.toNat, q ∈ H2 := fun q hq => Classical.byContradiction fun h => hno ⟨q, hq, h⟩
          have := nodup_leK (a := p :: bitsL m.toNat) (b := H2) (by rw [List.nodup_cons]; exact ⟨fun h => hb ((hmem _).1 h), bitsL_nodup _⟩) (fun x hx => by
            rw [List.mem_cons] at hx
            rcases hx with rfl | hx
            · exact g3
            · exact hall x hx)
          simp at this; omega
        obtain ⟨q, hq, hqn⟩ := hex
        obtain ⟨k, rfl, hk, hbk⟩ := mem_bitsL.1 hq
        have hkp : k ≠ p.toNat := fun e => hb (e ▸ hbk)
        have hbits : ∀ j : Nat, ((m.toNat ||| 2 ^ p.toNat) ^^^ 2 ^ k).testBit j = ((m.toNat.testBit j || decide (p.toNat = j)) && !decide (k = j)) := fun j => by
          rw [Nat.testBit_xor, testBit_or_pow, Nat.testBit_two_pow]
          by_cases e : k = j
          · subst e; simp [hbk]
          · simp [e]
        refine fin ((((m.toNat ||| 2 ^ p.toNat) ^^^ 2 ^ k : Nat) : Int), f p) (by
          unfold nxtL
          rw [if_neg hb, if_neg (by rw [pc_or 16 _ _ (by omega), if_neg hb]; exact hr)]
          exact List.mem_map.2 ⟨(k : Int), hq, by rw [Int.toNat_natCast]⟩) ?_ (fun x hx => ?_) (Int.le_refl _)
        · simp only [Int.toNat_natCast]
          rw [← bitsL_len]
          have := nodup_leK (a := (k : Int) :: bitsL ((m.toNat ||| 2 ^ p.toNat) ^^^ 2 ^ k)) (b := p :: bitsL m.toNat) (by
            rw [List.nodup_cons]
            refine ⟨fun h => ?_, bitsL_nodup _⟩
            obtain ⟨j, e, _, hj⟩ := mem_bitsL.1 h
            rw [hbits] at hj
            have : k = j := by omega
            simp [this] at hj) (fun x hx => by
            rw [List.mem_cons] at hx ⊢
            rcases hx with rfl | hx
            · exact .inr hq
            · obtain ⟨j, rfl, hj, hbj⟩ := mem_bitsL.1 hx
              rw [hbits] at hbj
              simp only [Bool.and_eq_true, Bool.or_eq_true] at hbj
              rcases hbj.1 with h | h
              · exact .inr (mem_bitsL.2 ⟨j, rfl, hj, h⟩)
              · have := of_decide_eq_true h; exact .inl (by omega))
          simp only [List.length_cons, bitsL_len] at this ⊢
          omega
        · simp only [Int.toNat_natCast]
          have hxk : x ≠ (k : Int) := fun e => hqn (e ▸ hx)
          rcases g4 x hx with rfl | h
          · exact (hmem _).2 (by rw [hbits]; simp [hkp])
          · obtain ⟨j, rfl, hj, hbj⟩ := mem_bitsL.1 (hH x h)
            exact mem_bitsL.2 ⟨j, rfl, hj, by rw [hbits, hbj]; have : ¬ k = j := fun e => hxk (by rw [e]); simp [this]⟩

theorem leastC_of_best {f : Int → Int} (hf : ∀ x, 0 ≤ f x) {s : Nat} (hs : 1 ≤ s) {l : List Int} (hl : ∀ p ∈ l, 0 ≤ p ∧ p < 16) {v : Int} (h : Best (NxL f s) 0 l v) : LeastC f s l v := by
  have e0 : bitsL (0 : Int).toNat = [] := by decide
  have p0 : pc 16 (0 : Int).toNat ≤ s := by have : pc 16 (0 : Int).toNat = 0 := by decide
                                            omega
  obtain ⟨⟨k', hk⟩, hb⟩ := h
  have h1 := runL_sched hs hl (Int.le_refl 0) (by decide) p0 hk
  rw [e0] at h1
  refine ⟨h1, fun n hn => ?_⟩
  obtain ⟨m', d, r1, r2⟩ := sched_runL hf hs hl (Int.le_refl 0) (by decide) p0 (by rw [e0]; simp) hn
  have := hb _ _ r1; omega
end Go.Proofs.YtmeamgeojcbljaaDoor
