/- Plain laws on servers on a line: one server; to go from both sides against the least; the mirror; no program in sight. -/
import Derived.Test.YtgljpdfmejganaaServeLaws
namespace Go.Proofs.Ytgljpdfmejganaa

/-- One server: how far it goes, and where it is. -/
def oneW (p : Int) (a : List Int) : Int × Int := a.foldl (fun st x => (st.1 + absI st.2 x, x)) (0, p)
theorem oneW_snoc (p : Int) (a : List Int) (x : Int) : oneW p (a ++ [x]) = ((oneW p a).1 + absI (oneW p a).2 x, x) := by unfold oneW; rw [List.foldl_append]; rfl
theorem sortI_one (x : Int) : sortI [x] = [x] := sortI_of (List.Perm.refl _) (by simp)
theorem dstep_one (p x : Int) : dstep [p] x = (absI p x, [x]) := by
  unfold dstep rightI
  by_cases h : x ≤ p <;> simp [List.findIdx_cons, h]
theorem nstep_one (p x : Int) : nstep [p] x = (absI p x, [x]) := by simp [nstep, bestI]
theorem run_one {f : List Int → Int → Int × List Int} (hf : ∀ p x, f [p] x = (absI p x, [x])) (p : Int) (a : List Int) : runS f [p] a = ((oneW p a).1, [(oneW p a).2]) := by
  unfold runS oneW
  rw [sortI_one]
  suffices ∀ (a : List Int) (c q : Int), a.foldl (fun (st : Int × List Int) x => (st.1 + (f st.2 x).1, sortI (f st.2 x).2)) (c, [q]) = ((a.foldl (fun (st : Int × Int) x => (st.1 + absI st.2 x, x)) (c, q)).1, [(a.foldl (fun (st : Int × Int) x => (st.1 + absI st.2 x, x)) (c, q)).2]) from this a 0 p
  intro a
  induction a with
  | nil => intro c q; rfl
  | cons x a ih => intro c q; rw [List.foldl_cons, List.foldl_cons]; simp only [hf, sortI_one]; exact ih _ _
theorem runTo_one {a : List Int} : ∀ {p : Int} {k : List Int} {d : Int}, RunTo (NxS 1) [p] a k d → d = (oneW p a).1 := by
  suffices ∀ (a : List Int) (p c : Int) (k : List Int) (d : Int), RunTo (NxS 1) [p] a k d → c + d = (a.foldl (fun (st : Int × Int) x => (st.1 + absI st.2 x, x)) (c, p)).1 by
    intro p k d h; have := this a p 0 k d h; unfold oneW; omega
  intro a
  induction a with
  | nil => rintro p c k d ⟨rfl, rfl⟩; simp
  | cons x a ih =>
    rintro p c k d ⟨k1, d1, d2, ⟨i, hi, rfl, rfl⟩, h2, rfl⟩
    obtain rfl : i = 0 := by omega
    have := ih x (c + absI p x) k d2 h2
    rw [List.foldl_cons]
    simp only [List.getD_cons_zero]
    omega
theorem best_one {p v : Int} {a : List Int} (h : Best (NxS 1) [p] a v) : v = (oneW p a).1 := by
  obtain ⟨k, hk⟩ := h.1
  exact runTo_one hk
theorem oneW_in {p : Int} (hp : 0 ≤ p ∧ p ≤ 12) : ∀ a : List Int, AllIn a 0 12 → 0 ≤ (oneW p a).1 ∧ (oneW p a).1 ≤ 12 * a.length ∧ 0 ≤ (oneW p a).2 ∧ (oneW p a).2 ≤ 12 := by
  suffices ∀ (a : List Int), AllIn a 0 12 → ∀ c p : Int, 0 ≤ c → 0 ≤ p ∧ p ≤ 12 → 0 ≤ (a.foldl (fun (st : Int × Int) x => (st.1 + absI st.2 x, x)) (c, p)).1 ∧ (a.foldl (fun (st : Int × Int) x => (st.1 + absI st.2 x, x)) (c, p)).1 ≤ c + 12 * a.length ∧
      0 ≤ (a.foldl (fun (st : Int × Int) x => (st.1 + absI st.2 x, x)) (c, p)).2 ∧ (a.foldl (fun (st : Int × Int) x => (st.1 + absI st.2 x, x)) (c, p)).2 ≤ 12 by
    intro a ha; have := this a ha 0 p (by omega) hp; unfold oneW; omega
  intro a
  induction a with
  | nil => intro _ c p h0 h1; simp; omega
  | cons x a ih =>
    intro ha c p h0 h1
    have hx := ha x (by simp)
    have hb := absI_in h1 hx
    have := ih (fun y hy => ha y (by simp [hy])) (c + absI p x) x (by omega) hx
    rw [List.foldl_cons, List.length_cons]
    dsimp only
    omega

/-- How far all are apart, two by two. -/
def sumA (x : Int) : List Int → Int
  | [] => 0
  | y :: l => absI x y + sumA x l
def pairsL : List Int → Int
  | [] => 0
  | x :: l => sumA x l + pairsL l
theorem sumA_perm (x : Int) {p q : List Int} (h : p.Perm q) : sumA x p = sumA x q := by
  induction h with
  | nil => rfl
  | cons a h ih => simp only [sumA, ih]
  | swap a b l => simp only [sumA]; omega
  | trans h1 h2 ih1 ih2 => rw [ih1, ih2]
theorem pairs_perm {p q : List Int} (h : p.Perm q) : pairsL p = pairsL q := by
  induction h with
  | nil => rfl
  | cons a h ih => simp only [pairsL, ih, sumA_perm a h]
  | swap a b l => simp only [pairsL, sumA]; have := absI_comm a b; omega
  | trans h1 h2 ih1 ih2 => rw [ih1, ih2]
theorem sumA_nonneg (x : Int) : ∀ l : List Int, 0 ≤ sumA x l
  | [] => by simp [sumA]
  | y :: l => by have := sumA_nonneg x l; have := absI_nonneg x y; simp only [sumA]; omega
theorem pairsL_nonneg : ∀ l : List Int, 0 ≤ pairsL l
  | [] => by simp [pairsL]
  | y :: l => by have := sumA_nonneg y l; have := pairsL_nonneg l; simp only [pairsL]; omega
/-- The same, as it is reckoned: for each row, what the rows ahead of it give. -/
def pRow (s : List Int) (i : Nat) : Nat → Int
  | 0 => 0
  | j + 1 => pRow s i j + absI (s.getD i 0) (s.getD j 0)
def pAll (s : List Int) : Nat → Int
  | 0 => 0
  | i + 1 => pAll s i + pRow s i i
theorem pAll_pairs {s : List Int} (h : s.length ≤ 3) : pAll s s.length = pairsL s := by
  match s, h with
  | [], _ => rfl
  | [a], _ => simp [pAll, pRow, pairsL, sumA]
  | [a, b], _ => have := absI_comm a b; simp [pAll, pRow, pairsL, sumA]; omega
  | [a, b, c], _ => have := absI_comm a b; have := absI_comm a c; have := absI_comm b c; simp [pAll, pRow, pairsL, sumA]; omega
theorem pRow_in {n : Nat} {s : List Int} (h : onL n s) (i : Nat) : ∀ j : Nat, 0 ≤ pRow s i j ∧ pRow s i j ≤ 12 * j
  | 0 => by simp [pRow]
  | j + 1 => by have := pRow_in h i j; have := absI_in (onL_getD h i) (onL_getD h j); simp only [pRow]; omega
theorem pAll_in {n : Nat} {s : List Int} (h : onL n s) : ∀ i : Nat, i ≤ 3 → 0 ≤ pAll s i ∧ pAll s i ≤ 36 * i
  | 0, _ => by simp [pAll]
  | i + 1, hi => by have := pAll_in h i (by omega); have := pRow_in h i i; simp only [pAll]; omega

theorem rightI3 (a b c x : Int) : rightI [a, b, c] x = if x ≤ a then 0 else if x ≤ b then 1 else if x ≤ c then 2 else 3 := by
  unfold rightI
  by_cases h1 : x ≤ a
  · simp [List.findIdx_cons, h1]
  · by_cases h2 : x ≤ b
    · simp [List.findIdx_cons, h1, h2]
    · by_cases h3 : x ≤ c <;> simp [List.findIdx_cons, h1, h2, h3]
theorem rightI2 (a b x : Int) : rightI [a, b] x = if x ≤ a then 0 else if x ≤ b then 1 else 2 := by
  unfold rightI
  by_cases h1 : x ≤ a
  · simp [List.findIdx_cons, h1]
  · by_cases h2 : x ≤ b <;> simp [List.findIdx_cons, h1, h2]
theorem dstep2 (a b x : Int) : dstep [a, b] x = if x ≤ a then (absI a x, [x, b]) else if x ≤ b then (if b = x then (absI b x, [a, x]) else (2 * min (x - a) (b - x), [a + min (x - a) (b - x), b - min (x - a) (b - x)])) else (absI b x, [a, x]) := by
  unfold dstep midD
  rw [rightI2]
  by_cases h1 : x ≤ a
  · simp [h1]
  · by_cases h2 : x ≤ b
    · by_cases h3 : b = x <;> simp [h1, h2, h3]
    · simp [h1, h2]
theorem dstep3 (a b c x : Int) : dstep [a, b, c] x = if x ≤ a then (absI a x, [x, b, c]) else if x ≤ b then (if b = x then (absI b x, [a, x, c]) else (2 * min (x - a) (b - x), [a + min (x - a) (b - x), b - min (x - a) (b - x), c])) else
    if x ≤ c then (if c = x then (absI c x, [a, b, x]) else (2 * min (x - b) (c - x), [a, b + min (x - b) (c - x), c - min (x - b) (c - x)])) else (absI c x, [a, b, x]) := by
  unfold dstep midD
  rw [rightI3]
  by_cases h1 : x ≤ a
  · simp [h1]
  · by_cases h2 : x ≤ b
    · by_cases h3 : b = x <;> simp [h1, h2, h3]
    · by_cases h3 : x ≤ c
      · by_cases h4 : c = x <;> simp [h1, h2, h3, h4]
      · simp [h1, h2, h3]

theorem mem3 {x : Int} {t : List Int} (ht : t.length = 3) (hx : x ∈ t) : ∃ u v, t = [x, u, v] ∨ t = [u, x, v] ∨ t = [u, v, x] := by
  match t, ht with
  | [a, b, c], _ =>
    simp at hx
    rcases hx with rfl | rfl | rfl
    · exact ⟨b, c, .inl rfl⟩
    · exact ⟨a, c, .inr (.inl rfl)⟩
    · exact ⟨a, b, .inr (.inr rfl)⟩
def Step (n : Nat) (q t1 : List Int) (x : Int) : Prop := ∃ t2 : List Int, t2.Perm t1 ∧ (dstep q x).1 + n * distL (dstep q x).2 t2 + pairsL (dstep q x).2 ≤ n * distL q t1 + pairsL q ∧ (dstep q x).2.Pairwise (· ≤ ·)
theorem step1 {a x : Int} : Step 1 [a] [x] x := ⟨[x], List.Perm.refl _, by simp [dstep_one, distL, pairsL, sumA, absI_self], by rw [dstep_one]; simp⟩
theorem step2 {a b x : Int} (hab : a ≤ b) {t : List Int} (ht : t.length = 2) (hx : x ∈ t) : Step 2 [a, b] t x := by
  obtain ⟨u, hu⟩ : ∃ u, t = [x, u] ∨ t = [u, x] := by
    match t, ht with
    | [c, d], _ =>
      simp at hx
      rcases hx with rfl | rfl
      · exact ⟨d, .inl rfl⟩
      · exact ⟨c, .inr rfl⟩
  unfold Step
  rw [dstep2]
  by_cases h1 : x ≤ a
  · rw [if_pos h1]
    refine ⟨[x, u], ?_, ?_, by simp; omega⟩
    · rcases hu with rfl | rfl
      · exact List.Perm.refl _
      · exact List.Perm.swap u x []
    · rcases hu with rfl | rfl <;> simp only [distL, pairsL, sumA, absI] <;> omega
  · rw [if_neg h1]
    by_cases h2 : x ≤ b
    · rw [if_pos h2]
      by_cases h3 : b = x
      · rw [if_pos h3]; subst h3
        exact ⟨t, List.Perm.refl _, by simp only [absI_self]; omega, by simp; omega⟩
      · rw [if_neg h3]
        refine ⟨t, List.Perm.refl _, ?_, by simp; omega⟩
        rcases hu with rfl | rfl <;> simp only [distL, pairsL, sumA, absI] <;> omega
    · rw [if_neg h2]
      refine ⟨[u, x], ?_, ?_, by simp; omega⟩
      · rcases hu with rfl | rfl
        · exact List.Perm.swap x u []
        · exact List.Perm.refl _
      · rcases hu with rfl | rfl <;> simp only [distL, pairsL, sumA, absI] <;> omega
theorem abs_le {a b : Int} (h : a ≤ b) : absI a b = b - a := by unfold absI; omega
theorem abs_ge {a b : Int} (h : b ≤ a) : absI a b = a - b := by unfold absI; omega
/-- To match the nearer one is no dearer. -/
theorem swap_lo {x a k u : Int} (h1 : x ≤ a) (h2 : a ≤ k) : absI a x + absI k u ≤ absI k x + absI a u := by unfold absI; omega
theorem swap_hi {x a k u : Int} (h1 : a ≤ x) (h2 : k ≤ a) : absI a x + absI k u ≤ absI k x + absI a u := by unfold absI; omega
theorem near_by {a b u m : Int} (h : 0 ≤ m) (hb : b = a + m ∨ b = a - m) : absI b u ≤ absI a u + m := by unfold absI; omega
theorem perm3a (x u v : Int) : [x, u, v].Perm [u, x, v] := List.Perm.swap u x [v]
theorem perm3b (x u v : Int) : [u, x, v].Perm [u, v, x] := List.Perm.cons u (List.Perm.swap v x [])
theorem step3 {a b c x : Int} (hab : a ≤ b) (hbc : b ≤ c) {t : List Int} (ht : t.length = 3) (hx : x ∈ t) : Step 3 [a, b, c] t x := by
  obtain ⟨u, v, hu⟩ := mem3 ht hx
  have p1 := perm3a x u v
  have p2 := perm3b x u v
  unfold Step
  rw [dstep3]
  have e1 := abs_le hab
  have e2 := abs_le hbc
  have e3 := abs_le (show a ≤ c by omega)
  by_cases h1 : x ≤ a
  · rw [if_pos h1]
    have g1 := abs_ge h1
    have g2 := abs_le (show x ≤ b by omega)
    have g3 := abs_le (show x ≤ c by omega)
    have g4 := abs_ge (show x ≤ b by omega)
    have g5 := abs_ge (show x ≤ c by omega)
    rcases hu with rfl | rfl | rfl
    · refine ⟨[x, u, v], List.Perm.refl _, ?_, by simp; omega⟩
      simp only [distL, pairsL, sumA, absI_self, g1, g2, g3, e1, e2, e3]; omega
    · refine ⟨[x, u, v], p1, ?_, by simp; omega⟩
      have := swap_lo (u := u) h1 hab
      simp only [distL, pairsL, sumA, absI_self, g1, g2, g3, e1, e2, e3] at this ⊢; omega
    · refine ⟨[x, v, u], (perm3a x v u).trans (((perm3b x v u)).trans (List.Perm.swap u v [x])), ?_, by simp; omega⟩
      have := swap_lo (u := u) h1 (show a ≤ c by omega)
      simp only [distL, pairsL, sumA, absI_self, g1, g2, g3, e1, e2, e3] at this ⊢; omega
  · rw [if_neg h1]
    by_cases h2 : x ≤ b
    · rw [if_pos h2]
      by_cases h3 : b = x
      · rw [if_pos h3]; subst h3
        exact ⟨t, List.Perm.refl _, by simp only [absI_self]; omega, by simp; omega⟩
      · rw [if_neg h3]
        obtain ⟨m, hm⟩ : ∃ m, min (x - a) (b - x) = m := ⟨_, rfl⟩
        rw [hm]
        have hm0 : 0 < m ∧ m ≤ x - a ∧ m ≤ b - x := by omega
        have f1 := abs_le (show a + m ≤ b - m by omega)
        have f2 := abs_le (show a + m ≤ c by omega)
        have f3 := abs_le (show b - m ≤ c by omega)
        have g1 := abs_le (show a ≤ x by omega)
        have g2 := abs_ge (show x ≤ b by omega)
        have g3 := abs_le (show a + m ≤ x by omega)
        have g4 := abs_ge (show x ≤ b - m by omega)
        clear hm
        rcases hu with rfl | rfl | rfl
        · refine ⟨[x, u, v], List.Perm.refl _, ?_, by simp; omega⟩
          have := near_by (u := u) (show 0 ≤ m by omega) (show b - m = b + m ∨ b - m = b - m from .inr rfl)
          simp only [distL, pairsL, sumA, f1, f2, f3, g1, g2, g3, g4, e1, e2, e3]; omega
        · refine ⟨[u, x, v], List.Perm.refl _, ?_, by simp; omega⟩
          have := near_by (u := u) (show 0 ≤ m by omega) (show a + m = a + m ∨ a + m = a - m from .inl rfl)
          simp only [distL, pairsL, sumA, f1, f2, f3, g1, g2, g3, g4, e1, e2, e3]; omega
        · refine ⟨[u, x, v], p2, ?_, by simp; omega⟩
          have k1 := near_by (u := u) (show 0 ≤ m by omega) (show a + m = a + m ∨ a + m = a - m from .inl rfl)
          have k2 := swap_lo (u := v) h2 hbc
          simp only [distL, pairsL, sumA, f1, f2, f3, g1, g2, g3, g4, e1, e2, e3] at k2 ⊢; omega
    · rw [if_neg h2]
      by_cases h3 : x ≤ c
      · rw [if_pos h3]
        by_cases h4 : c = x
        · rw [if_pos h4]; subst h4
          exact ⟨t, List.Perm.refl _, by simp only [absI_self]; omega, by simp; omega⟩
        · rw [if_neg h4]
          obtain ⟨m, hm⟩ : ∃ m, min (x - b) (c - x) = m := ⟨_, rfl⟩
          rw [hm]
          have hm0 : 0 < m ∧ m ≤ x - b ∧ m ≤ c - x := by omega
          have f1 := abs_le (show a ≤ b + m by omega)
          have f2 := abs_le (show a ≤ c - m by omega)
          have f3 := abs_le (show b + m ≤ c - m by omega)
          have g1 := abs_le (show b ≤ x by omega)
          have g2 := abs_ge (show x ≤ c by omega)
          have g3 := abs_le (show b + m ≤ x by omega)
          have g4 := abs_ge (show x ≤ c - m by omega)
          clear hm
          rcases hu with rfl | rfl | rfl
          · refine ⟨[u, x, v], p1.symm, ?_, by simp; omega⟩
            have k1 := near_by (u := v) (show 0 ≤ m by omega) (show c - m = c + m ∨ c - m = c - m from .inr rfl)
            have k2 := swap_hi (u := u) (show b ≤ x by omega) hab
            simp only [distL, pairsL, sumA, f1, f2, f3, g1, g2, g3, g4, e1, e2, e3] at k2 ⊢; omega
          · refine ⟨[u, x, v], List.Perm.refl _, ?_, by simp; omega⟩
            have k1 := near_by (u := v) (show 0 ≤ m by omega) (show c - m = c + m ∨ c - m = c - m from .inr rfl)
            simp only [distL, pairsL, sumA, f1, f2, f3, g1, g2, g3, g4, e1, e2, e3]; omega
          · refine ⟨[u, v, x], List.Perm.refl _, ?_, by simp; omega⟩
            have k1 := near_by (u := v) (show 0 ≤ m by omega) (show b + m = b + m ∨ b + m = b - m from .inl rfl)
            simp only [distL, pairsL, sumA, f1, f2, f3, g1, g2, g3, g4, e1, e2, e3]; omega
      · rw [if_neg h3]
        have g1 := abs_le (show a ≤ x by omega)
        have g2 := abs_le (show b ≤ x by omega)
        have g3 := abs_le (show c ≤ x by omega)
        rcases hu with rfl | rfl | rfl
        · refine ⟨[v, u, x], ((perm3a v u x).trans (perm3b v u x)).trans (List.Perm.swap x u [v]), ?_, by simp; omega⟩
          have := swap_hi (u := v) (show c ≤ x by omega) (show a ≤ c by omega)
          simp only [distL, pairsL, sumA, absI_self, g1, g2, g3, e1, e2, e3] at this ⊢; omega
        · refine ⟨[u, v, x], p2.symm, ?_, by simp; omega⟩
          have := swap_hi (u := v) (show c ≤ x by omega) hbc
          simp only [distL, pairsL, sumA, absI_self, g1, g2, g3, e1, e2, e3] at this ⊢; omega
        · refine ⟨[u, v, x], List.Perm.refl _, ?_, by simp; omega⟩
          simp only [distL, pairsL, sumA, absI_self, g1, g2, g3, e1, e2, e3]; omega
theorem dbl_step {n : Nat} (hn0 : 0 < n) (hn : n ≤ 3) {q t : List Int} {x : Int} (hq : q.length = n) (hs : q.Pairwise (· ≤ ·)) (ht : t.length = n) (hx : x ∈ t) : Step n q t x := by
  rcases (show n = 1 ∨ n = 2 ∨ n = 3 by omega) with rfl | rfl | rfl
  · match q, hq, t, ht with
    | [a], _, [y], _ =>
      simp at hx; subst hx; exact step1
  · match q, hq with
    | [a, b], _ =>
      simp at hs; exact step2 hs ht hx
  · match q, hq with
    | [a, b, c], _ =>
      simp at hs; exact step3 hs.1.1 hs.2 ht hx
theorem dbl_run {n : Nat} (hn0 : 0 < n) (hn : n ≤ 3) : ∀ {a q t t' : List Int} {d : Int}, q.length = n → q.Pairwise (· ≤ ·) → t.length = n → RunTo (NxS n) t a t' d → costS dstep q a ≤ n * d + n * distL q t + pairsL q := by
  intro a
  induction a with
  | nil =>
    rintro q t t' d _ _ _ ⟨rfl, rfl⟩
    have := distL_nonneg q t'
    have := pairsL_nonneg q
    simp only [costS]
    rcases (show n = 1 ∨ n = 2 ∨ n = 3 by omega) with rfl | rfl | rfl <;> omega
  | cons x a ih =>
    rintro q t t' d hq hs ht ⟨t1, d1, d2, ⟨i, hi, rfl, rfl⟩, h2, rfl⟩
    have hx : x ∈ t.set i x := List.mem_iff_getElem?.2 ⟨i, by rw [List.getElem?_set, if_pos rfl, if_pos (by omega)]⟩
    obtain ⟨t2, p2, s1, s2⟩ := dbl_step hn0 hn hq hs (by simpa using ht) hx
    obtain ⟨t3, r3, _⟩ := run_perm p2.symm (by simpa using ht) h2
    have hl1 : (dstep q x).2.length = n := by
      unfold dstep; split
      · simpa using hq
      · split
        · simpa using hq
        · simpa using hq
    have := ih hl1 s2 (by rw [p2.length_eq]; simpa using ht) r3
    have hd := distL_tri1 (x := x) (q := q) (t := t) (i := i) (by omega) (by omega)
    simp only [costS]
    rw [sortI_of (List.Perm.refl _) s2]
    rcases (show n = 1 ∨ n = 2 ∨ n = 3 by omega) with rfl | rfl | rfl <;> omega
theorem dbl_law {n : Nat} (hn0 : 0 < n) (hn : n ≤ 3) {s a : List Int} {v : Int} (hs : s.length = n) (h : Best (NxS n) s a v) : (runS dstep s a).1 ≤ n * v + pAll s n := by
  obtain ⟨k, hk⟩ := h.1
  obtain ⟨k2, hk2, _⟩ := run_perm (sortI_perm s).symm hs hk
  have := dbl_run hn0 hn (q := sortI s) (by rw [sortI_len]; exact hs) (sortI_sorted s) (by rw [sortI_len]; exact hs) hk2
  rw [distL_self, pairs_perm (sortI_perm s), ← pAll_pairs (by omega), hs] at this
  rw [runS_fst]; omega

/-- The mirror. -/
def mir (x : Int) : Int := 12 - x
theorem mir_abs (a b : Int) : absI (mir a) (mir b) = absI a b := by unfold absI mir; omega
theorem mir_mir (l : List Int) : (l.map mir).map mir = l := by
  rw [List.map_map]
  conv => rhs; rw [← List.map_id l]
  apply List.map_congr_left
  intro y _; simp [mir]; omega
theorem mir_sort (s : List Int) : sortI (s.map mir) = ((sortI s).map mir).reverse := by
  refine sortI_of ?_ ?_
  · exact ((sortI_perm s).symm.map mir).trans (List.reverse_perm _).symm
  · rw [List.pairwise_reverse, List.pairwise_map]
    exact (sortI_sorted s).imp fun {a b} h => by unfold mir; omega
theorem mir_step {n : Nat} (hn0 : 0 < n) (hn : n ≤ 3) {q : List Int} {x : Int} (hq : q.length = n) (hs : q.Pairwise (· ≤ ·)) :
    dstep (q.map mir).reverse (mir x) = ((dstep q x).1, ((dstep q x).2.map mir).reverse) := by
  rcases (show n = 1 ∨ n = 2 ∨ n = 3 by omega) with rfl | rfl | rfl
  · match q, hq with
    | [a], _ =>
      show dstep [mir a] (mir x) = _
      rw [dstep_one, dstep_one, mir_abs]; rfl
  · match q, hq with
    | [a, b], _ =>
      simp at hs
      show dstep [mir b, mir a] (mir x) = _
      rw [dstep2, dstep2]
      unfold mir absI
      repeat' split
      all_goals simp only [List.map_cons, List.map_nil, List.reverse_cons, List.reverse_nil, List.nil_append, List.cons_append, Prod.mk.injEq, List.cons.injEq, and_true, true_and]
      all_goals omega
  · match q, hq with
    | [a, b, c], _ =>
      simp at hs
      show dstep [mir c, mir b, mir a] (mir x) = _
      rw [dstep3, dstep3]
      unfold mir absI
      repeat' split
      all_goals simp only [List.map_cons, List.map_nil, List.reverse_cons, List.reverse_nil, List.nil_append, List.cons_append, Prod.mk.injEq, List.cons.injEq, and_true, true_and]
      all_goals omega

theorem runS_on {n : Nat} : ∀ {a p p' : List Int} {d : Int}, onL n p → AllIn a 0 12 → RunTo (NxS n) p a p' d → onL n p' ∧ 0 ≤ d ∧ d ≤ 12 * a.length := by
  intro a
  induction a with
  | nil => rintro p p' d hp _ ⟨rfl, rfl⟩; exact ⟨hp, by omega, by simp⟩
  | cons x a ih =>
    rintro p p' d hp ha ⟨k1, d1, d2, ⟨i, hi, rfl, rfl⟩, h2, rfl⟩
    have hx := ha x (by simp)
    obtain ⟨b1, b2, b3⟩ := ih (onL_set hp i hx) (fun y hy => ha y (by simp [hy])) h2
    have := absI_in (onL_getD hp i) hx
    refine ⟨b1, by omega, ?_⟩
    rw [List.length_cons, Int.natCast_add, Int.mul_add]; omega
theorem dstep_len (q : List Int) (x : Int) : (dstep q x).2.length = q.length := by
  unfold dstep; split
  · simp
  · split <;> simp
theorem mir_run {n : Nat} (hn0 : 0 < n) (hn : n ≤ 3) {s : List Int} (hs : s.length = n) (a : List Int) :
    runS dstep (s.map mir) (a.map mir) = ((runS dstep s a).1, ((runS dstep s a).2.map mir).reverse) := by
  unfold runS
  rw [mir_sort]
  suffices ∀ (a : List Int) (c : Int) (q : List Int), q.length = n → q.Pairwise (· ≤ ·) →
      (a.map mir).foldl (fun (st : Int × List Int) x => (st.1 + (dstep st.2 x).1, sortI (dstep st.2 x).2)) (c, (q.map mir).reverse) =
      ((a.foldl (fun (st : Int × List Int) x => (st.1 + (dstep st.2 x).1, sortI (dstep st.2 x).2)) (c, q)).1, ((a.foldl (fun (st : Int × List Int) x => (st.1 + (dstep st.2 x).1, sortI (dstep st.2 x).2)) (c, q)).2.map mir).reverse) from
    this a 0 (sortI s) (by rw [sortI_len]; exact hs) (sortI_sorted s)
  intro a
  induction a with
  | nil => intro c q _ _; rfl
  | cons x a ih =>
    intro c q hq hs2
    rw [List.map_cons, List.foldl_cons, List.foldl_cons]
    dsimp only
    rw [mir_step hn0 hn hq hs2]
    dsimp only
    have h1 : sortI (((dstep q x).2.map mir).reverse) = ((sortI (dstep q x).2).map mir).reverse := by
      rw [sortI_eq (List.reverse_perm _), mir_sort]
    rw [h1]
    exact ih _ _ (by rw [sortI_len, dstep_len]; exact hq) (sortI_sorted _)
theorem mir_getD {p : List Int} {i : Nat} (h : i < p.length) : (p.map mir).getD i 0 = mir (p.getD i 0) := by
  rw [List.getD_eq_getElem?_getD, List.getElem?_map, List.getD_eq_getElem?_getD, List.getElem?_eq_getElem h]; rfl
theorem mir_runTo {n : Nat} : ∀ {a p p' : List Int} {d : Int}, p.length = n → RunTo (NxS n) p a p' d → RunTo (NxS n) (p.map mir) (a.map mir) (p'.map mir) d := by
  intro a
  induction a with
  | nil => rintro p p' d _ ⟨rfl, rfl⟩; exact ⟨rfl, rfl⟩
  | cons x a ih =>
    rintro p p' d hp ⟨p1, d1, d2, ⟨i, hi, rfl, rfl⟩, h2, rfl⟩
    exact ⟨_, _, _, ⟨i, hi, by rw [List.map_set], by rw [mir_getD (by omega), mir_abs]⟩, ih (by simpa using hp) h2, rfl⟩
theorem mir_best {n : Nat} {s a : List Int} {v u : Int} (hs : s.length = n) (h : Best (NxS n) s a v) (h' : Best (NxS n) (s.map mir) (a.map mir) u) : v = u := by
  obtain ⟨k, hk⟩ := h.1
  obtain ⟨k2, hk2⟩ := h'.1
  have h1 := h'.2 _ _ (mir_runTo hs hk)
  have h2 := mir_runTo (by simpa using hs) hk2
  rw [mir_mir, mir_mir] at h2
  have := h.2 _ _ h2
  omega
end Go.Proofs.Ytgljpdfmejganaa
