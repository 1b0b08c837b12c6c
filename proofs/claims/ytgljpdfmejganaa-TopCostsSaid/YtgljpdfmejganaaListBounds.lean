/- Plain words: what moving to the front, moving on, and leaving as it is cost, and the least of all; no program in sight. -/
import Derived.Test.YtgljpdfmejganaaListInv
namespace Go.Proofs.Ytgljpdfmejganaa

def rk (n : Nat) (k : List Int) (x : Int) : Nat := (k.take n).idxOf x
section
variable {n : Nat} {k : List Int} {p x y : Int}
theorem in_take (h : goodW n k) (hp : 0 ≤ p ∧ p < n) : p ∈ k.take n := (goodW_idx h hp).1
theorem take_nodup (h : goodW n k) : (k.take n).Nodup := (goodW_take h).1.nodup_iff.2 (risingI_nodup n)
theorem rk_inj (h : goodW n k) (hx : 0 ≤ x ∧ x < n) (hy : 0 ≤ y ∧ y < n) (e : rk n k x = rk n k y) : x = y := by
  have h1 := idxOf_get (in_take h hx)
  have h2 := idxOf_get (in_take h hy)
  unfold rk at e
  rw [e] at h1
  exact Option.some.inj (h1.symm.trans h2)
theorem rk_lt (h : goodW n k) (hx : 0 ≤ x ∧ x < n) : rk n k x < n := (goodW_idx h hx).2.1
theorem rk_swap {i : Nat} (h : goodW n k) (h1 : 1 ≤ i) (h2 : i < n) (hx : 0 ≤ x ∧ x < n) : rk n (swapI k i) x = tau i (rk n k x) := by
  obtain ⟨g1, g2⟩ := goodW_take h
  have hl : (k.take n).length = n := by rw [g1.length_eq, risingI_len]
  have e : (swapI k i).take n = swapI (k.take n) i := by
    conv => lhs; rw [g2]
    rw [swapI_app h1 (by omega)]
    exact List.take_left' (by rw [swapI_len]; exact hl)
  unfold rk
  rw [e]
  exact idx_swap (take_nodup h) h1 (by omega) (in_take h hx)
theorem move_take {to : Nat} (h : goodW n k) (hp : 0 ≤ p ∧ p < n) (hto : to ≤ rk n k p) : (moveL k (rk n k p) to p).take n = moveL (k.take n) (rk n k p) to p ∧ moveL k (rk n k p) to p = moveL (k.take n) (rk n k p) to p ++ List.replicate (4 - n) 0 := by
  obtain ⟨g1, g2⟩ := goodW_take h
  have hl : (k.take n).length = n := by rw [g1.length_eq, risingI_len]
  have hlt := rk_lt h hp
  have e := moveL_app (l := k.take n) (r := List.replicate (4 - n) 0) (i := rk n k p) (j := to) (x := p) (by omega) hto
  rw [← g2] at e
  refine ⟨?_, e⟩
  rw [e]
  exact List.take_left' ((show (moveL (k.take n) (rk n k p) to p).length = (k.take n).length from (moveL_perm (idxOf_get (in_take h hp)) to).length_eq).trans hl)
theorem rk_move {to : Nat} (h : goodW n k) (hp : 0 ≤ p ∧ p < n) (hto : to ≤ rk n k p) (hx : 0 ≤ x ∧ x < n) : rk n (moveL k (rk n k p) to p) x = sig (rk n k p) to (rk n k x) := by
  show ((moveL k (rk n k p) to p).take n).idxOf x = _
  rw [(move_take h hp hto).1]
  exact idx_move (take_nodup h) (in_take h hp) hto (in_take h hx)
theorem path_lip {f : List Int → Nat} (hf : ∀ z i, goodW n z → 1 ≤ i → i < n → f z ≤ f (swapI z i) + 1) : ∀ {e : Nat} {k1 : List Int}, NbPath n e k k1 → goodW n k → f k ≤ f k1 + e := by
  intro e
  induction e with
  | zero => rintro k1 rfl _; omega
  | succ e ih =>
    rintro k1 ⟨z, hz, i, i1, i2, rfl⟩ h
    have h1 := ih hz h
    have h2 := hf z i (nbPath_good (y := z) hz h) i1 i2
    omega
theorem path_inv {L : List Int} (hL : L.Perm (risingI n)) : ∀ {e : Nat} {k1 : List Int}, NbPath n e k k1 → goodW n k → inv (rk n k1) L ≤ inv (rk n k) L + e := by
  intro e
  induction e with
  | zero => rintro k1 rfl _; omega
  | succ e ih =>
    rintro k1 ⟨z, hz, i, i1, i2, rfl⟩ h
    have h1 := ih hz h
    have hgz := nbPath_good (y := z) hz h
    have hin : ∀ x ∈ L, 0 ≤ x ∧ x < n := fun x hx => risingI_mem.1 (hL.mem_iff.1 hx)
    have h2 := inv_swap (r := rk n z) (r' := rk n (swapI z i)) (i := i) (hL.nodup_iff.2 (risingI_nodup n)) (fun x hx y hy e => rk_inj hgz (hin x hx) (hin y hy) e) (fun x hx => rk_swap hgz i1 i2 (hin x hx))
    omega
end

/-! ### Runs by a way -/
def runFrom (tof : Nat → Nat) (L : List Int) (a : List Int) : Int × List Int := a.foldl (fun st x => (st.1 + (stepL tof st.2 x).1, (stepL tof st.2 x).2)) (0, L)
theorem foldS (tof : Nat → Nat) : ∀ (a : List Int) (s : Int) (L : List Int), a.foldl (fun st x => (st.1 + (stepL tof st.2 x).1, (stepL tof st.2 x).2)) (s, L) = (s + (runFrom tof L a).1, (runFrom tof L a).2) := by
  intro a
  induction a with
  | nil => intro s L; simp [runFrom]
  | cons x a ih =>
    intro s L
    unfold runFrom
    rw [List.foldl_cons, List.foldl_cons, ih, ih]
    simp only [Prod.mk.injEq, and_true]; omega
theorem runFrom_cons (tof : Nat → Nat) (L : List Int) (x : Int) (a : List Int) : runFrom tof L (x :: a) = ((L.idxOf x : Int) + 1 + (runFrom tof (moveL L (L.idxOf x) (tof (L.idxOf x)) x) a).1, (runFrom tof (moveL L (L.idxOf x) (tof (L.idxOf x)) x) a).2) := by
  conv => lhs; unfold runFrom
  rw [List.foldl_cons, foldS]
  simp [stepL]
theorem runL_from (tof : Nat → Nat) (n : Nat) (a : List Int) : runL tof n a = runFrom tof (risingI n) a := rfl

/-- MOVING TO THE FRONT. -/
theorem twice_from {n : Nat} : ∀ (a L k k' : List Int) (d : Int), AllIn a 0 ((n : Int) - 1) → L.Perm (risingI n) → goodW n k → RunTo (NxW n) k (stepsW a) k' d → (runFrom toF L a).1 + a.length ≤ inv (rk n k) L + 2 * d := by
  intro a
  induction a with
  | nil =>
    rintro L k k' d _ _ _ ⟨_, rfl⟩
    simp [runFrom]
  | cons x a ih =>
    rintro L k k' d ha hL hk ⟨k1, d1, d2, ⟨e, rfl, hpath⟩, ⟨k2, d3, d4, ⟨to, hto, rfl, rfl⟩, hrun, rfl⟩, rfl⟩
    have hx : 0 ≤ x ∧ x < n := by have := ha x (by simp); omega
    have hk1 := nbPath_good (y := k1) hpath hk
    have hto' : to ≤ rk n k1 x := hto
    have hk2 : goodW n (moveL k1 (rk n k1 x) to x) := goodW_move hk1 hx hto
    have hxL : x ∈ L := hL.mem_iff.2 (risingI_mem.2 hx)
    have hLn : L.Nodup := hL.nodup_iff.2 (risingI_nodup n)
    have hin : ∀ y ∈ L, 0 ≤ y ∧ y < n := fun y hy => risingI_mem.1 (hL.mem_iff.1 hy)
    have hmp := moveL_perm (idxOf_get hxL) 0
    have hI := ih (moveL L (L.idxOf x) 0 x) (moveL k1 (rk n k1 x) to x) k' d4 (fun y hy => ha y (by simp [hy])) (hmp.trans hL) hk2 hrun
    have h1 := path_inv hL hpath hk
    obtain ⟨X, Y, Z, e1, e2, e3⟩ := move_split (idxOf_get hxL) (Nat.zero_le _)
    obtain rfl : X = [] := List.eq_nil_of_length_eq_zero e2
    simp only [List.nil_append, List.length_nil, Nat.zero_add] at e1 e3
    have em : moveL L (L.idxOf x) 0 x = x :: (Y ++ Z) := by
      have := moveL_mid [] Y Z x
      simp only [List.nil_append, List.length_nil, Nat.zero_add] at this
      rw [← e1, e3] at this
      exact this
    have h2 := inv_front (r := rk n k1) (A := Y) (B := Z) (p := x) (e1 ▸ hLn) (fun a ha b hb e => rk_inj hk1 (hin a (e1 ▸ ha)) (hin b (e1 ▸ hb)) e)
    rw [← e1, e3, ← em] at h2
    have hmn : (x :: (Y ++ Z)).Nodup := em ▸ hmp.nodup_iff.2 hLn
    rw [List.nodup_cons] at hmn
    have hin2 : ∀ y ∈ x :: (Y ++ Z), 0 ≤ y ∧ y < n := fun y hy => hin y (hmp.mem_iff.1 (em ▸ hy))
    have h3 := inv_fwd (r := rk n k1) (r' := rk n (moveL k1 (rk n k1 x) to x)) (j := rk n k1 x) (to := to) (p := x) (l := Y ++ Z) hmn.1
      (fun y hy e => by
        have := rk_inj hk1 (hin2 y (by simp [List.mem_append.1 hy])) hx e
        subst this; exact hmn.1 hy) rfl hto' (fun y hy => rk_move hk1 hx hto' (hin2 y hy))
    rw [← em] at h3
    rw [runFrom_cons, List.length_cons]
    show ((L.idxOf x : Int) + 1 + (runFrom toF (moveL L (L.idxOf x) 0 x) a).1) + ((a.length + 1 : Nat) : Int) ≤ _
    have h4 : (((k1.take n).idxOf x : Nat) : Int) = rk n k1 x := rfl
    rw [h4]
    omega
/-- Each looking costs one at least. -/
theorem each_one {n : Nat} (hn : n ≤ 4) : ∀ (a k k' : List Int) (d : Int), AllIn a 0 ((n : Int) - 1) → goodW n k → RunTo (NxW n) k (stepsW a) k' d → (a.length : Int) ≤ d := by
  intro a
  induction a with
  | nil => rintro k k' d _ _ ⟨_, rfl⟩; simp
  | cons x a ih =>
    rintro k k' d ha hk ⟨k1, d1, d2, ⟨e, rfl, hpath⟩, ⟨k2, d3, d4, hacc, hrun, rfl⟩, rfl⟩
    have hx : 0 ≤ x ∧ x < n := by have := ha x (by simp); omega
    have hk1 := nbPath_good (y := k1) hpath hk
    obtain ⟨h1, h2, h3⟩ := accW_good hk1 hx hn hacc
    have := ih k2 k' d4 (fun y hy => ha y (by simp [hy])) h1 hrun
    rw [List.length_cons]; omega
/-- A way is a run. -/
theorem way_run {n : Nat} {tof : Nat → Nat} (ht : ∀ i, tof i ≤ i) : ∀ (a k : List Int), AllIn a 0 ((n : Int) - 1) → goodW n k → ∃ k', RunTo (NxW n) k (stepsW a) k' (runFrom tof (k.take n) a).1 := by
  intro a
  induction a with
  | nil => intro k _ _; exact ⟨k, rfl, rfl⟩
  | cons x a ih =>
    intro k ha hk
    have hx : 0 ≤ x ∧ x < n := by have := ha x (by simp); omega
    have hto := ht (rk n k x)
    obtain ⟨k', hr⟩ := ih (moveL k (rk n k x) (tof (rk n k x)) x) (fun y hy => ha y (by simp [hy])) (goodW_move hk hx hto)
    rw [(move_take hk hx hto).1] at hr
    refine ⟨k', k, 0, _, ⟨0, rfl, rfl⟩, ⟨_, (rk n k x : Int) + 1, _, ⟨tof (rk n k x), hto, rfl, rfl⟩, hr, rfl⟩, ?_⟩
    rw [runFrom_cons]
    show (rk n k x : Int) + 1 + _ = _
    unfold rk; omega
theorem start_take (n : Nat) : (startW n).take n = risingI n := List.take_left' (risingI_len n)
theorem way_best {n : Nat} {tof : Nat → Nat} (ht : ∀ i, tof i ≤ i) {a : List Int} {v : Int} (ha : AllIn a 0 ((n : Int) - 1)) (hb : Best (NxW n) (startW n) (stepsW a) v) : v ≤ (runL tof n a).1 := by
  obtain ⟨k', hr⟩ := way_run ht a (startW n) ha (startW_good n)
  rw [start_take] at hr
  exact hb.2 _ _ hr
theorem rising_idx {n : Nat} {x : Int} (hx : 0 ≤ x ∧ x < n) : ((risingI n).idxOf x : Int) = x := by
  have : (risingI n)[x.toNat]? = some x := by
    unfold risingI
    rw [List.getElem?_map, List.getElem?_range (by omega)]
    simp; omega
  rw [idxOf_eq (risingI_nodup n) this]; omega
theorem stay_move {l : List Int} {x : Int} (h : x ∈ l) : moveL l (l.idxOf x) (l.idxOf x) x = l := by
  obtain ⟨X, Y, Z, e1, e2, e3⟩ := move_split (idxOf_get h) (Nat.le_refl _)
  obtain rfl : Y = [] := List.eq_nil_of_length_eq_zero (by omega)
  have := moveL_mid X [] Z x
  simp only [List.length_nil, Nat.add_zero, List.nil_append] at this e1
  rw [e2, ← e1] at this
  exact this
def sumI (a : List Int) : Int := a.foldl (· + ·) 0
theorem sumI_cons (x : Int) (a : List Int) : sumI (x :: a) = x + sumI a := by
  have : ∀ (a : List Int) (s : Int), a.foldl (· + ·) s = s + sumI a := by
    intro a
    induction a with
    | nil => intro s; simp [sumI]
    | cons y a ih => intro s; unfold sumI; rw [List.foldl_cons, List.foldl_cons, ih, ih]; omega
  unfold sumI
  rw [List.foldl_cons, this]; unfold sumI; omega
theorem stay_cost {n : Nat} : ∀ (a : List Int), AllIn a 0 ((n : Int) - 1) → (runFrom (fun i => i) (risingI n) a).1 = sumI a + a.length := by
  intro a
  induction a with
  | nil => intro _; rfl
  | cons x a ih =>
    intro ha
    have hx : 0 ≤ x ∧ x < n := by have := ha x (by simp); omega
    rw [runFrom_cons, stay_move (risingI_mem.2 hx), ih (fun y hy => ha y (by simp [hy])), rising_idx hx, sumI_cons, List.length_cons]
    show x + 1 + (sumI a + a.length) = _
    omega
theorem start_inv (n : Nat) : inv (rk n (startW n)) (risingI n) = 0 := by
  refine inv_start ?_
  unfold risingI
  rw [List.pairwise_map]
  refine List.pairwise_lt_range.imp_of_mem ?_
  intro a b ha hb h
  have h1 := List.mem_range.1 ha
  have h2 := List.mem_range.1 hb
  have e1 := rising_idx (n := n) (x := (a : Int)) (by omega)
  have e2 := rising_idx (n := n) (x := (b : Int)) (by omega)
  have e3 := start_take n
  unfold rk
  rw [e3]
  show (risingI n).idxOf (a : Int) < (risingI n).idxOf (b : Int)
  omega
theorem twice_best {n : Nat} {a : List Int} {v : Int} (ha : AllIn a 0 ((n : Int) - 1)) (hb : Best (NxW n) (startW n) (stepsW a) v) : (runL toF n a).1 + a.length ≤ 2 * v := by
  obtain ⟨k', hr⟩ := hb.1
  have := twice_from a (risingI n) (startW n) k' v ha (List.Perm.refl _) (startW_good n) hr
  rw [start_inv] at this
  rw [runL_from]; omega
theorem len_best {n : Nat} (hn : n ≤ 4) {a : List Int} {v : Int} (ha : AllIn a 0 ((n : Int) - 1)) (hb : Best (NxW n) (startW n) (stepsW a) v) : (a.length : Int) ≤ v := by
  obtain ⟨k', hr⟩ := hb.1
  exact each_one hn a _ k' v ha (startW_good n) hr

/-! ### Always the same -/
theorem same_lip {n : Nat} {x : Int} (hx : 0 ≤ x ∧ x < n) : ∀ z i, goodW n z → 1 ≤ i → i < n → rk n z x ≤ rk n (swapI z i) x + 1 := by
  intro z i hz h1 h2
  rw [rk_swap hz h1 h2 hx]
  unfold tau
  by_cases h3 : rk n z x = i
  · rw [if_pos h3]; omega
  · rw [if_neg h3]
    by_cases h4 : rk n z x + 1 = i
    · rw [if_pos h4]; omega
    · rw [if_neg h4]; omega
theorem same_best {n : Nat} (hn : n ≤ 4) {x : Int} (hx : 0 ≤ x ∧ x < n) {m : Nat} {v : Int} (hb : Best (NxW n) (startW n) (stepsW (List.replicate (m + 1) x)) v) : v = x + (m + 1 : Nat) ∧ (runL toF n (List.replicate (m + 1) x)).1 = x + (m + 1 : Nat) := by
  have hall : ∀ m, AllIn (List.replicate m x) 0 ((n : Int) - 1) := fun m y hy => by have := (List.mem_replicate.1 hy).2; omega
  have h1 : (runL toF n (List.replicate (m + 1) x)).1 = x + (m + 1 : Nat) := by
    rw [runL_from, List.replicate_succ, runFrom_cons, rising_idx hx]
    have hmem := risingI_mem.2 hx
    obtain ⟨X, Y, Z, e1, e2, e3⟩ := move_split (idxOf_get hmem) (Nat.zero_le _)
    obtain rfl : X = [] := List.eq_nil_of_length_eq_zero e2
    have em := moveL_mid [] Y Z x
    simp only [List.nil_append, List.length_nil, Nat.zero_add] at e1 e3 em
    rw [← e1, e3] at em
    have hh : ∀ (k : Nat) (M : List Int), (runFrom toF (x :: M) (List.replicate k x)).1 = k := by
      intro k
      induction k with
      | zero => intro M; rfl
      | succ k ih =>
        intro M
        rw [List.replicate_succ, runFrom_cons]
        have e0 : (x :: M).idxOf x = 0 := by simp
        rw [e0]
        have : moveL (x :: M) 0 (toF 0) x = x :: M := rfl
        rw [this, ih]
        simp; omega
    show x + 1 + (runFrom toF (moveL (risingI n) ((risingI n).idxOf x) 0 x) (List.replicate m x)).1 = _
    rw [em, hh]; omega
  refine ⟨?_, h1⟩
  have h2 := way_best (tof := toF) (fun _ => Nat.zero_le _) (hall (m + 1)) hb
  obtain ⟨k', hr⟩ := hb.1
  rw [List.replicate_succ] at hr
  obtain ⟨k1, d1, d2, ⟨e, rfl, hpath⟩, ⟨k2, d3, d4, hacc, hrun, rfl⟩, rfl⟩ := hr
  have hk1 := nbPath_good (y := k1) hpath (startW_good n)
  have h3 := path_lip (same_lip hx) hpath (startW_good n)
  have h4 := rising_idx hx
  have h5 : rk n (startW n) x = (risingI n).idxOf x := by unfold rk; rw [start_take]
  have hg2 := (accW_good hk1 hx hn hacc).1
  obtain ⟨to, g1, rfl, rfl⟩ := hacc
  have h6 := each_one hn (List.replicate m x) _ k' d4 (hall m) hg2 hrun
  rw [List.length_replicate] at h6
  have h7 : ((k1.take n).idxOf x : Int) = rk n k1 x := rfl
  rw [h7] at h2 ⊢
  omega

/-! ### The order at the end -/
theorem dd_nodup (l : List Int) : (dd l).Nodup := by
  induction l using list_snoc_ind with
  | h0 => simp [dd]
  | h1 l y ih =>
    rw [dd_snoc]
    split
    · exact ih
    · rename_i h
      rw [List.nodup_append]
      exact ⟨ih, by simp, fun a ha b hb => by simp at hb; subst hb; rintro rfl; exact h ha⟩
theorem dd_cons (x : Int) (l : List Int) : dd (x :: l) = x :: (dd l).filter (fun y => y ≠ x) := by
  induction l using list_snoc_ind with
  | h0 => simp [dd]
  | h1 l y ih =>
    rw [← List.cons_append, dd_snoc, dd_snoc, ih]
    by_cases hy : y ∈ dd l
    · rw [if_pos hy]
      have : y ∈ x :: (dd l).filter (fun y => y ≠ x) := by
        by_cases e : y = x
        · simp [e]
        · rw [List.mem_cons]; exact .inr (List.mem_filter.2 ⟨hy, by simpa using e⟩)
      rw [if_pos this]
    · rw [if_neg hy, List.filter_append]
      by_cases e : y = x
      · subst e
        rw [if_pos (by simp)]; simp
      · rw [if_neg (by
          rw [List.mem_cons]
          rintro (h | h)
          · exact e h
          · exact hy (List.mem_filter.1 h).1)]
        simp [e]
theorem mtf_erase {l : List Int} (hn : l.Nodup) {x : Int} (h : x ∈ l) : moveL l (l.idxOf x) 0 x = x :: l.filter (fun y => y ≠ x) := by
  obtain ⟨X, Y, Z, e1, e2, e3⟩ := move_split (idxOf_get h) (Nat.zero_le _)
  obtain rfl : X = [] := List.eq_nil_of_length_eq_zero e2
  have em := moveL_mid [] Y Z x
  simp only [List.nil_append, List.length_nil, Nat.zero_add] at e1 e3 em
  rw [← e1, e3] at em
  rw [em]
  congr 1
  rw [e1] at hn ⊢
  rw [List.filter_append, List.filter_cons_of_neg (by simp)]
  have h1 := List.nodup_append.1 hn
  have hY : Y.filter (fun y => y ≠ x) = Y := List.filter_eq_self.2 fun y hy => by
    have := h1.2.2 y hy x (by simp)
    simpa using this
  have hZ : Z.filter (fun y => y ≠ x) = Z := List.filter_eq_self.2 fun y hy => by
    have := (List.nodup_cons.1 h1.2.1).1
    have : y ≠ x := by rintro rfl; exact this hy
    simpa using this
  rw [hY, hZ]
theorem front_order {n : Nat} (a : List Int) : AllIn a 0 ((n : Int) - 1) → (runL toF n a).2 = dd (a.reverse ++ risingI n) := by
  induction a using list_snoc_ind with
  | h0 =>
    intro _
    have : ∀ l : List Int, l.Nodup → dd l = l := by
      intro l
      induction l using list_snoc_ind with
      | h0 => intro _; rfl
      | h1 l y ih =>
        intro h
        rw [List.nodup_append] at h
        rw [dd_snoc, ih h.1, if_neg (fun hy => h.2.2 y hy y (by simp) rfl)]
    show risingI n = dd ([] ++ risingI n)
    rw [List.nil_append, this _ (risingI_nodup n)]
  | h1 a x ih =>
    intro ha
    have h1 := ih (fun y hy => ha y (by simp [hy]))
    have hx : 0 ≤ x ∧ x < n := by have := ha x (by simp); omega
    have e : (a ++ [x]).reverse ++ risingI n = x :: (a.reverse ++ risingI n) := by simp
    rw [runL_snoc, e, dd_cons, ← h1]
    show moveL (runL toF n a).2 _ 0 x = _
    have hnd : (runL toF n a).2.Nodup := by rw [h1]; exact dd_nodup _
    exact mtf_erase hnd (by rw [h1, mem_dd]; simp [risingI_mem.2 hx])

/-! ### The closed fact -/
theorem fact_run : runL toF 3 [2, 2, 1] = (7, [1, 2, 0]) := by decide +kernel
def psiA (k : List Int) : Nat := rk 3 k 1 + 1
def psiB (k : List Int) : Nat := rk 3 k 2 + rk 3 k 1 + 2
def psiC (k : List Int) : Nat := rk 3 k 2 + rk 3 k 1 + 3 + if rk 3 k 1 < rk 3 k 2 then 1 else 0
theorem tau_cases (i a : Nat) (h : 1 ≤ i) : (a = i ∧ tau i a + 1 = i) ∨ (a + 1 = i ∧ tau i a = i) ∨ (a ≠ i ∧ a + 1 ≠ i ∧ tau i a = a) := by
  unfold tau
  by_cases h3 : a = i
  · rw [if_pos h3]; omega
  · rw [if_neg h3]
    by_cases h4 : a + 1 = i
    · rw [if_pos h4]; omega
    · rw [if_neg h4]; omega
theorem sig_cases (j to a : Nat) (h : to ≤ j) : (a = j ∧ sig j to a = to) ∨ (to ≤ a ∧ a < j ∧ sig j to a = a + 1) ∨ (a ≠ j ∧ ¬ (to ≤ a ∧ a < j) ∧ sig j to a = a) := by
  unfold sig
  by_cases h3 : a = j
  · rw [if_pos h3]; omega
  · rw [if_neg h3]
    by_cases h4 : to ≤ a ∧ a < j
    · rw [if_pos h4]; omega
    · rw [if_neg h4]; omega
theorem rk12 {k : List Int} (h : goodW 3 k) : rk 3 k 1 ≠ rk 3 k 2 := fun e => by have := rk_inj h (by omega) (by omega) e; omega
theorem lipB : ∀ z i, goodW 3 z → 1 ≤ i → i < 3 → psiB z ≤ psiB (swapI z i) + 1 := by
  intro z i hz h1 h2
  unfold psiB
  rw [rk_swap hz h1 h2 (by omega), rk_swap hz h1 h2 (by omega)]
  have := rk12 hz
  have h5 := tau_cases i (rk 3 z 1) h1
  have h6 := tau_cases i (rk 3 z 2) h1
  omega
theorem lipC : ∀ z i, goodW 3 z → 1 ≤ i → i < 3 → psiC z ≤ psiC (swapI z i) + 1 := by
  intro z i hz h1 h2
  unfold psiC
  rw [rk_swap hz h1 h2 (by omega), rk_swap hz h1 h2 (by omega)]
  have := rk12 hz
  have h5 := tau_cases i (rk 3 z 1) h1
  have h6 := tau_cases i (rk 3 z 2) h1
  by_cases h7 : rk 3 z 1 < rk 3 z 2
  · rw [if_pos h7]
    by_cases h8 : tau i (rk 3 z 1) < tau i (rk 3 z 2)
    · rw [if_pos h8]; omega
    · rw [if_neg h8]; omega
  · rw [if_neg h7]
    by_cases h8 : tau i (rk 3 z 1) < tau i (rk 3 z 2)
    · rw [if_pos h8]; omega
    · rw [if_neg h8]; omega
theorem fact_low {k' : List Int} {d : Int} (h : RunTo (NxW 3) (startW 3) (stepsW [2, 2, 1]) k' d) : 7 ≤ d := by
  obtain ⟨k1, d1, d2, ⟨e1, rfl, p1⟩, ⟨k2, d3, d4, ⟨to1, t1, rfl, rfl⟩, ⟨k3, d5, d6, ⟨e2, rfl, p2⟩, ⟨k4, d7, d8, ⟨to2, t2, rfl, rfl⟩, ⟨k5, d9, d10, ⟨e3, rfl, p3⟩, ⟨k6, d11, d12, ⟨to3, t3, rfl, rfl⟩, ⟨_, rfl⟩, rfl⟩, rfl⟩, rfl⟩, rfl⟩, rfl⟩, rfl⟩ := h
  have g0 := startW_good 3
  have g1 := nbPath_good (y := k1) p1 g0
  have t1' : to1 ≤ rk 3 k1 2 := t1
  have g2 : goodW 3 (moveL k1 (rk 3 k1 2) to1 2) := goodW_move g1 (by omega) t1
  have g3 := nbPath_good (y := k3) p2 g2
  have t2' : to2 ≤ rk 3 k3 2 := t2
  have g4 : goodW 3 (moveL k3 (rk 3 k3 2) to2 2) := goodW_move g3 (by omega) t2
  have g5 := nbPath_good (y := k5) p3 g4
  have a1 := path_lip lipC p1 g0
  have a2 := path_lip lipB p2 g2
  have a3 := path_lip (same_lip (n := 3) (x := 1) (by omega)) p3 g4
  have b1 := rk_move (x := 1) g1 (by omega) t1' (by omega)
  have b2 := rk_move (x := 2) g1 (by omega) t1' (by omega)
  have b3 := rk_move (x := 1) g3 (by omega) t2' (by omega)
  have s0 : psiC (startW 3) = 7 := by decide +kernel
  rw [s0] at a1
  have n1 := rk12 g1
  have n3 := rk12 g3
  have c1 := sig_cases (rk 3 k1 2) to1 (rk 3 k1 1) t1'
  have c2 := sig_cases (rk 3 k1 2) to1 (rk 3 k1 2) t1'
  have c3 := sig_cases (rk 3 k3 2) to2 (rk 3 k3 1) t2'
  change psiB (moveL k1 (rk 3 k1 2) to1 2) ≤ _ at a2
  change rk 3 (moveL k3 (rk 3 k3 2) to2 2) 1 ≤ _ at a3
  unfold psiB at a2
  unfold psiC at a1
  rw [b1, b2] at a2
  rw [b3] at a3
  have r1 : ((k1.take 3).idxOf 2 : Int) = rk 3 k1 2 := rfl
  have r3 : ((k3.take 3).idxOf 2 : Int) = rk 3 k3 2 := rfl
  have r5 : ((k5.take 3).idxOf 1 : Int) = rk 3 k5 1 := rfl
  rw [r1, r3, r5]
  by_cases h7 : rk 3 k1 1 < rk 3 k1 2
  · rw [if_pos h7] at a1; omega
  · rw [if_neg h7] at a1; omega
theorem fact_best {v : Int} (hb : Best (NxW 3) (startW 3) (stepsW [2, 2, 1]) v) : v = 7 := by
  have h1 := way_best (n := 3) (tof := toF) (fun _ => Nat.zero_le _) (a := [2, 2, 1]) (by intro x hx; simp at hx; omega) hb
  rw [fact_run] at h1
  obtain ⟨k', hr⟩ := hb.1
  have h2 := fact_low hr
  have : v ≤ 7 := h1
  omega
end Go.Proofs.Ytgljpdfmejganaa
