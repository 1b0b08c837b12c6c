/- Plain laws of a clock: its pages, its hand, and that it goes as what came first does where nothing is asked for twice; no program in sight. -/
import Derived.Test.YtgljpdfmejganaaClockPlain
import Derived.Test.YtgljpdfmejganaaStores
import Derived.Test.YtgljpdfmejganaaFifoPlain
namespace Go.Proofs.Ytgljpdfmejganaa
theorem clock_snoc (s : Nat) (l : List Int) (y : Int) : clockRun s (l ++ [y]) = clockStep s (clockRun s l) y := by unfold clockRun; rw [List.foldl_append]; rfl
theorem map_set_fst (h : List (Int × Bool)) (i : Nat) (x : Int × Bool) : (h.set i x).map Prod.fst = (h.map Prod.fst).set i x.1 := by rw [List.map_set]
theorem set_same {α : Type} (l : List α) (i : Nat) (x : α) (h : l[i]? = some x) : l.set i x = l := by
  obtain ⟨hi, rfl⟩ := List.getElem?_eq_some_iff.1 h
  exact List.set_getElem_self hi
theorem sweep_fst (s : Nat) : ∀ (f : Nat) (h : List (Int × Bool)) (i : Nat), (sweep s f h i).1.map Prod.fst = h.map Prod.fst := by
  intro f
  induction f with
  | zero => intro h i; rfl
  | succ f ih =>
    intro h i
    rw [sweep]
    split
    · rw [ih, map_set_fst]
      cases hi : h[i]? with
      | none => rw [List.set_eq_of_length_le]; rw [List.getElem?_eq_none_iff] at hi; simpa using hi
      | some x =>
        rw [List.getD_eq_getElem?_getD, hi]
        exact set_same _ _ _ (by rw [List.getElem?_map, hi]; rfl)
    · rfl
theorem sweep_lt (s : Nat) (hs : 1 ≤ s) : ∀ (f : Nat) (h : List (Int × Bool)) (i : Nat), i < s → (sweep s f h i).2 < s := by
  intro f
  induction f with
  | zero => intro h i hi; exact hi
  | succ f ih =>
    intro h i hi
    rw [sweep]
    split
    · exact ih _ _ (Nat.mod_lt _ (by omega))
    · exact hi
theorem sweepM_fst (s : Nat) (h : List (Int × Bool)) (i : Nat) : (sweepM s h i).1.map Prod.fst = h.map Prod.fst := sweep_fst s _ h i
theorem sweepM_len (s : Nat) (h : List (Int × Bool)) (i : Nat) : (sweepM s h i).1.length = h.length := by have := congrArg List.length (sweepM_fst s h i); simpa using this

def pagesC (s : Nat) (l : List Int) : List Int := (clockRun s l).held.map Prod.fst
theorem clock_hits_snoc (s : Nat) (l : List Int) (y : Int) : (clockRun s (l ++ [y])).hits = (clockRun s l).hits ++ [hasB (pagesC s l) y] := by
  rw [clock_snoc, clockStep]
  by_cases h : y ∈ (clockRun s l).held.map Prod.fst
  · rw [if_pos h]; simp only [show hasB (pagesC s l) y = true from (hasB_iff _ _).2 h]
  · rw [if_neg h, show hasB (pagesC s l) y = false from (hasB_false _ _).2 h]; split <;> rfl
theorem clock_len (s : Nat) (l : List Int) : (clockRun s l).hits.length = l.length := by
  induction l using list_snoc_ind with
  | h0 => rfl
  | h1 l y ih => rw [clock_hits_snoc]; simp [ih]
theorem clock_at (s : Nat) (l : List Int) : ∀ k y, l[k]? = some y → (clockRun s l).hits[k]? = some (hasB (pagesC s (l.take k)) y) := by
  induction l using list_snoc_ind with
  | h0 => intro k y hk; simp at hk
  | h1 l z ih =>
    intro k y hk
    rw [clock_hits_snoc]
    by_cases hl : k < l.length
    · rw [List.getElem?_append_left hl] at hk
      rw [List.getElem?_append_left (by rw [clock_len]; exact hl), List.take_append_of_le_length (by omega)]
      exact ih k y hk
    · have hk2 : k = l.length := by have := (List.getElem?_eq_some_iff.1 hk).1; simp at this; omega
      subst hk2
      simp at hk
      subst hk
      rw [List.getElem?_append_right (by rw [clock_len]; omega), clock_len]
      simp
theorem pagesC_snoc (s : Nat) (l : List Int) (y : Int) : pagesC s (l ++ [y]) =
    if y ∈ pagesC s l then pagesC s l else if (pagesC s l).length < s then pagesC s l ++ [y] else (pagesC s l).set (sweepM s (clockRun s l).held (clockRun s l).hand).2 y := by
  unfold pagesC
  rw [clock_snoc, clockStep]
  by_cases h : y ∈ (clockRun s l).held.map Prod.fst
  · rw [if_pos h, if_pos h]
    show ((clockRun s l).held.set _ _).map Prod.fst = _
    rw [map_set_fst]
    obtain ⟨b, hb⟩ := held_at h
    exact set_same _ _ _ (by rw [List.getElem?_map, hb]; rfl)
  · rw [if_neg h, if_neg h]
    rw [List.length_map]
    split
    · show (_ ++ [(y, true)]).map Prod.fst = _; rw [List.map_append]; rfl
    · show ((sweepM s _ _).1.set _ (y, true)).map Prod.fst = _; rw [map_set_fst, sweepM_fst]
theorem hand_snoc (s : Nat) (l : List Int) (y : Int) : (clockRun s (l ++ [y])).hand =
    if y ∈ pagesC s l ∨ (pagesC s l).length < s then (clockRun s l).hand else ((sweepM s (clockRun s l).held (clockRun s l).hand).2 + 1) % s := by
  unfold pagesC
  rw [clock_snoc, clockStep, List.length_map]
  by_cases h : y ∈ (clockRun s l).held.map Prod.fst
  · rw [if_pos h, if_pos (.inl h)]
  · rw [if_neg h]
    by_cases h2 : (clockRun s l).held.length < s
    · rw [if_pos h2, if_pos (.inr h2)]
    · rw [if_neg h2, if_neg (by rintro (a | a); exact h a; exact h2 a)]
theorem nodup_set {l : List Int} (h : l.Nodup) {i : Nat} {y : Int} (hy : y ∉ l) : (l.set i y).Nodup := by
  induction l generalizing i with
  | nil => simp
  | cons x l ih =>
    rw [List.nodup_cons] at h
    rcases i with _ | i
    · rw [List.set_cons_zero, List.nodup_cons]; exact ⟨fun hh => hy (by simp [hh]), h.2⟩
    · rw [List.set_cons_succ, List.nodup_cons]
      refine ⟨fun hh => ?_, ih h.2 (fun hh => hy (by simp [hh]))⟩
      rcases List.mem_or_eq_of_mem_set hh with a | a
      · exact h.1 a
      · exact hy (by simp [a])
structure ClockInv1 (s : Nat) (l : List Int) : Prop where
  nd : (pagesC s l).Nodup
  le : (pagesC s l).length ≤ s
  sub : ∀ x ∈ pagesC s l, x ∈ l
  few : someN l ≤ s → (clockRun s l).hand = 0 ∧ ∀ x ∈ l, x ∈ pagesC s l
  many : s < someN l → (pagesC s l).length = s
  hand : (clockRun s l).hand < s
theorem clock_inv1 (s : Nat) (hs : 1 ≤ s) (l : List Int) : ClockInv1 s l := by
  induction l using list_snoc_ind with
  | h0 => exact ⟨by simp [pagesC, clockRun], by simp [pagesC, clockRun], by simp [pagesC, clockRun], fun _ => ⟨rfl, by simp⟩, fun h => by simp [someN, dd] at h, hs⟩
  | h1 l y ih =>
    obtain ⟨i1, i2, i3, i4, i5, i6⟩ := ih
    have hp := pagesC_snoc s l y
    have hh := hand_snoc s l y
    by_cases hm : y ∈ pagesC s l
    · rw [if_pos hm] at hp
      rw [if_pos (.inl hm)] at hh
      have hs2 : someN (l ++ [y]) = someN l := by rw [someN_snoc, if_pos (i3 y hm)]; rfl
      refine ⟨by rw [hp]; exact i1, by rw [hp]; exact i2, fun x hx => by rw [hp] at hx; simp [i3 x hx], fun h => ?_, fun h => by rw [hp]; exact i5 (by omega), by rw [hh]; exact i6⟩
      obtain ⟨a, b⟩ := i4 (by omega)
      refine ⟨by rw [hh]; exact a, fun x hx => ?_⟩
      rw [hp]
      rw [List.mem_append, List.mem_singleton] at hx
      rcases hx with hx | hx
      · exact b x hx
      · subst hx; exact hm
    · rw [if_neg hm] at hp
      by_cases hr : (pagesC s l).length < s
      · rw [if_pos hr] at hp
        rw [if_pos (.inr hr)] at hh
        have hfew : someN l ≤ s := by
          by_cases h : someN l ≤ s
          · exact h
          · have := i5 (by omega); omega
        obtain ⟨a, b⟩ := i4 hfew
        have hyl : y ∉ l := fun h => hm (b y h)
        have hsl : someN l = (pagesC s l).length := someN_set i1 (fun x => ⟨b x, i3 x⟩)
        have hs2 : someN (l ++ [y]) = someN l + 1 := by rw [someN_snoc, if_neg hyl]
        refine ⟨?_, by rw [hp]; simp; omega, ?_, fun _ => ⟨by rw [hh]; exact a, ?_⟩, fun h => by omega, by rw [hh]; exact i6⟩
        · rw [hp, List.nodup_append]
          exact ⟨i1, by simp, fun u hu v hv => by rw [List.mem_singleton] at hv; subst hv; exact fun e => hm (e ▸ hu)⟩
        · intro x hx
          rw [hp, List.mem_append, List.mem_singleton] at hx
          rcases hx with hx | hx
          · simp [i3 x hx]
          · simp [hx]
        · intro x hx
          rw [hp]
          rw [List.mem_append, List.mem_singleton] at hx ⊢
          rcases hx with hx | hx
          · exact .inl (b x hx)
          · exact .inr hx
      · rw [if_neg hr] at hp
        rw [if_neg (by rintro (a | a); exact hm a; exact hr a)] at hh
        have hlen : (pagesC s (l ++ [y])).length = s := by rw [hp, List.length_set]; omega
        refine ⟨by rw [hp]; exact nodup_set i1 hm, by omega, ?_, fun h => ?_, fun _ => hlen, by rw [hh]; exact Nat.mod_lt _ (by omega)⟩
        · intro x hx
          rw [hp] at hx
          rcases List.mem_or_eq_of_mem_set hx with a | a
          · simp [i3 x a]
          · simp [a]
        · exfalso
          have h0 := someN_mono l y
          obtain ⟨a, b⟩ := i4 (by omega)
          have hyl : y ∉ l := fun h => hm (b y h)
          have hsl : someN l = (pagesC s l).length := someN_set i1 (fun x => ⟨b x, i3 x⟩)
          rw [someN_snoc, if_neg hyl] at h
          omega

/-! ### Where nothing is asked for while it is there. -/
def Marked (h : List (Int × Bool)) (p : Nat → Bool) : Prop := ∀ j q m, h[j]? = some (q, m) → m = p j
theorem sweep_round (s : Nat) : ∀ (d i : Nat) (h : List (Int × Bool)) (f : Nat), i + d = s → 1 ≤ d → h.length = s → Marked h (fun j => decide (i ≤ j)) → d + 1 ≤ f →
    (sweep s f h i).2 = 0 ∧ Marked (sweep s f h i).1 (fun _ => false) := by
  intro d
  induction d with
  | zero => intro i h f _ h1; omega
  | succ d ih =>
    intro i h f hid _ hl hM hf
    obtain ⟨f, rfl⟩ : ∃ f', f = f' + 1 := ⟨f - 1, by omega⟩
    obtain ⟨q, m, hqm⟩ : ∃ q m, h[i]? = some (q, m) := ⟨_, _, List.getElem?_eq_getElem (show i < h.length by omega)⟩
    have hm : m = true := by have := hM i q m hqm; simpa using this
    subst hm
    have hg : h.getD i (0, false) = (q, true) := by rw [List.getD_eq_getElem?_getD, hqm]; rfl
    have hM' : Marked (h.set i (q, false)) (fun j => decide (i + 1 ≤ j)) := by
      intro j q' m' hj
      rw [List.getElem?_set] at hj
      split at hj
      · rename_i hij
        subst hij
        split at hj
        · injection hj with hj; injection hj with _ hj; subst hj; simp
        · cases hj
      · rename_i hij
        have := hM j q' m' hj
        rw [this]
        by_cases a : i ≤ j
        · have : i + 1 ≤ j := by omega
          simp [a, this]
        · have : ¬ i + 1 ≤ j := by omega
          simp [a, this]
    rw [sweep, hg, if_pos rfl]
    rcases d with _ | d
    · have hz : (i + 1) % s = 0 := by rw [show i + 1 = s by omega]; exact Nat.mod_self s
      rw [hz]
      obtain ⟨f, rfl⟩ : ∃ f', f = f' + 1 := ⟨f - 1, by omega⟩
      obtain ⟨q0, m0, h0⟩ : ∃ q1 m1, (h.set i (q, false))[0]? = some (q1, m1) := ⟨_, _, List.getElem?_eq_getElem (show 0 < (h.set i (q, false)).length by simp; omega)⟩
      have hm0 : m0 = false := by have := hM' 0 q0 m0 h0; simpa using this
      subst hm0
      have hg0 : (h.set i (q, false)).getD 0 (0, false) = (q0, false) := by rw [List.getD_eq_getElem?_getD, h0]; rfl
      rw [sweep, hg0]
      refine ⟨rfl, fun j q' m' hj => ?_⟩
      have h1 := hM' j q' m' hj
      have h2 : j < (h.set i (q, false)).length := (List.getElem?_eq_some_iff.1 hj).1
      rw [List.length_set] at h2
      rw [h1]; simp; omega
    · have hz : (i + 1) % s = i + 1 := Nat.mod_eq_of_lt (by omega)
      rw [hz]
      exact ih (i + 1) _ f (by omega) (by omega) (by simp; omega) hM' (by omega)
theorem marks_all (h : List (Int × Bool)) (hM : Marked h (fun _ => true)) : marks h = h.length := by
  unfold marks
  rw [List.filter_eq_self.2]
  intro x hx
  obtain ⟨j, hj⟩ := List.mem_iff_getElem?.1 hx
  exact hM j x.1 x.2 hj
theorem set_drop_take (l : List Int) (i : Nat) (y : Int) (h : i < l.length) : (l.set i y).drop (i + 1) = l.drop (i + 1) ∧ (l.set i y).take (i + 1) = l.take i ++ [y] := by
  refine ⟨by rw [List.drop_set_of_lt (by omega)], ?_⟩
  rw [List.take_succ_eq_append_getElem (by simpa using h)]
  congr 1
  · rw [List.take_set_of_le (Nat.le_refl _)]
  · simp
structure ClockInv2 (s : Nat) (l : List Int) : Prop where
  hits : (fifoRun s l).1 = (clockRun s l).hits
  held : (fifoRun s l).2 = (pagesC s l).drop (clockRun s l).hand ++ (pagesC s l).take (clockRun s l).hand
  mark : Marked (clockRun s l).held (fun j => decide ((clockRun s l).hand = 0 ∨ j < (clockRun s l).hand))
  full : 0 < (clockRun s l).hand → (pagesC s l).length = s
theorem clock_inv2 (s : Nat) (hs : 1 ≤ s) (l : List Int) : (∀ b ∈ (clockRun s l).hits, b = false) → ClockInv2 s l := by
  induction l using list_snoc_ind with
  | h0 => intro _; exact ⟨rfl, rfl, fun j q m h => by simp [clockRun] at h, fun h => by simp [clockRun] at h⟩
  | h1 l y ih =>
    intro hno
    have hh := clock_hits_snoc s l y
    have hno1 : ∀ b ∈ (clockRun s l).hits, b = false := fun b hb => hno b (by rw [hh]; simp [hb])
    have hy : hasB (pagesC s l) y = false := hno _ (by rw [hh]; simp)
    have hm := (hasB_false _ _).1 hy
    obtain ⟨j1, j2, j3, j4⟩ := ih hno1
    have hI := clock_inv1 s hs l
    have hp := pagesC_snoc s l y
    have hd := hand_snoc s l y
    rw [if_neg hm] at hp
    have hmf : y ∉ (fifoRun s l).2 := by
      rw [j2]
      intro hc
      rw [List.mem_append] at hc
      rcases hc with hc | hc
      · exact hm (List.mem_of_mem_drop hc)
      · exact hm (List.mem_of_mem_take hc)
    have hf := fifoRun_snoc s l y
    rw [fifoStep, if_neg hmf] at hf
    have hfl : (fifoRun s l).2.length = (pagesC s l).length := by
      rw [j2, List.length_append, List.length_drop, List.length_take]
      have := hI.hand
      by_cases h0 : (clockRun s l).hand = 0
      · rw [h0]; omega
      · have := j4 (by omega); omega
    have hcs : clockRun s (l ++ [y]) = clockStep s (clockRun s l) y := clock_snoc s l y
    have hmem : ¬ y ∈ (clockRun s l).held.map Prod.fst := hm
    rw [clockStep, if_neg hmem] at hcs
    have hlp : (pagesC s l).length = (clockRun s l).held.length := by unfold pagesC; rw [List.length_map]
    by_cases hr : (pagesC s l).length < s
    · rw [if_pos hr] at hp
      rw [if_pos (.inr hr)] at hd
      rw [if_pos (by omega)] at hcs
      rw [hfl, if_neg (by omega)] at hf
      have h0 : (clockRun s l).hand = 0 := by
        by_cases h : 0 < (clockRun s l).hand
        · have := j4 h; omega
        · omega
      rw [h0] at hd j2 j3
      refine ⟨by rw [hf, hh, j1, hy], by rw [hf, hd, hp, j2]; simp, ?_, fun h => by omega⟩
      intro j q m hj
      rw [hcs] at hj
      rw [hd]
      simp only [List.getElem?_append] at hj
      split at hj
      · have := j3 j q m hj; simpa using this
      · have : m = true := by
          rcases hx : j - (clockRun s l).held.length with _ | t
          · rw [hx] at hj; simp at hj; exact hj.2
          · rw [hx] at hj; simp at hj
        simp [this]
    · have hlen : (pagesC s l).length = s := by have := hI.le; omega
      rw [if_neg hr] at hp
      rw [if_neg (by rintro (a | a); exact hm a; exact hr a)] at hd
      rw [if_neg (by omega)] at hcs
      rw [hfl, if_pos hlen] at hf
      -- where the hand comes to stand, and the marks
      have hsw : (sweepM s (clockRun s l).held (clockRun s l).hand).2 = (clockRun s l).hand ∧ Marked (sweepM s (clockRun s l).held (clockRun s l).hand).1 (fun j => decide (j < (clockRun s l).hand)) := by
        by_cases h0 : (clockRun s l).hand = 0
        · rw [h0] at j3 ⊢
          have hall : Marked (clockRun s l).held (fun _ => true) := fun j q m hj => by have := j3 j q m hj; simpa using this
          have h1 := sweep_round s s 0 (clockRun s l).held (marks (clockRun s l).held + 1) (by omega) hs (by omega) (fun j q m hj => by have := hall j q m hj; simpa using this) (by rw [marks_all _ hall]; omega)
          exact ⟨h1.1, fun j q m hj => by have := h1.2 j q m hj; simpa using this⟩
        · have hlt : (clockRun s l).hand < (clockRun s l).held.length := by have := hI.hand; omega
          obtain ⟨q, m, hqm⟩ : ∃ q m, (clockRun s l).held[(clockRun s l).hand]? = some (q, m) := ⟨_, _, List.getElem?_eq_getElem hlt⟩
          have hmf2 : m = false := by have := j3 _ q m hqm; simp [h0] at this; exact this
          subst hmf2
          rw [sweepM_stop hqm]
          exact ⟨rfl, fun j q m hj => by have := j3 j q m hj; simpa [h0] using this⟩
      obtain ⟨hsw1, hsw2⟩ := hsw
      rw [hsw1] at hp hd
      have hhl : (clockRun s l).hand < (pagesC s l).length := by have := hI.hand; omega
      obtain ⟨d1, d2⟩ := set_drop_take (pagesC s l) (clockRun s l).hand y hhl
      have hq1 : (fifoRun s l).2.drop 1 ++ [y] = (pagesC s l).drop ((clockRun s l).hand + 1) ++ ((pagesC s l).take (clockRun s l).hand ++ [y]) := by
        rw [j2, List.drop_append_of_le_length (by simp; omega), List.drop_drop, List.append_assoc]
      refine ⟨by rw [hf, hh, j1, hy], ?_, ?_, ?_⟩
      · rw [hf, hq1, hp, hd]
        by_cases hw : (clockRun s l).hand + 1 = s
        · rw [hw, Nat.mod_self, List.drop_zero, List.take_zero, List.append_nil, ← d2, hw, List.drop_of_length_le (by omega), List.take_of_length_le (by simp; omega)]; rfl
        · rw [Nat.mod_eq_of_lt (by have := hI.hand; omega), d1, d2]
      · intro j q m hj
        rw [hcs, hsw1] at hj
        rw [hd]
        simp only [List.getElem?_set] at hj
        split at hj
        · rename_i hij
          subst hij
          split at hj
          · injection hj with hj; injection hj with _ hj
            subst hj
            by_cases hw : (clockRun s l).hand + 1 = s
            · rw [hw, Nat.mod_self]; simp
            · rw [Nat.mod_eq_of_lt (by have := hI.hand; omega)]; simp
          · cases hj
        · rename_i hij
          have h1 := hsw2 j q m hj
          have hjl : j < (sweepM s (clockRun s l).held (clockRun s l).hand).1.length := (List.getElem?_eq_some_iff.1 hj).1
          rw [sweepM_len] at hjl
          by_cases hw : (clockRun s l).hand + 1 = s
          · rw [hw, Nat.mod_self, h1]; simp; omega
          · rw [Nat.mod_eq_of_lt (by have := hI.hand; omega), h1]
            by_cases a : j < (clockRun s l).hand
            · have : j < (clockRun s l).hand + 1 := by omega
              simp [a, this]
            · have : ¬ j < (clockRun s l).hand + 1 := by omega
              simp [a, this]
      · intro _; rw [hp, List.length_set]; exact hlen
theorem clock_fifo (s : Nat) (hs : 1 ≤ s) (l : List Int) (h : ∀ b ∈ (clockRun s l).hits, b = false) : (clockRun s l).hits = (fifoRun s l).1 := (clock_inv2 s hs l h).hits.symm
end Go.Proofs.Ytgljpdfmejganaa
