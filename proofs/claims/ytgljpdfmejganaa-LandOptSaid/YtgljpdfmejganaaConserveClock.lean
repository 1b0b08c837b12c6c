/- Plain law: who gives each page a second chance: where few pages are asked for, few are not there; no program in sight. -/
import Derived.Test.YtgljpdfmejganaaConserve
namespace Go.Proofs.Ytgljpdfmejganaa
def rot (h : List (Int × Bool)) (i : Nat) : List (Int × Bool) := h.drop i ++ h.take i
theorem rot_len (h : List (Int × Bool)) (i : Nat) : (rot h i).length = h.length := by unfold rot; rw [List.length_append, List.length_drop, List.length_take]; omega
theorem rot_mem (h : List (Int × Bool)) (i : Nat) (x : Int × Bool) : x ∈ rot h i ↔ x ∈ h := by
  unfold rot
  rw [List.mem_append, or_comm, ← List.mem_append, List.take_append_drop]
theorem rot_set {s : Nat} {h : List (Int × Bool)} {i : Nat} (x : Int × Bool) (hl : h.length = s) (hi : i < s) : rot (h.set i x) ((i + 1) % s) = (rot h i).tail ++ [x] := by
  have e1 : (rot h i).tail = h.drop (i + 1) ++ h.take i := by
    unfold rot
    rw [List.drop_eq_getElem_cons (by omega)]; rfl
  have e2 : (h.set i x).drop (i + 1) = h.drop (i + 1) := List.drop_set_of_lt (by omega)
  have e3 : (h.set i x).take (i + 1) = h.take i ++ [x] := by
    rw [List.take_succ_eq_append_getElem (by simp; omega), List.take_set_of_le (Nat.le_refl _)]; simp
  rw [e1]
  by_cases hw : i + 1 = s
  · rw [hw, Nat.mod_self]
    unfold rot
    have e4 := e3
    rw [List.take_of_length_le (by simp; omega)] at e4
    rw [List.drop_zero, List.take_zero, List.append_nil, List.drop_of_length_le (show h.length ≤ s by omega), List.nil_append, e4]
  · rw [Nat.mod_eq_of_lt (by omega)]
    unfold rot
    rw [e2, e3, List.append_assoc]
theorem rot_head {h : List (Int × Bool)} {i : Nat} {x : Int × Bool} (hx : h[i]? = some x) : ∃ R, rot h i = x :: R := by
  obtain ⟨hi, rfl⟩ := List.getElem?_eq_some_iff.1 hx
  unfold rot
  rw [List.drop_eq_getElem_cons hi]
  exact ⟨_, rfl⟩
theorem rot_mark {h : List (Int × Bool)} {i j : Nat} {y x : Int × Bool} (hi : i ≤ h.length) (hj : h[j]? = some y) : ∃ i0, (rot h i)[i0]? = some y ∧ rot (h.set j x) i = (rot h i).set i0 x := by
  have hjl := (List.getElem?_eq_some_iff.1 hj).1
  unfold rot
  by_cases hji : j < i
  · refine ⟨(h.drop i).length + j, ?_, ?_⟩
    · rw [List.getElem?_append_right (by omega), show (h.drop i).length + j - (h.drop i).length = j by omega, List.getElem?_take, if_pos hji]; exact hj
    · rw [List.drop_set_of_lt hji, List.set_append_right _ _ (by omega), show (h.drop i).length + j - (h.drop i).length = j by omega, List.take_set]
  · refine ⟨j - i, ?_, ?_⟩
    · rw [List.getElem?_append_left (by simp; omega), List.getElem?_drop, show i + (j - i) = j by omega]; exact hj
    · rw [List.set_append_left _ _ (by simp; omega), List.take_set_of_le (by omega), List.drop_set, if_neg (by omega)]

def Dq (D : List Int) (x : Int × Bool) : Prop := x.2 = true → x.1 ∈ D
/-- What holds of a clock, from its hand on, since a time: D was asked for since then, F was not there. -/
structure ChanceInv (R : List (Int × Bool)) (D F : List Int) : Prop where
  fd : ∀ p ∈ F, p ∈ D
  fr : ∀ p ∈ F, p ∈ R.map Prod.fst
  on : ∀ (i : Nat) (p : Int), R[i]? = some (p, true) → p ∈ F → (∀ x ∈ R, Dq D x) ∨ ∀ (j : Nat) (x : Int × Bool), i < j → R[j]? = some x → Dq D x
  off : ∀ (i : Nat) (p : Int), R[i]? = some (p, false) → p ∈ F → (∀ x ∈ R, Dq D x) ∧ ∀ (j : Nat) (x : Int × Bool), i < j → R[j]? = some x → x.1 ∈ D
theorem Dq.more {D : List Int} {x : Int × Bool} (h : Dq D x) (y : Int) : Dq (D ++ [y]) x := fun hx => by simp [h hx]
theorem snoc_at {α : Type} {R : List α} {z x : α} {j : Nat} (h : (R ++ [z])[j]? = some x) : R[j]? = some x ∨ (j = R.length ∧ x = z) := by
  rw [List.getElem?_append] at h
  split at h
  · exact .inl h
  · right
    rename_i hj
    rcases hk : j - R.length with _ | t
    · rw [hk] at h; simp at h; exact ⟨by omega, h.symm⟩
    · rw [hk] at h; simp at h
theorem ChanceInv.push {R : List (Int × Bool)} {D F : List Int} (h : ChanceInv R D F) {y : Int} (hy : y ∉ R.map Prod.fst) : ChanceInv (R ++ [(y, true)]) (D ++ [y]) (F ++ [y]) := by
  have hold : ∀ {i p m}, R[i]? = some (p, m) → p ∈ F ++ [y] → p ∈ F := fun {i p m} hi hp => by
    rw [List.mem_append, List.mem_singleton] at hp
    rcases hp with hp | hp
    · exact hp
    · subst hp; exact absurd (List.mem_map.2 ⟨_, List.mem_of_getElem? hi, rfl⟩) hy
  refine ⟨fun p hp => ?_, fun p hp => ?_, fun i p hi hp => ?_, fun i p hi hp => ?_⟩
  · rw [List.mem_append, List.mem_singleton] at hp ⊢
    exact hp.imp (h.fd p) id
  · rw [List.map_append, List.mem_append]
    rw [List.mem_append, List.mem_singleton] at hp
    rcases hp with hp | hp
    · exact .inl (h.fr p hp)
    · subst hp; exact .inr (by simp)
  · rcases snoc_at hi with hi' | ⟨hi', e⟩
    · rcases h.on i p hi' (hold hi' hp) with a | a
      · left
        intro x hx
        rw [List.mem_append, List.mem_singleton] at hx
        rcases hx with hx | hx
        · exact (a x hx).more y
        · subst hx; intro _; simp
      · right
        intro j x hj hx
        rcases snoc_at hx with hx' | ⟨_, e⟩
        · exact (a j x hj hx').more y
        · subst e; intro _; simp
    · right
      intro j x hj hx
      rcases snoc_at hx with hx' | ⟨e', _⟩
      · have := (List.getElem?_eq_some_iff.1 hx').1; omega
      · omega
  · rcases snoc_at hi with hi' | ⟨_, e⟩
    · obtain ⟨a, b⟩ := h.off i p hi' (hold hi' hp)
      refine ⟨fun x hx => ?_, fun j x hj hx => ?_⟩
      · rw [List.mem_append, List.mem_singleton] at hx
        rcases hx with hx | hx
        · exact (a x hx).more y
        · subst hx; intro _; simp
      · rcases snoc_at hx with hx' | ⟨_, e⟩
        · simp [b j x hj hx']
        · subst e; simp
    · injection e with _ e; cases e
theorem ChanceInv.pop {R : List (Int × Bool)} {z : Int × Bool} {D F : List Int} (h : ChanceInv (z :: R) D F) (hz : z.1 ∉ F) : ChanceInv R D F := by
  refine ⟨h.fd, fun p hp => ?_, fun i p hi hp => ?_, fun i p hi hp => ?_⟩
  · have := h.fr p hp
    rw [List.map_cons, List.mem_cons] at this
    rcases this with e | e
    · subst e; exact absurd hp hz
    · exact e
  · rcases h.on (i + 1) p (by simpa using hi) hp with a | a
    · exact .inl fun x hx => a x (by simp [hx])
    · exact .inr fun j x hj hx => a (j + 1) x (by omega) (by simpa using hx)
  · obtain ⟨a, b⟩ := h.off (i + 1) p (by simpa using hi) hp
    exact ⟨fun x hx => a x (by simp [hx]), fun j x hj hx => b (j + 1) x (by omega) (by simpa using hx)⟩
/-- The hand takes a mark away, and goes on. -/
theorem ChanceInv.turn {R : List (Int × Bool)} {q : Int} {D F : List Int} (h : ChanceInv ((q, true) :: R) D F) : ChanceInv (R ++ [(q, false)]) D F := by
  refine ⟨h.fd, fun p hp => ?_, fun i p hi hp => ?_, fun i p hi hp => ?_⟩
  · have := h.fr p hp
    simp at this ⊢
    rcases this with e | e
    · exact .inr e
    · exact .inl e
  · rcases snoc_at hi with hi' | ⟨_, e⟩
    · rcases h.on (i + 1) p (by simpa using hi') hp with a | a
      · left
        intro x hx
        rw [List.mem_append, List.mem_singleton] at hx
        rcases hx with hx | hx
        · exact a x (by simp [hx])
        · subst hx; intro hh; cases hh
      · right
        intro j x hj hx
        rcases snoc_at hx with hx' | ⟨_, e⟩
        · exact a (j + 1) x (by omega) (by simpa using hx')
        · subst e; intro hh; cases hh
    · injection e with _ e; cases e
  · rcases snoc_at hi with hi' | ⟨hi', e⟩
    · obtain ⟨a, b⟩ := h.off (i + 1) p (by simpa using hi') hp
      refine ⟨fun x hx => ?_, fun j x hj hx => ?_⟩
      · rw [List.mem_append, List.mem_singleton] at hx
        rcases hx with hx | hx
        · exact a x (by simp [hx])
        · subst hx; intro hh; cases hh
      · rcases snoc_at hx with hx' | ⟨_, e⟩
        · exact b (j + 1) x (by omega) (by simpa using hx')
        · subst e; exact a (q, true) (by simp) rfl
    · injection e with e _
      subst e
      have hall : ∀ x ∈ R, Dq D x := by
        rcases h.on 0 p rfl hp with a | a
        · exact fun x hx => a x (by simp [hx])
        · intro x hx
          obtain ⟨j, hj⟩ := List.mem_iff_getElem?.1 hx
          exact a (j + 1) x (by omega) (by simpa using hj)
      refine ⟨fun x hx => ?_, fun j x hj hx => ?_⟩
      · rw [List.mem_append, List.mem_singleton] at hx
        rcases hx with hx | hx
        · exact hall x hx
        · subst hx; intro hh; cases hh
      · exfalso
        rcases snoc_at hx with hx' | ⟨e', _⟩
        · have := (List.getElem?_eq_some_iff.1 hx').1; omega
        · omega
/-- What is asked for is marked. -/
theorem ChanceInv.mark {R : List (Int × Bool)} {i0 : Nat} {y : Int} {b : Bool} {D F : List Int} (h : ChanceInv R D F) (hb : R[i0]? = some (y, b)) : ChanceInv (R.set i0 (y, true)) (D ++ [y]) F := by
  have hfst : (R.set i0 (y, true)).map Prod.fst = R.map Prod.fst := by
    rw [List.map_set]; exact set_same _ _ _ (by rw [List.getElem?_map, hb]; rfl)
  have hat : ∀ {j x}, (R.set i0 (y, true))[j]? = some x → (j = i0 ∧ x = (y, true)) ∨ R[j]? = some x := fun {j x} hx => by
    rw [List.getElem?_set] at hx
    split at hx
    · split at hx
      · injection hx with hx; rename_i a _; exact .inl ⟨a.symm, hx.symm⟩
      · cases hx
    · exact .inr hx
  have hG : (∀ x ∈ R, Dq D x) → ∀ x ∈ R.set i0 (y, true), Dq (D ++ [y]) x := fun a x hx => by
    rcases List.mem_or_eq_of_mem_set hx with hx | hx
    · exact (a x hx).more y
    · subst hx; intro _; simp
  refine ⟨fun p hp => by simp [h.fd p hp], fun p hp => by rw [hfst]; exact h.fr p hp, fun i p hi hp => ?_, fun i p hi hp => ?_⟩
  · have hcase : (∀ x ∈ R, Dq D x) ∨ ∀ j x, i < j → R[j]? = some x → Dq D x := by
      rcases hat hi with ⟨e1, e2⟩ | hi'
      · injection e2 with e2 _
        subst e1 e2
        cases b
        · exact .inl (h.off i p hb hp).1
        · exact h.on i p hb hp
      · exact h.on i p hi' hp
    rcases hcase with a | a
    · exact .inl (hG a)
    · right
      intro j x hj hx
      rcases hat hx with ⟨_, e⟩ | hx'
      · subst e; intro _; simp
      · exact (a j x hj hx').more y
  · rcases hat hi with ⟨_, e2⟩ | hi'
    · injection e2 with _ e2; cases e2
    · obtain ⟨a, c⟩ := h.off i p hi' hp
      refine ⟨hG a, fun j x hj hx => ?_⟩
      rcases hat hx with ⟨_, e⟩ | hx'
      · subst e; simp
      · simp [c j x hj hx']
theorem ChanceInv.first {R : List (Int × Bool)} {q y : Int} {D F : List Int} {s : Nat} (h : ChanceInv ((q, false) :: R) D F) (hn : (((q, false) :: R).map Prod.fst).Nodup) (hl : ((q, false) :: R).length = s) (hy : y ∉ ((q, false) :: R).map Prod.fst) (hs : someN (D ++ [y]) ≤ s) : q ∉ F := by
  intro hq
  obtain ⟨_, h1⟩ := h.off 0 q rfl hq
  have h2 := nodup_len_some (a := ((q, false) :: R).map Prod.fst ++ [y]) (b := D ++ [y]) (by
    rw [List.nodup_append]
    exact ⟨hn, by simp, fun u hu v hv => by rw [List.mem_singleton] at hv; subst hv; exact fun e => hy (e ▸ hu)⟩) (fun x hx => by
    rw [List.mem_append, List.mem_singleton] at hx ⊢
    rcases hx with hx | hx
    · left
      rw [List.map_cons, List.mem_cons] at hx
      rcases hx with a | a
      · subst a; exact h.fd _ hq
      · obtain ⟨z, hz, rfl⟩ := List.mem_map.1 a
        obtain ⟨j, hj⟩ := List.mem_iff_getElem?.1 hz
        exact h1 (j + 1) z (by omega) (by simpa using hj)
    · exact .inr hx)
  rw [List.length_append, List.length_singleton, List.length_map] at h2
  omega

theorem sweep_chance {s : Nat} {D F : List Int} : ∀ (f : Nat) (h : List (Int × Bool)) (i : Nat), h.length = s → i < s → ChanceInv (rot h i) D F → ChanceInv (rot (sweep s f h i).1 (sweep s f h i).2) D F := by
  intro f
  induction f with
  | zero => intro h i _ _ hI; exact hI
  | succ f ih =>
    intro h i hl hi hI
    obtain ⟨q, m, hqm⟩ : ∃ q m, h[i]? = some (q, m) := ⟨_, _, List.getElem?_eq_getElem (show i < h.length by omega)⟩
    have hg : h.getD i (0, false) = (q, m) := by rw [List.getD_eq_getElem?_getD, hqm]; rfl
    rw [sweep, hg]
    cases m
    · exact hI
    · rw [if_pos rfl]
      refine ih _ _ (by simp; exact hl) (Nat.mod_lt _ (by omega)) ?_
      rw [rot_set _ hl hi]
      obtain ⟨R, hR⟩ := rot_head hqm
      rw [hR] at hI ⊢
      exact hI.turn
theorem sweepM_free {s : Nat} (hs : 1 ≤ s) : ∀ (n : Nat) (h : List (Int × Bool)) (i : Nat), marks h = n → h.length = s → i < s → ∃ q, (sweepM s h i).1[(sweepM s h i).2]? = some (q, false) := by
  intro n
  induction n with
  | zero =>
    intro h i hm hl hi
    obtain ⟨q, m, hqm⟩ : ∃ q m, h[i]? = some (q, m) := ⟨_, _, List.getElem?_eq_getElem (show i < h.length by omega)⟩
    cases m
    · rw [sweepM_stop hqm]; exact ⟨q, hqm⟩
    · have := marks_set h i q hqm; omega
  | succ n ih =>
    intro h i hm hl hi
    obtain ⟨q, m, hqm⟩ : ∃ q m, h[i]? = some (q, m) := ⟨_, _, List.getElem?_eq_getElem (show i < h.length by omega)⟩
    cases m
    · rw [sweepM_stop hqm]; exact ⟨q, hqm⟩
    · rw [sweepM_on hqm]
      have := marks_set h i q hqm
      exact ih _ _ (by omega) (by simp; exact hl) (Nat.mod_lt _ (by omega))

theorem clock_chance (s : Nat) (hs : 1 ≤ s) (l : List Int) (f : Nat) : ∀ d, f + d ≤ l.length → someN ((l.take (f + d)).drop f) ≤ s →
    ChanceInv (rot (clockRun s (l.take (f + d))).held (clockRun s (l.take (f + d))).hand) ((l.take (f + d)).drop f) (missP (clockRun s l).hits l f (f + d)) ∧ (missP (clockRun s l).hits l f (f + d)).Nodup := by
  intro d
  induction d with
  | zero => intro _ _; rw [Nat.add_zero, seg_self, missP_self]; exact ⟨⟨by simp, by simp, by simp, by simp⟩, by simp⟩
  | succ d ih =>
    intro hd hse
    have hy := List.getElem?_eq_getElem (show f + d < l.length by omega)
    obtain ⟨h1, h2⟩ := ih (by omega) (seg_mono (by omega) hy hse)
    have hb := clock_at s l (f + d) _ hy
    have hI := clock_inv1 s hs (l.take (f + d))
    rw [← Nat.add_assoc, seg_succ (by omega) hy] at hse ⊢
    rw [missP_succ _ _ _ _ _ (by omega) hy, hb, take_succ_of hy, clock_snoc, clockStep]
    have hpl : (pagesC s (l.take (f + d))).length = (clockRun s (l.take (f + d))).held.length := by unfold pagesC; rw [List.length_map]
    have hfst : ∀ x, x ∈ (rot (clockRun s (l.take (f + d))).held (clockRun s (l.take (f + d))).hand).map Prod.fst ↔ x ∈ pagesC s (l.take (f + d)) := fun x => by
      unfold pagesC; rw [List.mem_map, List.mem_map]; simp only [rot_mem]
    by_cases hm : l[f + d] ∈ (clockRun s (l.take (f + d))).held.map Prod.fst
    · rw [if_pos hm, show hasB (pagesC s (l.take (f + d))) l[f + d] = true from (hasB_iff _ _).2 hm, if_neg (by simp), List.append_nil]
      obtain ⟨b, hbb⟩ := held_at hm
      have hhl : (clockRun s (l.take (f + d))).hand ≤ (clockRun s (l.take (f + d))).held.length := by
        by_cases h0 : (pagesC s (l.take (f + d))).length < s
        · have hfew : someN (l.take (f + d)) ≤ s := by
            by_cases h : someN (l.take (f + d)) ≤ s
            · exact h
            · have := hI.many (by omega); omega
          rw [(hI.few hfew).1]; omega
        · have := hI.hand; omega
      obtain ⟨i0, e1, e2⟩ := rot_mark (x := (l[f + d], true)) hhl hbb
      refine ⟨?_, h2⟩
      show ChanceInv (rot ((clockRun s (l.take (f + d))).held.set _ (l[f + d], true)) (clockRun s (l.take (f + d))).hand) _ _
      rw [e2]
      exact h1.mark e1
    · rw [if_neg hm, show hasB (pagesC s (l.take (f + d))) l[f + d] = false from (hasB_false _ _).2 hm, if_pos rfl]
      have hmr : l[f + d] ∉ (rot (clockRun s (l.take (f + d))).held (clockRun s (l.take (f + d))).hand).map Prod.fst := fun h => hm ((hfst _).1 h)
      refine ⟨?_, ?_⟩
      · by_cases hr : (clockRun s (l.take (f + d))).held.length < s
        · rw [if_pos hr]
          have hfew : someN (l.take (f + d)) ≤ s := by
            by_cases h : someN (l.take (f + d)) ≤ s
            · exact h
            · have := hI.many (by omega); omega
          have h0 := (hI.few hfew).1
          show ChanceInv (rot ((clockRun s (l.take (f + d))).held ++ [(l[f + d], true)]) (clockRun s (l.take (f + d))).hand) _ _
          rw [h0] at h1 hmr ⊢
          have e : ∀ h : List (Int × Bool), rot h 0 = h := fun h => by simp [rot]
          rw [e] at h1 hmr ⊢
          exact h1.push hmr
        · rw [if_neg hr]
          have hlen : (clockRun s (l.take (f + d))).held.length = s := by have := hI.le; omega
          show ChanceInv (rot ((sweepM s _ _).1.set (sweepM s _ _).2 (l[f + d], true)) (((sweepM s _ _).2 + 1) % s)) _ _
          have hsl := sweepM_len s (clockRun s (l.take (f + d))).held (clockRun s (l.take (f + d))).hand
          have hlt : (sweepM s (clockRun s (l.take (f + d))).held (clockRun s (l.take (f + d))).hand).2 < s := sweep_lt s hs _ _ _ hI.hand
          rw [rot_set _ (by rw [hsl]; exact hlen) hlt]
          have h3 : ChanceInv (rot (sweepM s (clockRun s (l.take (f + d))).held (clockRun s (l.take (f + d))).hand).1 (sweepM s (clockRun s (l.take (f + d))).held (clockRun s (l.take (f + d))).hand).2) _ _ := sweep_chance _ _ _ hlen hI.hand h1
          obtain ⟨q, hq⟩ := sweepM_free hs _ (clockRun s (l.take (f + d))).held (clockRun s (l.take (f + d))).hand rfl hlen hI.hand
          obtain ⟨R, hR⟩ := rot_head hq
          have hfs := sweepM_fst s (clockRun s (l.take (f + d))).held (clockRun s (l.take (f + d))).hand
          have hmem : ∀ x, x ∈ ((q, false) :: R).map Prod.fst ↔ x ∈ pagesC s (l.take (f + d)) := fun x => by
            rw [← hR, show pagesC s (l.take (f + d)) = (sweepM s (clockRun s (l.take (f + d))).held (clockRun s (l.take (f + d))).hand).1.map Prod.fst from hfs.symm, List.mem_map, List.mem_map]
            simp only [rot_mem]
          have hnd : (((q, false) :: R).map Prod.fst).Nodup := by
            rw [← hR]
            have hp : (rot (sweepM s (clockRun s (l.take (f + d))).held (clockRun s (l.take (f + d))).hand).1 (sweepM s (clockRun s (l.take (f + d))).held (clockRun s (l.take (f + d))).hand).2).Perm (sweepM s (clockRun s (l.take (f + d))).held (clockRun s (l.take (f + d))).hand).1 := by
              unfold rot
              exact (List.perm_append_comm).trans (by rw [List.take_append_drop])
            rw [(hp.map Prod.fst).nodup_iff, hfs]
            exact hI.nd
          rw [hR] at h3 ⊢
          have hz := h3.first hnd (by rw [← hR, rot_len, hsl]; exact hlen) (fun h => hm ((hmem _).1 h)) hse
          exact (h3.pop hz).push (fun h => hm ((hmem _).1 (by rw [List.map_cons]; exact List.mem_cons_of_mem _ h)))
      · rw [List.nodup_append]
        exact ⟨h2, by simp, fun u hu v hv => by rw [List.mem_singleton] at hv; subst hv; exact fun e => hmr (e ▸ h1.fr u hu)⟩
/-- Who gives each page a second chance. -/
theorem clock_conserves (s : Nat) (hs : 1 ≤ s) (l : List Int) : Conserves s l (clockRun s l).hits :=
  conserve_of (clock_len s l) (missP (clockRun s l).hits l) (missP_self _ _) (fun f k y hf hy _ => missP_succ _ _ f k y hf hy) (fun f k hf hk hse => by
    have h := clock_chance s hs l f (k - f) (by omega) (by rw [show f + (k - f) = k by omega]; exact hse)
    rw [show f + (k - f) = k by omega] at h
    exact ⟨h.2, h.1.fd⟩)
end Go.Proofs.Ytgljpdfmejganaa
