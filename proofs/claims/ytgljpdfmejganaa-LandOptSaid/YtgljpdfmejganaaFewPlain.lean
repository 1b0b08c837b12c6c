/- Plain laws: in no phase more come than there are slots, in each of the four ways; no program in sight. -/
import Derived.Test.YtgljpdfmejganaaConserveClock
import Derived.Test.YtgljpdfmejganaaPartsPlain
namespace Go.Proofs.Ytgljpdfmejganaa
/-- The hits of one who lets go in some way. -/
def hitsK (kd s : Nat) (l : List Int) : List Bool :=
  match kd with
  | 0 => (lruRun s l).1
  | 1 => (fifoRun s l).1
  | 2 => (clockRun s l).hits
  | _ => (flushRun s l).1
theorem prefix_of {run : List Int → List Bool} {G : List Int → Int → Bool} (hl : ∀ l, (run l).length = l.length) (hat : ∀ l k y, l[k]? = some y → (run l)[k]? = some (G (l.take k) y)) (l : List Int) (t : Nat) (ht : t ≤ l.length) : run (l.take t) = (run l).take t := by
  apply List.ext_getElem?
  intro k
  rw [List.getElem?_take]
  by_cases hk : k < t
  · rw [if_pos hk]
    have hy := List.getElem?_eq_getElem (show k < l.length by omega)
    have hy2 : (l.take t)[k]? = some l[k] := by rw [List.getElem?_take, if_pos hk]; exact hy
    rw [hat _ k _ hy, hat _ k _ hy2, List.take_take, Nat.min_eq_left (by omega)]
  · rw [if_neg hk]
    exact List.getElem?_eq_none (by rw [hl, List.length_take]; omega)
theorem hitsK_len (kd s : Nat) (l : List Int) : (hitsK kd s l).length = l.length := by
  unfold hitsK
  split
  · exact lru_len s l
  · exact fifo_hits_len' s l
  · exact clock_len s l
  · exact flush_len s l
theorem hitsK_take (kd s : Nat) (hs : 1 ≤ s) (l : List Int) (t : Nat) (ht : t ≤ l.length) : hitsK kd s (l.take t) = (hitsK kd s l).take t := by
  obtain ⟨u, rfl⟩ : ∃ u, s = u + 1 := ⟨s - 1, by omega⟩
  unfold hitsK
  split
  · exact prefix_of (run := fun l => (lruRun (u + 1) l).1) (G := fun m y => hasB ((recL m).take (u + 1)) y) (lru_len _) (fun l k y h => lru_at u l k y h) l t ht
  · exact prefix_of (run := fun l => (fifoRun (u + 1) l).1) (G := fun m y => hasB (fifoRun (u + 1) m).2 y) (fifo_hits_len' _) (fun l k y h => fifo_hit_at (u + 1) l k y h) l t ht
  · exact prefix_of (run := fun l => (clockRun (u + 1) l).hits) (G := fun m y => hasB (pagesC (u + 1) m) y) (clock_len _) (fun l k y h => clock_at (u + 1) l k y h) l t ht
  · exact prefix_of (run := fun l => (flushRun (u + 1) l).1) (G := fun m y => hasB (m.foldl (flushG (u + 1)) []) y) (flush_len _) (fun l k y h => flush_at (u + 1) l k y h) l t ht
theorem missN_take_mono (H : List Bool) {a b : Nat} (h : a ≤ b) : missN (H.take a) ≤ missN (H.take b) := by
  have e : H.take a = (H.take b).take a := by rw [List.take_take, Nat.min_eq_left h]
  rw [e]
  have : missN (H.take b) = missN ((H.take b).take a) + missN ((H.take b).drop a) := by
    unfold missN
    rw [← List.length_append, ← List.filter_append, List.take_append_drop]
  omega
/-- Who flushes: in a phase each of its pages once. -/
theorem flush_phase (s : Nat) (hs : 1 ≤ s) (l : List Int) : ∀ k f : Nat, k ≤ l.length → (startsL s l k).getLast? = some (f : Int) → missN ((flushRun s l).1.take k) = missN ((flushRun s l).1.take f) + someN ((l.take k).drop f) := by
  intro k
  induction k with
  | zero => intro f _ h; simp [startsL] at h
  | succ k ih =>
    intro f hk h
    have hy := List.getElem?_eq_getElem (show k < l.length by omega)
    rw [startsL_succ] at h
    cases hst : isStart s l k
    · rw [hst] at h
      simp at h
      obtain ⟨h1, h2⟩ := last_from s l hs k f (by omega) h
      rw [missN_succ (flush_from s l k f _ hy hst h1), ih f (by omega) h, seg_succ h1.1 hy, someN_snoc]
      by_cases hm : l[k] ∈ (l.take k).drop f
      · rw [(hasB_iff _ _).2 hm, if_pos hm]; rfl
      · rw [(hasB_false _ _).2 hm, if_neg hm]; rfl
    · rw [hst] at h
      simp at h
      have : f = k := by omega
      subst this
      rw [missN_succ (flush_start s l f _ hy hst), seg_succ (Nat.le_refl _) hy, seg_self, List.nil_append]
      rfl
theorem few_step (kd s : Nat) (hs : 1 ≤ s) (l : List Int) (a b : Nat) (hb : b ≤ l.length) (hl : (startsL s l b).getLast? = some (a : Int)) :
    missN ((hitsK kd s l).take a) ≤ missN ((hitsK kd s l).take b) ∧ missN ((hitsK kd s l).take b) ≤ missN ((hitsK kd s l).take a) + s := by
  obtain ⟨h1, h2⟩ := last_from s l hs b a hb hl
  have h3 := part_le s l b a hs h1
  refine ⟨missN_take_mono _ (by omega), ?_⟩
  unfold hitsK
  split
  · have := lru_conserves s hs l a b h1.1 hb h3; omega
  · have := fifo_conserves s hs l a b h1.1 hb h3; omega
  · have := clock_conserves s hs l a b h1.1 hb h3; omega
  · have := flush_phase s hs l b a hb hl; omega
theorem few_two (kd s : Nat) (l : List Int) (hs : 1 ≤ s) (j : Nat) (x z : Int) (hx : (startsL s l l.length)[j]? = some x) (hz : (startsL s l l.length)[j + 1]? = some z) :
    ∃ a b : Nat, x = a ∧ z = b ∧ a < b ∧ b < l.length ∧ missN ((hitsK kd s l).take a) ≤ missN ((hitsK kd s l).take b) ∧ missN ((hitsK kd s l).take b) ≤ missN ((hitsK kd s l).take a) + s := by
  obtain ⟨a, rfl, ha, _, _⟩ := starts_at s l _ _ _ hx
  obtain ⟨b, rfl, hb, hst, e⟩ := starts_at s l _ _ _ hz
  have hl : (startsL s l b).getLast? = some (a : Int) := by
    have hj := (List.getElem?_eq_some_iff.1 hx).1
    rw [e, List.getLast?_eq_getElem?, List.length_take, List.getElem?_take]
    rw [show min (j + 1) (startsL s l l.length).length - 1 = j by omega, if_pos (by omega)]
    exact hx
  exact ⟨a, b, rfl, rfl, (last_from s l hs b a (by omega) hl).2, hb, few_step kd s hs l a b (by omega) hl⟩
theorem few_last (kd s : Nat) (l : List Int) (hs : 1 ≤ s) (j : Nat) (x : Int) (hx : (startsL s l l.length)[j]? = some x) (hj : j + 1 = (startsL s l l.length).length) :
    ∃ a : Nat, x = a ∧ a < l.length ∧ missN ((hitsK kd s l).take a) ≤ missN ((hitsK kd s l).take l.length) ∧ missN ((hitsK kd s l).take l.length) ≤ missN ((hitsK kd s l).take a) + s := by
  obtain ⟨a, rfl, ha, _, _⟩ := starts_at s l _ _ _ hx
  have hl : (startsL s l l.length).getLast? = some (a : Int) := by
    rw [List.getLast?_eq_getElem?, ← hj, Nat.add_sub_cancel]; exact hx
  exact ⟨a, rfl, ha, few_step kd s hs l a l.length (Nat.le_refl _) hl⟩
end Go.Proofs.Ytgljpdfmejganaa
