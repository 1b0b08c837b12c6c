/- Plain laws of phases: each but the last is full; no program in sight. -/
import Derived.Test.YtgljpdfmejganaaPhasePlain
import Derived.Test.YtgljpdfmejganaaStores
namespace Go.Proofs.Ytgljpdfmejganaa

theorem starts_split (s : Nat) (l : List Int) (n b : Nat) (hb : b < n) (hst : isStart s l b = true) : ∃ rest, startsL s l n = startsL s l b ++ (b : Int) :: rest := by
  obtain ⟨j, rfl⟩ : ∃ j, n = b + 1 + j := ⟨n - b - 1, by omega⟩
  clear hb
  induction j with
  | zero => exact ⟨[], by show startsL s l (b + 1) = _; rw [startsL_succ, if_pos hst]⟩
  | succ j ih =>
    obtain ⟨rest, e⟩ := ih
    refine ⟨rest ++ (if isStart s l (b + 1 + j) then [((b + 1 + j : Nat) : Int)] else []), ?_⟩
    show startsL s l (b + 1 + j + 1) = _
    rw [startsL_succ, e]; simp
theorem starts_nodup (s : Nat) (l : List Int) (n : Nat) : (startsL s l n).Nodup := by
  induction n with
  | zero => simp [startsL]
  | succ n ih =>
    rw [startsL_succ]
    split
    · rw [List.nodup_append]
      refine ⟨ih, by simp, fun a ha b hb => ?_⟩
      simp at hb; subst hb; rintro rfl
      have := (mem_starts s l n n).1 ha; omega
    · simpa using ih
theorem nodup_inj : ∀ {l : List Int}, l.Nodup → ∀ {i j : Nat} {x : Int}, l[i]? = some x → l[j]? = some x → i = j
  | [], _, i, j, x, hi, _ => by simp at hi
  | a :: t, h, 0, 0, x, _, _ => rfl
  | a :: t, h, 0, j + 1, x, hi, hj => by
    simp at hi hj; subst hi
    exact absurd (List.mem_of_getElem? hj) (List.nodup_cons.1 h).1
  | a :: t, h, i + 1, 0, x, hi, hj => by
    simp at hi hj; subst hj
    exact absurd (List.mem_of_getElem? hi) (List.nodup_cons.1 h).1
  | a :: t, h, i + 1, j + 1, x, hi, hj => by
    simp at hi hj
    rw [nodup_inj (List.nodup_cons.1 h).2 hi hj]
theorem starts_at (s : Nat) (l : List Int) (n j : Nat) (x : Int) (h : (startsL s l n)[j]? = some x) : ∃ b : Nat, x = b ∧ b < n ∧ isStart s l b = true ∧ startsL s l b = (startsL s l n).take j := by
  have hm := List.mem_of_getElem? h
  have : ∃ b : Nat, x = b := by
    unfold startsL at hm
    obtain ⟨a, _, e⟩ := List.mem_map.1 hm
    exact ⟨a, e.symm⟩
  obtain ⟨b, rfl⟩ := this
  obtain ⟨hb, hst⟩ := (mem_starts s l n b).1 hm
  obtain ⟨rest, e⟩ := starts_split s l n b hb hst
  refine ⟨b, rfl, hb, hst, ?_⟩
  have hnd := starts_nodup s l n
  have h2 : (startsL s l n)[(startsL s l b).length]? = some (b : Int) := by rw [e]; simp
  have hj : j = (startsL s l b).length := nodup_inj hnd h h2
  rw [hj, e]; simp
theorem last_from (s : Nat) (l : List Int) (hs : 1 ≤ s) : ∀ k f : Nat, k ≤ l.length → (startsL s l k).getLast? = some (f : Int) → FromInv s l k f ∧ f < k := by
  intro k
  induction k with
  | zero => intro f _ h; simp [startsL] at h
  | succ k ih =>
    intro f hk h
    have hy := List.getElem?_eq_getElem (show k < l.length by omega)
    rw [startsL_succ] at h
    cases hst : isStart s l k
    · rw [hst] at h
      simp at h
      obtain ⟨h1, h2⟩ := ih f (by omega) h
      exact ⟨from_in s l k f _ hy hst h1, by omega⟩
    · rw [hst] at h
      simp at h
      have : f = k := by omega
      subst this
      exact ⟨from_start s l f _ hs hy hst, by omega⟩
theorem someN_of {l m : List Int} (hm : m.Nodup) (h : ∀ x, x ∈ l ↔ x ∈ m) : someN l = m.length := by
  unfold someN
  exact (List.perm_ext_iff_of_nodup (dd_nodup l) hm).2 (fun x => by rw [mem_dd, h]) |>.length_eq
/-- What a phase has, from its beginning to the next one's, or to the end. -/
theorem part_some (s : Nat) (l : List Int) (k f : Nat) (h : FromInv s l k f) : someN ((l.take k).drop f) = (phSet s (l.take k)).length := someN_of (phSet_nodup s _) h.2
theorem part_next (s : Nat) (l : List Int) (k f : Nat) (y : Int) (hk : 0 < k) (hy : l[k]? = some y) (h : FromInv s l k f) (hst : isStart s l k = true) :
    someN ((l.take k).drop f) = s ∧ hasB ((l.take k).drop f) y = false := by
  rcases (isStart_cases s l k y hy).1 hst with h0 | ⟨h1, h2⟩
  · omega
  · exact ⟨by rw [part_some s l k f h, h2], by rw [hasB_false, h.2]; exact h1⟩
theorem part_le (s : Nat) (l : List Int) (k f : Nat) (hs : 1 ≤ s) (h : FromInv s l k f) : someN ((l.take k).drop f) ≤ s := by
  rw [part_some s l k f h]; exact phSet_le s hs _
/-- Two beginnings, one behind the other. -/
theorem starts_two (s : Nat) (l : List Int) (hs : 1 ≤ s) (j : Nat) (x z : Int) (hx : (startsL s l l.length)[j]? = some x) (hz : (startsL s l l.length)[j + 1]? = some z) :
    ∃ a b : Nat, x = a ∧ z = b ∧ a < b ∧ b < l.length ∧ FromInv s l b a ∧ isStart s l b = true := by
  obtain ⟨a, rfl, ha, _, _⟩ := starts_at s l _ _ _ hx
  obtain ⟨b, rfl, hb, hst, e⟩ := starts_at s l _ _ _ hz
  have hl : (startsL s l b).getLast? = some (a : Int) := by
    have hj := (List.getElem?_eq_some_iff.1 hx).1
    rw [e, List.getLast?_eq_getElem?, List.length_take, List.getElem?_take]
    rw [show min (j + 1) (startsL s l l.length).length - 1 = j by omega, if_pos (by omega)]
    exact hx
  obtain ⟨h1, h2⟩ := last_from s l hs b a (by omega) hl
  exact ⟨a, b, rfl, rfl, h2, hb, h1, hst⟩
theorem starts_last (s : Nat) (l : List Int) (hs : 1 ≤ s) (j : Nat) (x : Int) (hx : (startsL s l l.length)[j]? = some x) (hj : j + 1 = (startsL s l l.length).length) :
    ∃ a : Nat, x = a ∧ a < l.length ∧ FromInv s l l.length a := by
  obtain ⟨a, rfl, ha, _, _⟩ := starts_at s l _ _ _ hx
  have hl : (startsL s l l.length).getLast? = some (a : Int) := by
    rw [List.getLast?_eq_getElem?, ← hj, Nat.add_sub_cancel]; exact hx
  exact ⟨a, rfl, ha, (last_from s l hs _ a (Nat.le_refl _) hl).1⟩
theorem starts_first (s : Nat) (l : List Int) (h : 0 < l.length) : (startsL s l l.length)[0]? = some 0 := by
  obtain ⟨rest, e⟩ := starts_split s l l.length 0 h rfl
  rw [e]; simp [startsL]
end Go.Proofs.Ytgljpdfmejganaa
