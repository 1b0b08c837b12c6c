/- Plain words on opt.Run: what it tells, and that it is the best way; no program in sight. -/
import Derived.Test.YtmeamgeojcbljaaDoorOptPlain
namespace Go.Proofs.YtmeamgeojcbljaaDoor

def sortI (l : List Int) : List Int := l.mergeSort fun x y => decide (x ≤ y)
theorem sortI_perm (l : List Int) : (sortI l).Perm l := List.mergeSort_perm l _
theorem sortI_len (l : List Int) : (sortI l).length = l.length := (sortI_perm l).length_eq
theorem sortI_sorted (l : List Int) : (sortI l).Pairwise (· ≤ ·) := by
  have h := List.pairwise_mergeSort (le := fun x y : Int => decide (x ≤ y)) (by intro a b c h1 h2; simp at *; omega) (by intro a b; simp; omega) l
  exact h.imp (by simp)
theorem sorted_unique : ∀ {a b : List Int}, a.Perm b → a.Pairwise (· ≤ ·) → b.Pairwise (· ≤ ·) → a = b := by
  intro a
  induction a with
  | nil => intro b h _ _; rw [List.nil_perm.1 h]
  | cons x a ih =>
    intro b h ha hb
    cases b with
    | nil => exact absurd h.length_eq (by simp)
    | cons y b =>
      rw [List.pairwise_cons] at ha hb
      have e : x = y := by
        have h1 : x ∈ y :: b := h.mem_iff.1 (by simp)
        have h2 : y ∈ x :: a := h.mem_iff.2 (by simp)
        rcases List.mem_cons.1 h1 with e | e
        · exact e
        · rcases List.mem_cons.1 h2 with e' | e'
          · exact e'.symm
          · have := ha.1 y e'; have := hb.1 x e; omega
      subst e
      rw [ih (List.Perm.cons_inv h) ha.2 hb.2]
theorem sortI_eq {a b : List Int} (h : a.Perm b) : sortI a = sortI b :=
  sorted_unique ((sortI_perm a).trans (h.trans (sortI_perm b).symm)) (sortI_sorted a) (sortI_sorted b)
theorem sortI_of {a b : List Int} (h : a.Perm b) (hb : b.Pairwise (· ≤ ·)) : sortI a = b := sorted_unique ((sortI_perm a).trans h) (sortI_sorted a) hb

/-- Of the first k places the first one of the greatest. -/
def bestIx (f : Int → Nat) (S : List Int) : Nat → Nat
  | 0 => 0
  | k + 1 => if f (S.getD (bestIx f S k) 0) < f (S.getD k 0) then k else bestIx f S k
theorem bestIx_lt (f : Int → Nat) (S : List Int) : ∀ k, bestIx f S k < k + 1 := by
  intro k
  induction k with
  | zero => simp [bestIx]
  | succ k ih => rw [bestIx]; split <;> omega
theorem bestIx_lt' (f : Int → Nat) (S : List Int) : ∀ k, 0 < k → bestIx f S k < k := by
  intro k
  induction k with
  | zero => omega
  | succ k ih =>
    intro _
    rw [bestIx]
    split
    · omega
    · rcases Nat.eq_zero_or_pos k with h | h
      · subst h; simp [bestIx]
      · have := ih h; omega
theorem bestIx_max (f : Int → Nat) (S : List Int) : ∀ k i, i < k → f (S.getD i 0) ≤ f (S.getD (bestIx f S k) 0) := by
  intro k
  induction k with
  | zero => intro i h; omega
  | succ k ih =>
    intro i hi
    rw [bestIx]
    by_cases h : f (S.getD (bestIx f S k) 0) < f (S.getD k 0)
    · rw [if_pos h]
      by_cases hik : i = k
      · subst hik; exact Nat.le_refl _
      · have := ih i (by omega); omega
    · rw [if_neg h]
      by_cases hik : i = k
      · subst hik; omega
      · exact ih i (by omega)
/-- Who is let go of. -/
def pickO (H l : List Int) : Int := (sortI H).getD (bestIx (fun x => l.idxOf x) (sortI H) H.length) 0
theorem pickO_ix {H : List Int} (l : List Int) (hH : H ≠ []) : bestIx (fun x => l.idxOf x) (sortI H) H.length < (sortI H).length := by
  rw [sortI_len]; exact bestIx_lt' _ _ _ (List.length_pos_iff.2 hH)
theorem pickO_at {H : List Int} (l : List Int) (hH : H ≠ []) : (sortI H)[bestIx (fun x => l.idxOf x) (sortI H) H.length]? = some (pickO H l) := by
  rw [pickO, List.getD_eq_getElem?_getD, List.getElem?_eq_getElem (pickO_ix l hH)]; rfl
theorem pickO_latest : Latest pickO := by
  intro H l hH hN
  have h1 := pickO_at l hH
  refine ⟨(sortI_perm H).mem_iff.1 (List.mem_of_getElem? h1), fun x hx => ?_⟩
  obtain ⟨i, hi, e⟩ := List.mem_iff_getElem.1 ((sortI_perm H).mem_iff.2 hx)
  have h2 := bestIx_max (fun x => l.idxOf x) (sortI H) H.length i (by rwa [sortI_len] at hi)
  have h3 : (sortI H).getD i 0 = x := by rw [List.getD_eq_getElem?_getD, List.getElem?_eq_getElem hi, e]; rfl
  rw [h3] at h2
  exact h2
theorem pickO_perm {a b : List Int} (h : a.Perm b) (l : List Int) : pickO a l = pickO b l := by
  unfold pickO; rw [sortI_eq h, h.length_eq]

theorem minF_perm {s : Nat} : ∀ (l : List Int) {a b : List Int}, a.Perm b → minF s pickO a l = minF s pickO b l := by
  intro l
  induction l with
  | nil => intro a b _; rfl
  | cons p l ih =>
    intro a b h
    rw [minF, minF]
    by_cases hp : p ∈ a
    · rw [if_pos hp, if_pos (h.mem_iff.1 hp)]; exact ih h
    · rw [if_neg hp, if_neg (fun hh => hp (h.mem_iff.2 hh)), pickO_perm h, h.length_eq]
      congr 1
      apply ih
      refine List.Perm.append_right _ ?_
      split
      · exact h.erase _
      · exact h

/-- What opt.Run tells of what is asked for from now on: of a store that has H. -/
def optF (s : Nat) : List Int → List Int → List Bool × List Int × List Int
  | H, [] => ([], [], sortI H)
  | H, p :: l =>
    if p ∈ H then
      let r := optF s H l
      (true :: r.1, r.2.1, r.2.2)
    else if H.length = s then
      let b := bestIx (fun x => (p :: l).idxOf x) (sortI H) H.length
      let r := optF s ((sortI H).take b ++ (sortI H).drop (b + 1) ++ [p]) l
      (false :: r.1, pickO H (p :: l) :: r.2.1, r.2.2)
    else
      let r := optF s (H ++ [p]) l
      (false :: r.1, r.2.1, r.2.2)
theorem del_nodup {S : List Int} (hS : S.Nodup) {b : Nat} {z : Int} (h : S[b]? = some z) : S.take b ++ S.drop (b + 1) = S.erase z := by
  obtain ⟨hb, rfl⟩ := List.getElem?_eq_some_iff.1 h
  have e : S = S.take b ++ S[b] :: S.drop (b + 1) := by rw [← List.drop_eq_getElem_cons hb, List.take_append_drop]
  have hn : S[b] ∉ S.take b := fun hm => by
    rw [e, List.nodup_append] at hS
    exact hS.2.2 _ hm _ List.mem_cons_self rfl
  generalize S[b] = z at *
  have e2 := congrArg (fun q => List.erase q z) e
  rw [List.erase_append_right _ hn, List.erase_cons_head] at e2
  exact e2.symm
theorem optDel {H : List Int} (l : List Int) (hH : H ≠ []) (hN : H.Nodup) :
    ((sortI H).take (bestIx (fun x => l.idxOf x) (sortI H) H.length) ++ (sortI H).drop (bestIx (fun x => l.idxOf x) (sortI H) H.length + 1)).Perm (H.erase (pickO H l)) := by
  rw [del_nodup ((sortI_perm H).nodup_iff.2 hN) (pickO_at l hH)]
  exact (sortI_perm H).erase _
theorem optF_len (s : Nat) : ∀ (l H : List Int), (optF s H l).1.length = l.length := by
  intro l
  induction l with
  | nil => intro H; rfl
  | cons p l ih =>
    intro H
    rw [optF]
    split
    · simp [ih]
    · split <;> simp [ih]
theorem optF_miss {s : Nat} (hs : 1 ≤ s) : ∀ (l H : List Int), H.Nodup → H.length ≤ s → missN (optF s H l).1 = minF s pickO H l := by
  intro l
  induction l with
  | nil => intro H _ _; rfl
  | cons p l ih =>
    intro H hN hL
    rw [optF, minF]
    by_cases hp : p ∈ H
    · rw [if_pos hp, if_pos hp]
      have := ih H hN hL
      simpa [missN] using this
    · rw [if_neg hp, if_neg hp]
      by_cases hf : H.length = s
      · have hne : H ≠ [] := fun e => by rw [e] at hf; simp at hf; omega
        rw [if_pos hf, if_pos hf]
        have hd := optDel (p :: l) hne hN
        obtain ⟨hm, _⟩ := pickO_latest H (p :: l) hne hN
        have hd2 := hd.append_right [p]
        have hN' : (H.erase (pickO H (p :: l)) ++ [p]).Nodup := by
          rw [List.nodup_append]
          exact ⟨hN.erase _, by simp, fun a ha b hb => by rw [List.mem_singleton] at hb; subst hb; exact fun e => hp (List.mem_of_mem_erase (e ▸ ha))⟩
        have := ih _ (hd2.nodup_iff.2 hN') (by rw [hd2.length_eq, List.length_append, List.length_erase_of_mem hm]; have := List.length_pos_of_mem hm; simp; omega)
        rw [minF_perm l hd2] at this
        simp only [missN, List.filter_cons, Bool.not_false, if_true, List.length_cons] at this ⊢
        omega
      · rw [if_neg hf, if_neg hf]
        have := ih (H ++ [p]) (by
          rw [List.nodup_append]
          exact ⟨hN, by simp, fun a ha b hb => by rw [List.mem_singleton] at hb; subst hb; exact fun e => hp (e ▸ ha)⟩) (by simp; omega)
        simp only [missN, List.filter_cons, Bool.not_false, if_true, List.length_cons] at this ⊢
        omega
/-- How often a page is not there, by the best way. -/
def optN (s : Nat) (l : List Int) : Nat := missN (optF s [] l).1
theorem optN_min {s : Nat} (hs : 1 ≤ s) (l : List Int) : optN s l = minF s pickO [] l := optF_miss hs l [] (by simp) (by simp)
theorem optN_sched {s : Nat} (hs : 1 ≤ s) (l : List Int) : Sched s [] l (optN s l) := by
  rw [optN_min hs]; exact min_sched hs pickO_latest l [] (by simp) (by simp)
theorem optN_best {s u : Nat} (hs : 1 ≤ s) (hu : u ≤ s) {l : List Int} {n : Nat} (h : Sched u [] l n) : optN s l ≤ n := by
  rw [optN_min hs]; exact min_best hs pickO_latest hu h
theorem optN_turned {s : Nat} (hs : 1 ≤ s) (l : List Int) : optN s l = optN s l.reverse := by
  rw [optN_min hs, optN_min hs]; exact min_turned hs pickO_latest l
theorem optN_more {s : Nat} (hs : 1 ≤ s) (l : List Int) : optN (s + 1) l ≤ optN s l := optN_best (by omega) (Nat.le_succ s) (optN_sched hs l)
theorem optN_begin {s : Nat} (hs : 1 ≤ s) (a b : List Int) : optN s a ≤ optN s (a ++ b) := by
  obtain ⟨m, hm, h⟩ := sched_begin a b [] _ (optN_sched hs (a ++ b))
  have := optN_best hs (Nat.le_refl s) h
  omega
theorem optN_append {s : Nat} (hs : 1 ≤ s) (a b : List Int) : optN s (a ++ b) ≤ optN s a + optN s b := by
  obtain ⟨m, hm, h⟩ := sched_append a b [] _ _ (optN_sched hs a) (optN_sched hs b)
  have := optN_best hs (Nat.le_refl s) h
  omega
theorem ddO_nodup (l : List Int) : (dd l).Nodup := by
  induction l using list_snoc_ind with
  | h0 => simp [dd]
  | h1 l y ih =>
    rw [dd_snoc]
    split
    · exact ih
    · rename_i h
      rw [List.nodup_append]
      exact ⟨ih, by simp, fun a ha b hb => by rw [List.mem_singleton] at hb; subst hb; exact fun e => h (e ▸ ha)⟩
theorem optN_some {s : Nat} (hs : 1 ≤ s) (l : List Int) : someN l ≤ optN s l := by
  unfold someN
  exact sched_some l [] _ (optN_sched hs l) (dd l) (ddO_nodup l) (fun x hx => ⟨(mem_dd l x).1 hx, by simp⟩)

/-- What is told, where so much is told already. -/
def optS (s : Nat) (hits : List Bool) (outs held l : List Int) : List Bool × List Int × List Int := (hits ++ (optF s held l).1, outs ++ (optF s held l).2.1, (optF s held l).2.2)
theorem optS_nil (s : Nat) (hits : List Bool) (outs held : List Int) : optS s hits outs held [] = (hits, outs, sortI held) := by simp [optS, optF]
theorem optS_hit {s : Nat} {hits : List Bool} {outs held l : List Int} {y : Int} (h : y ∈ held) : optS s hits outs held (y :: l) = optS s (hits ++ [true]) outs held l := by
  unfold optS; rw [optF, if_pos h]; simp
theorem optS_room {s : Nat} {hits : List Bool} {outs held l : List Int} {y : Int} (h : y ∉ held) (hf : ¬ held.length = s) : optS s hits outs held (y :: l) = optS s (hits ++ [false]) outs (held ++ [y]) l := by
  unfold optS; rw [optF, if_neg h, if_neg hf]; simp
theorem optS_full {s : Nat} {hits : List Bool} {outs held l : List Int} {y z : Int} {b : Nat} (h : y ∉ held) (hf : held.length = s) (hb : bestIx (fun x => (y :: l).idxOf x) (sortI held) s = b) (hz : (sortI held)[b]? = some z) :
    optS s hits outs held (y :: l) = optS s (hits ++ [false]) (outs ++ [z]) ((sortI held).take b ++ (sortI held).drop (b + 1) ++ [y]) l := by
  have hp : pickO held (y :: l) = z := by unfold pickO; rw [hf, hb, List.getD_eq_getElem?_getD, hz]; rfl
  unfold optS; rw [optF, if_neg h, if_pos hf, hp, hf, hb]; simp
end Go.Proofs.YtmeamgeojcbljaaDoor
