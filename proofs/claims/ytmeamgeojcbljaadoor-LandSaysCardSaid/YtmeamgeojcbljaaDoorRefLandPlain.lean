/- Plain words on larderwickref1.Landlord: what its rows hold, step by step; no program in sight. -/
import Derived.Test.YtmeamgeojcbljaaDoorLandFacts
import Derived.Test.YtmeamgeojcbljaaDoorOptRun
namespace Go.Proofs.YtmeamgeojcbljaaDoor

theorem idx_neK {y x : Int} {l : List Int} (e : ¬ y = x) : (y :: l).idxOf x = l.idxOf x + 1 := by
  have hb : (y == x) = false := beq_eq_false_iff_ne.2 e
  rw [List.idxOf_cons, hb]; rfl
theorem idxOf_leK {x : Int} : ∀ {l : List Int} {k : Nat}, l[k]? = some x → l.idxOf x ≤ k := by
  intro l
  induction l with
  | nil => intro k h; simp at h
  | cons y l ih =>
    intro k h
    by_cases e : y = x
    · subst e; rw [List.idxOf_cons_self]; omega
    · rw [idx_neK e]
      cases k with
      | zero => simp at h; exact absurd h e
      | succ k => have := ih (by simpa using h); omega
theorem idxOf_inj {l : List Int} (hn : l.Nodup) {x : Int} {k : Nat} (h : l[k]? = some x) : l.idxOf x = k := by
  have h1 := idxOf_leK h
  obtain ⟨hk, he⟩ := List.getElem?_eq_some_iff.1 h
  have h2 := List.getElem_idxOf (show l.idxOf x < l.length by omega)
  have := List.getElem_inj (h₀ := show l.idxOf x < l.length by omega) (h₁ := hk) hn |>.1 (h2.trans he.symm)
  exact this
theorem hit_at {H : List (Int × Int)} (hn : (H.map Prod.fst).Nodup) {p c : Int} (hp : p ∈ H.map Prod.fst) {k : Nat} {q b : Int} (hk : H[k]? = some (q, b)) :
    ((H.set ((H.map Prod.fst).idxOf p) (p, c)).map Prod.snd)[k]? = some (if q = p then c else b) := by
  have hkl := (List.getElem?_eq_some_iff.1 hk).1
  have hq : (H.map Prod.fst)[k]? = some q := by rw [List.getElem?_map, hk]; rfl
  rw [List.getElem?_map, List.getElem?_set]
  by_cases e : q = p
  · subst e
    rw [idxOf_inj hn hq, if_pos rfl, if_pos hkl, if_pos rfl]; rfl
  · have : ¬ (H.map Prod.fst).idxOf p = k := by
      intro h1
      have h2 := List.getElem_idxOf (List.idxOf_lt_length_iff.2 hp)
      obtain ⟨hk', he⟩ := List.getElem?_eq_some_iff.1 hq
      simp only [h1] at h2
      exact e (he.symm.trans h2)
    rw [if_neg this, hk, if_neg e]; rfl
/-- A list so far, without one place. -/
def exK {α : Type} (L : List α) (i k : Nat) : List α := (L.take k).eraseIdx i
theorem exK_zero {α : Type} (L : List α) (i : Nat) : exK L i 0 = [] := by simp [exK]
theorem exK_at {α : Type} {L : List α} {k : Nat} {x : α} (h : L[k]? = some x) : exK L k (k + 1) = exK L k k := by
  have hk := (List.getElem?_eq_some_iff.1 h).1
  unfold exK
  rw [List.take_add_one, h, Option.toList_some, List.eraseIdx_append_of_length_le (by rw [List.length_take]; omega), show k - (L.take k).length = 0 by rw [List.length_take]; omega, List.eraseIdx_of_length_le (l := L.take k) (by rw [List.length_take]; omega)]
  simp
theorem exK_ne {α : Type} {L : List α} {k i : Nat} {x : α} (h : L[k]? = some x) (hi : ¬ k = i) : exK L i (k + 1) = exK L i k ++ [x] := by
  have hk := (List.getElem?_eq_some_iff.1 h).1
  unfold exK
  rw [List.take_add_one, h, Option.toList_some]
  rcases Nat.lt_or_ge i k with hl | hl
  · rw [List.eraseIdx_append_of_lt_length (by rw [List.length_take]; omega)]
  · rw [List.eraseIdx_append_of_length_le (by rw [List.length_take]; omega), List.eraseIdx_of_length_le (l := L.take k) (by rw [List.length_take]; omega)]
    rw [show i - (L.take k).length = (i - k - 1) + 1 by rw [List.length_take]; omega]
    simp
theorem exK_all {α : Type} {L : List α} {i k : Nat} (h : L.length ≤ k) : exK L i k = L.take i ++ L.drop (i + 1) := by
  unfold exK; rw [List.take_of_length_le h, List.eraseIdx_eq_take_drop_succ]
theorem idx_lowered (d : Int) : ∀ H : List (Int × Int), ((lowered H d).map Prod.snd).idxOf 0 = (H.map Prod.snd).idxOf d := by
  intro H
  induction H with
  | nil => rfl
  | cons t H ih =>
    show (((t.1, t.2 - d) :: lowered H d).map Prod.snd).idxOf 0 = _
    rw [List.map_cons, List.map_cons]
    by_cases e : t.2 = d
    · rw [show (t.1, t.2 - d).2 = 0 by show t.2 - d = 0; omega, List.idxOf_cons_self, e, List.idxOf_cons_self]
    · rw [idx_neK (by show ¬ t.2 - d = 0; omega), idx_neK e, ih]
theorem roomed_fst (H : List (Int × Int)) : (roomed H).map Prod.fst = exK (H.map Prod.fst) ((H.map Prod.snd).idxOf (leastH H)) H.length := by
  rw [exK_all (by simp)]
  unfold roomed
  rw [idx_lowered, List.map_append, List.map_take, List.map_drop, show (lowered H (leastH H)).map Prod.fst = H.map Prod.fst by simp [lowered, List.map_map, Function.comp_def]]
theorem roomed_snd (H : List (Int × Int)) : (roomed H).map Prod.snd = exK ((lowered H (leastH H)).map Prod.snd) ((H.map Prod.snd).idxOf (leastH H)) H.length := by
  rw [exK_all (by simp [lowered])]
  unfold roomed
  rw [idx_lowered, List.map_append, List.map_take, List.map_drop]
theorem least_first {H : List (Int × Int)} (hn : 0 < H.length) : (H.map Prod.snd).idxOf (leastH H) < H.length := by
  have := List.idxOf_lt_length_iff.2 (leastH_in hn)
  simpa using this
theorem sort_least {H : List (Int × Int)} (hn : 0 < H.length) : (sortI (H.map Prod.snd))[0]? = some (leastH H) := by
  have hl : 0 < (sortI (H.map Prod.snd)).length := by rw [sortI_len]; simpa using hn
  rw [List.getElem?_eq_getElem hl]
  have hm : (sortI (H.map Prod.snd))[0] ∈ H.map Prod.snd := (sortI_perm _).mem_iff.1 (List.getElem_mem hl)
  obtain ⟨t, ht, e⟩ := List.mem_map.1 hm
  have h1 : leastH H ≤ (sortI (H.map Prod.snd))[0] := by rw [← e]; exact leastH_le ht
  have h2 : (sortI (H.map Prod.snd))[0] ≤ leastH H := by
    have := (sortI_perm _).mem_iff.2 (leastH_in hn)
    obtain ⟨j, hj, ej⟩ := List.getElem_of_mem this
    rw [← ej]
    rcases Nat.eq_zero_or_pos j with h0 | h0
    · subst h0; exact Int.le_refl _
    · exact List.pairwise_iff_getElem.1 (sortI_sorted (H.map Prod.snd)) 0 j hl hj h0
  exact congrArg some (by omega)
theorem land_hit {cost : List Int} {s : Nat} {sum p : Int} {H : List (Int × Int)} (h : p ∈ H.map Prod.fst) : landStep cost s (sum, H) p = (sum, H.set ((H.map Prod.fst).idxOf p) (p, cost.getD p.toNat 0)) := if_pos h
theorem land_room {cost : List Int} {s : Nat} {sum p : Int} {H : List (Int × Int)} (h : p ∉ H.map Prod.fst) (hl : ¬ H.length = s) : landStep cost s (sum, H) p = (sum + cost.getD p.toNat 0, H ++ [(p, cost.getD p.toNat 0)]) := by
  unfold landStep; rw [if_neg h]; simp only [if_neg hl]
theorem land_full {cost : List Int} {s : Nat} {sum p : Int} {H : List (Int × Int)} (h : p ∉ H.map Prod.fst) (hl : H.length = s) : landStep cost s (sum, H) p = (sum + cost.getD p.toNat 0, roomed H ++ [(p, cost.getD p.toNat 0)]) := by
  unfold landStep; rw [if_neg h]; simp only [if_pos hl]
end Go.Proofs.YtmeamgeojcbljaaDoor
