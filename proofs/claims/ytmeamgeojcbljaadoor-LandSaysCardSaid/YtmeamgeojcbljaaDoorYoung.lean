/- Young's law of a landlord: the potential; no program in sight. -/
import Derived.Test.YtmeamgeojcbljaaDoorLandPlain
namespace Go.Proofs.YtmeamgeojcbljaaDoor

/-- Pages are asked for of a store of s slots that has H; whatever is let go of, n is paid for those that were not there. -/
def SchedC (f : Int → Int) (s : Nat) : List Int → List Int → Int → Prop
  | _, [], n => n = 0
  | H, p :: l, n => ∃ H2 n2, H2.Nodup ∧ H2.length ≤ s ∧ p ∈ H2 ∧ (∀ x ∈ H2, x = p ∨ x ∈ H) ∧ SchedC f s H2 l n2 ∧ n = (if p ∈ H then 0 else f p) + n2
theorem schedC_congr {f g : Int → Int} {s : Nat} : ∀ (l H : List Int) (n : Int), (∀ p ∈ l, f p = g p) → SchedC f s H l n → SchedC g s H l n := by
  intro l
  induction l with
  | nil => intro H n _ h; exact h
  | cons p l ih =>
    rintro H n hp ⟨H2, n2, h1, h2, h3, h4, h5, h6⟩
    exact ⟨H2, n2, h1, h2, h3, h4, ih _ _ (fun q hq => hp q (by simp [hq])) h5, by rw [h6, hp p (by simp)]⟩

def sumF (f : Int → Int) (l : List Int) : Int := l.foldr (fun x s => f x + s) 0
theorem sumF_nil (f : Int → Int) : sumF f [] = 0 := rfl
theorem sumF_cons (f : Int → Int) (x : Int) (l : List Int) : sumF f (x :: l) = f x + sumF f l := rfl
theorem sumF_same {f g : Int → Int} : ∀ {l : List Int}, (∀ x ∈ l, f x = g x) → sumF f l = sumF g l := by
  intro l
  induction l with
  | nil => intro _; rfl
  | cons x l ih => intro h; rw [sumF_cons, sumF_cons, h x (by simp), ih fun y hy => h y (by simp [hy])]
theorem sumF_upd {f g : Int → Int} {p : Int} : ∀ {l : List Int}, l.Nodup → p ∈ l → (∀ x, x ≠ p → f x = g x) → sumF f l = sumF g l + (f p - g p) := by
  intro l
  induction l with
  | nil => intro _ h; simp at h
  | cons x l ih =>
    intro hn hp h
    rw [List.nodup_cons] at hn
    rw [sumF_cons, sumF_cons]
    by_cases hx : x = p
    · subst hx
      rw [sumF_same (fun y hy => h y (fun e => hn.1 (e ▸ hy)))]; omega
    · rw [List.mem_cons] at hp
      rw [ih hn.2 (hp.resolve_left (fun e => hx e.symm)) h, h x hx]; omega
theorem sumF_low {f g : Int → Int} {d : Int} {P : List Int} (h : ∀ x, f x = g x + if x ∈ P then d else 0) : ∀ l : List Int, sumF f l = sumF g l + ((l.filter (· ∈ P)).length : Int) * d := by
  intro l
  induction l with
  | nil => simp [sumF_nil]
  | cons x l ih =>
    rw [sumF_cons, sumF_cons, ih, h x, List.filter_cons]
    by_cases hx : x ∈ P
    · simp only [hx, decide_true, if_true, List.length_cons]
      rw [Int.natCast_add, Int.add_mul]; simp; omega
    · simp only [hx, decide_false, if_false]; simp; omega
theorem sumF_nonneg {f : Int → Int} (h : ∀ x, 0 ≤ f x) : ∀ l : List Int, 0 ≤ sumF f l := by
  intro l
  induction l with
  | nil => simp [sumF_nil]
  | cons x l ih => rw [sumF_cons]; have := h x; omega
theorem sumF_erase (f : Int → Int) {x : Int} : ∀ {l : List Int}, x ∈ l → sumF f l = f x + sumF f (l.erase x) := by
  intro l
  induction l with
  | nil => intro h; simp at h
  | cons y l ih =>
    intro h
    by_cases hy : y = x
    · subst hy; rw [List.erase_cons_head, sumF_cons]
    · rw [List.mem_cons] at h
      rw [List.erase_cons_tail (by simpa using hy), sumF_cons, sumF_cons, ih (h.resolve_left (fun e => hy e.symm))]; omega
theorem sumF_sub {f : Int → Int} (h0 : ∀ x, 0 ≤ f x) : ∀ {a b : List Int}, a.Nodup → (∀ x ∈ a, x ∈ b) → sumF f a ≤ sumF f b := by
  intro a
  induction a with
  | nil => intro b _ _; exact sumF_nonneg h0 b
  | cons x a ih =>
    intro b hn h
    rw [List.nodup_cons] at hn
    rw [sumF_cons, sumF_erase f (h x (by simp))]
    have := ih (b := b.erase x) hn.2 (fun z hz => by
      have hzx : z ≠ x := fun e => hn.1 (e ▸ hz)
      exact (List.mem_erase_of_ne hzx).2 (h z (by simp [hz])))
    omega

/-- The credit of a page: none, if it is not there. -/
def crOf : List (Int × Int) → Int → Int
  | [], _ => 0
  | t :: h, x => if t.1 = x then t.2 else crOf h x
theorem crOf_out {x : Int} : ∀ {h : List (Int × Int)}, x ∉ h.map Prod.fst → crOf h x = 0 := by
  intro h
  induction h with
  | nil => intro _; rfl
  | cons t h ih =>
    intro hx
    simp only [List.map_cons, List.mem_cons, not_or] at hx
    rw [crOf, if_neg (fun e => hx.1 e.symm), ih hx.2]
theorem crOf_mem {t : Int × Int} : ∀ {h : List (Int × Int)}, (h.map Prod.fst).Nodup → t ∈ h → crOf h t.1 = t.2 := by
  intro h
  induction h with
  | nil => intro _ ht; simp at ht
  | cons u h ih =>
    intro hn ht
    rw [List.map_cons, List.nodup_cons] at hn
    rw [List.mem_cons] at ht
    rcases ht with rfl | ht
    · rw [crOf, if_pos rfl]
    · rw [crOf, if_neg (show ¬ u.1 = t.1 from fun e => hn.1 (by rw [e]; exact List.mem_map.2 ⟨t, ht, rfl⟩)), ih hn.2 ht]
theorem crOf_append {x : Int} (h : List (Int × Int)) (p z : Int) (hp : p ∉ h.map Prod.fst) : crOf (h ++ [(p, z)]) x = if x = p then z else crOf h x := by
  induction h with
  | nil =>
    show (if p = x then z else 0) = _
    by_cases e : x = p
    · subst e; simp
    · rw [if_neg (fun e' => e e'.symm), if_neg e]; rfl
  | cons t h ih =>
    simp only [List.map_cons, List.mem_cons, not_or] at hp
    rw [List.cons_append, crOf, crOf, ih hp.2]
    by_cases e : t.1 = x
    · rw [if_pos e, if_pos e, if_neg (fun e2 => hp.1 (by rw [← e2, e]))]
    · rw [if_neg e, if_neg e]
theorem crOf_set {p b z : Int} {x : Int} : ∀ {h : List (Int × Int)} {j : Nat}, (h.map Prod.fst).Nodup → h[j]? = some (p, b) → crOf (h.set j (p, z)) x = if x = p then z else crOf h x := by
  intro h
  induction h with
  | nil => intro j _ hj; simp at hj
  | cons t h ih =>
    intro j hn hj
    rw [List.map_cons, List.nodup_cons] at hn
    rcases j with _ | j
    · simp at hj
      subst hj
      show (if p = x then z else crOf h x) = if x = p then z else (if p = x then b else crOf h x)
      by_cases e : x = p
      · subst e; simp
      · rw [if_neg (show ¬ p = x from fun e' => e e'.symm), if_neg (show ¬ p = x from fun e' => e e'.symm), if_neg e]
    · simp at hj
      have hne : t.1 ≠ p := fun e => hn.1 (e ▸ List.mem_map.2 ⟨(p, b), List.mem_of_getElem? hj, rfl⟩)
      rw [List.set_cons_succ, crOf, crOf, ih hn.2 hj]
      by_cases e : t.1 = x
      · rw [if_pos e, if_pos e, if_neg (fun e2 => hne (by rw [e, e2]))]
      · rw [if_neg e, if_neg e]
theorem crOf_low {x d : Int} (h : List (Int × Int)) : crOf (lowered h d) x = crOf h x - if x ∈ h.map Prod.fst then d else 0 := by
  induction h with
  | nil => simp [lowered, crOf]
  | cons t h ih =>
    have e : lowered (t :: h) d = (t.1, t.2 - d) :: lowered h d := rfl
    rw [e, crOf, crOf, ih]
    by_cases hx : t.1 = x
    · subst hx; simp
    · have hne : x ≠ t.1 := fun e => hx e.symm
      simp only [if_neg hx, List.map_cons, List.mem_cons]
      by_cases hm : x ∈ h.map Prod.fst
      · rw [if_pos hm, if_pos (.inr hm)]
      · rw [if_neg hm, if_neg (by
          rintro (e | e)
          · exact hne e
          · exact hm e)]
theorem crOf_drop {x y : Int} : ∀ {h : List (Int × Int)} {j : Nat}, (h.map Prod.fst).Nodup → h[j]? = some (y, 0) → crOf (h.take j ++ h.drop (j + 1)) x = crOf h x := by
  intro h
  induction h with
  | nil => intro j _ hj; simp at hj
  | cons t h ih =>
    intro j hn hj
    rw [List.map_cons, List.nodup_cons] at hn
    rcases j with _ | j
    · simp at hj
      subst hj
      simp only [List.take_zero, List.nil_append, List.drop_succ_cons, List.drop_zero]
      rw [crOf]
      by_cases e : y = x
      · subst e; rw [if_pos rfl, crOf_out hn.1]
      · rw [if_neg e]
    · simp at hj
      rw [List.take_succ_cons, List.drop_succ_cons, List.cons_append, crOf, crOf, ih hn.2 hj]
def sumS (h : List (Int × Int)) : Int := h.foldr (fun t s => t.2 + s) 0
theorem sumS_append (a b : List (Int × Int)) : sumS (a ++ b) = sumS a + sumS b := by
  induction a with
  | nil => simp [sumS]
  | cons t a ih => show t.2 + sumS (a ++ b) = t.2 + sumS a + sumS b; rw [ih]; omega
theorem sumS_set : ∀ {h : List (Int × Int)} {j : Nat} {t : Int × Int} (u : Int × Int), h[j]? = some t → sumS (h.set j u) = sumS h + (u.2 - t.2) := by
  intro h
  induction h with
  | nil => intro j t u hj; simp at hj
  | cons v h ih =>
    intro j t u hj
    rcases j with _ | j
    · simp at hj; subst hj; show u.2 + sumS h = v.2 + sumS h + _; omega
    · simp at hj
      show v.2 + sumS (h.set j u) = v.2 + sumS h + _
      rw [ih u hj]; omega
theorem sumS_low (h : List (Int × Int)) (d : Int) : sumS (lowered h d) = sumS h - (h.length : Int) * d := by
  induction h with
  | nil => simp [lowered, sumS]
  | cons t h ih =>
    show (t.2 - d) + sumS (lowered h d) = t.2 + sumS h - _
    rw [ih, List.length_cons, Int.natCast_add, Int.add_mul]; simp; omega
theorem sumS_drop : ∀ {h : List (Int × Int)} {j : Nat} {y : Int}, h[j]? = some (y, 0) → sumS (h.take j ++ h.drop (j + 1)) = sumS h := by
  intro h
  induction h with
  | nil => intro j y hj; simp at hj
  | cons t h ih =>
    intro j y hj
    rcases j with _ | j
    · simp at hj; subst hj; simp [sumS]
    · simp at hj
      rw [List.take_succ_cons, List.drop_succ_cons, List.cons_append]
      show t.2 + sumS _ = t.2 + sumS h
      rw [ih hj]
theorem sumS_nonneg {h : List (Int × Int)} (h0 : ∀ t ∈ h, 0 ≤ t.2) : 0 ≤ sumS h := by
  induction h with
  | nil => simp [sumS]
  | cons t h ih =>
    have := ih fun u hu => h0 u (by simp [hu])
    have := h0 t (by simp)
    show 0 ≤ t.2 + sumS h; omega

/-- What a page costs. -/
def costF (cost : List Int) (p : Int) : Int := cost.getD p.toNat 0
def GoodC (f : Int → Int) (k : Nat) (c : List (Int × Int)) : Prop := (c.map Prod.fst).Nodup ∧ c.length ≤ k ∧ ∀ t ∈ c, 0 ≤ t.2 ∧ t.2 ≤ f t.1
def gapF (f : Int → Int) (c : List (Int × Int)) (x : Int) : Int := f x - crOf c x
def potF (f : Int → Int) (k h : Nat) (c : List (Int × Int)) (H : List Int) : Int := ((h : Int) - 1) * sumS c + (k : Int) * sumF (gapF f c) H

theorem crOf_in {f : Int → Int} (hf : ∀ x, 0 ≤ f x) {k : Nat} {c : List (Int × Int)} (hg : GoodC f k c) (x : Int) : 0 ≤ crOf c x ∧ crOf c x ≤ f x := by
  by_cases hx : x ∈ c.map Prod.fst
  · obtain ⟨t, ht, rfl⟩ := List.mem_map.1 hx
    rw [crOf_mem hg.1 ht]
    exact hg.2.2 t ht
  · rw [crOf_out hx]; exact ⟨Int.le_refl _, hf x⟩
theorem gapF_nonneg {f : Int → Int} (hf : ∀ x, 0 ≤ f x) {k : Nat} {c : List (Int × Int)} (hg : GoodC f k c) (x : Int) : 0 ≤ gapF f c x := by
  have := crOf_in hf hg x
  unfold gapF; omega
theorem lowered_fst (c : List (Int × Int)) (d : Int) : (lowered c d).map Prod.fst = c.map Prod.fst := by simp [lowered, List.map_map, Function.comp_def]
theorem zero_at {c : List (Int × Int)} (hn : 0 < c.length) : ∃ y, (lowered c (leastH c))[((lowered c (leastH c)).map Prod.snd).idxOf 0]? = some (y, 0) := by
  have h1 := List.idxOf_lt_length_iff.2 (lowered_zero hn)
  have h2 := List.getElem_idxOf h1
  rw [List.getElem_map] at h2
  rw [List.length_map] at h1
  exact ⟨_, by rw [List.getElem?_eq_getElem h1]; exact congrArg some (Prod.ext rfl h2)⟩
theorem least_nonneg {f : Int → Int} {k : Nat} {c : List (Int × Int)} (hg : GoodC f k c) (hn : 0 < c.length) : 0 ≤ leastH c := by
  obtain ⟨v, hv, e2⟩ := List.mem_map.1 (leastH_in hn)
  rw [← e2]; exact (hg.2.2 v hv).1
theorem goodC_low {f : Int → Int} {k : Nat} {c : List (Int × Int)} (hg : GoodC f k c) (hn : 0 < c.length) : GoodC f k (lowered c (leastH c)) := by
  refine ⟨by rw [lowered_fst]; exact hg.1, by rw [lowered_len]; exact hg.2.1, fun t ht => ?_⟩
  obtain ⟨u, hu, rfl⟩ := List.mem_map.1 ht
  have h1 := leastH_le hu
  have h2 := hg.2.2 u hu
  have h3 := least_nonneg hg hn
  exact ⟨by show 0 ≤ u.2 - _; omega, by show u.2 - _ ≤ f u.1; omega⟩
theorem roomed_pages {c : List (Int × Int)} {x : Int} (h : x ∈ (roomed c).map Prod.fst) : x ∈ c.map Prod.fst := by
  obtain ⟨t, ht, rfl⟩ := List.mem_map.1 h
  obtain ⟨u, hu, rfl⟩ := roomed_sub ht
  exact List.mem_map.2 ⟨u, hu, rfl⟩
theorem goodC_room {f : Int → Int} {k : Nat} {c : List (Int × Int)} (hg : GoodC f k c) (hn : 0 < c.length) : GoodC f k (roomed c) := by
  have h1 := goodC_low hg hn
  refine ⟨?_, by have := roomed_len hn; have := hg.2.1; omega, fun t ht => h1.2.2 t (by
    unfold roomed at ht
    rw [List.mem_append] at ht
    exact ht.elim List.mem_of_mem_take List.mem_of_mem_drop)⟩
  have h2 : ((lowered c (leastH c)).eraseIdx (((lowered c (leastH c)).map Prod.snd).idxOf 0)).map Prod.fst |>.Sublist ((lowered c (leastH c)).map Prod.fst) := (List.eraseIdx_sublist _ _).map _
  rw [List.eraseIdx_eq_take_drop_succ] at h2
  exact h1.1.sublist h2
theorem goodC_add {f : Int → Int} (hf : ∀ x, 0 ≤ f x) {k : Nat} {c : List (Int × Int)} (hg : GoodC f k c) (hn : c.length < k) {p : Int} (hp : p ∉ c.map Prod.fst) : GoodC f k (c ++ [(p, f p)]) := by
  refine ⟨?_, by simp; omega, fun t ht => ?_⟩
  · rw [List.map_append, List.nodup_append]
    refine ⟨hg.1, by simp, fun a ha b hb e => ?_⟩
    simp at hb
    subst hb; subst e
    exact hp ha
  · rw [List.mem_append, List.mem_singleton] at ht
    rcases ht with ht | rfl
    · exact hg.2.2 t ht
    · exact ⟨hf _, Int.le_refl _⟩
theorem set_fst {p b z : Int} {c : List (Int × Int)} {j : Nat} (hj : c[j]? = some (p, b)) : (c.set j (p, z)).map Prod.fst = c.map Prod.fst := by
  rw [List.map_set]
  exact set_same (by rw [List.getElem?_map, hj]; rfl)
where
  set_same {l : List Int} {j : Nat} {x : Int} (h : l[j]? = some x) : l.set j x = l := by
    apply List.ext_getElem?
    intro i
    rw [List.getElem?_set]
    split
    · rename_i e; subst e
      split
      · rw [h]
      · rename_i hl; rw [List.getElem?_eq_none (by omega)]
    · rfl
theorem page_at {c : List (Int × Int)} {y : Int} (hm : y ∈ c.map Prod.fst) : ∃ b, c[(c.map Prod.fst).idxOf y]? = some (y, b) := by
  have h1 := List.idxOf_lt_length_iff.2 hm
  have h2 := List.getElem_idxOf h1
  rw [List.getElem_map] at h2
  rw [List.length_map] at h1
  exact ⟨_, by rw [List.getElem?_eq_getElem h1]; exact congrArg some (Prod.ext h2 rfl)⟩

theorem goodC_step {cost : List Int} (hf : ∀ x, 0 ≤ costF cost x) {k : Nat} (hk : 1 ≤ k) {c : Int × List (Int × Int)} (hg : GoodC (costF cost) k c.2) (p : Int) : GoodC (costF cost) k (landStep cost k c p).2 := by
  unfold landStep
  split
  · rename_i hp
    obtain ⟨b, hb⟩ := page_at hp
    refine ⟨by show ((c.2.set _ _).map Prod.fst).Nodup; rw [set_fst hb]; exact hg.1, by simpa using hg.2.1, fun t ht => ?_⟩
    rcases List.mem_or_eq_of_mem_set ht with ht | rfl
    · exact hg.2.2 t ht
    · exact ⟨hf p, Int.le_refl _⟩
  · rename_i hp
    split
    · rename_i hl
      have := roomed_len (h := c.2) (by omega)
      exact goodC_add hf (goodC_room hg (by omega)) (by omega) (fun h => hp (roomed_pages h))
    · exact goodC_add hf hg (by have := hg.2.1; omega) hp

/-- What is paid for anew. -/
theorem pot_add {f : Int → Int} {k h : Nat} (hhk : h ≤ k) {c : List (Int × Int)} {H : List Int} (hH : H.Nodup) {p : Int} (hpH : p ∈ H) (hp : p ∉ c.map Prod.fst) :
    ((k - h + 1 : Nat) : Int) * f p + potF f k h (c ++ [(p, f p)]) H = potF f k h c H := by
  have e1 : sumF (gapF f (c ++ [(p, f p)])) H = sumF (gapF f c) H + (gapF f (c ++ [(p, f p)]) p - gapF f c p) := sumF_upd hH hpH fun x hx => by
    unfold gapF; rw [crOf_append _ _ _ hp, if_neg hx]
  have e2 : gapF f (c ++ [(p, f p)]) p = 0 := by unfold gapF; rw [crOf_append _ _ _ hp, if_pos rfl]; omega
  have e3 : gapF f c p = f p := by unfold gapF; rw [crOf_out hp]; omega
  rw [e2, e3] at e1
  unfold potF
  rw [e1, sumS_append]
  have e4 : sumS [(p, f p)] = f p := by simp [sumS]
  rw [e4, Int.mul_add, Int.mul_add]
  have e5 : ((k - h + 1 : Nat) : Int) = (k : Int) - (h : Int) + 1 := by omega
  rw [e5, show (0 : Int) - f p = -f p by omega, Int.mul_neg, Int.add_mul]
  have e6 := Int.sub_mul (h : Int) 1 (f p)
  have e7 := Int.sub_mul (k : Int) h (f p)
  omega
theorem filter_in_le {P H : List Int} {p : Int} (hpH : p ∈ H) (hp : p ∉ P) : (H.filter (· ∈ P)).length + 1 ≤ H.length := by
  induction H with
  | nil => simp at hpH
  | cons x H ih =>
    rw [List.filter_cons]
    rw [List.mem_cons] at hpH
    rcases hpH with rfl | hpH
    · rw [if_neg (by simpa using hp)]
      have := List.length_filter_le (· ∈ P) H
      simp; omega
    · have := ih hpH
      split <;> simp <;> omega
theorem pot_low {f : Int → Int} {k h : Nat} {c : List (Int × Int)} {H : List Int} (hHl : H.length ≤ h) {p : Int} (hpH : p ∈ H) (hp : p ∉ c.map Prod.fst) (hl : c.length = k) {d : Int} (hd : 0 ≤ d) :
    potF f k h (lowered c d) H ≤ potF f k h c H := by
  have e1 := sumF_low (f := gapF f (lowered c d)) (g := gapF f c) (d := d) (P := c.map Prod.fst) (fun x => by unfold gapF; rw [crOf_low]; split <;> omega) H
  unfold potF
  rw [e1, sumS_low, hl]
  have e2 := filter_in_le hpH hp
  generalize (H.filter (· ∈ c.map Prod.fst)).length = cnt at *
  rw [Int.mul_sub, Int.mul_add]
  have e3 : (k : Int) * ((cnt : Int) * d) ≤ ((h : Int) - 1) * ((k : Int) * d) := by
    rw [← Int.mul_assoc, ← Int.mul_assoc]
    refine Int.mul_le_mul_of_nonneg_right ?_ hd
    rw [Int.mul_comm]
    exact Int.mul_le_mul_of_nonneg_right (by omega) (by omega)
  omega
theorem pot_room {f : Int → Int} {k h : Nat} {c : List (Int × Int)} (hn : 0 < c.length) (hg : (c.map Prod.fst).Nodup) (H : List Int) : potF f k h (roomed c) H = potF f k h (lowered c (leastH c)) H := by
  obtain ⟨y, hy⟩ := zero_at hn
  unfold potF roomed
  rw [sumS_drop hy, sumF_same (f := gapF f (List.take _ _ ++ List.drop _ _)) (g := gapF f (lowered c (leastH c))) (fun x _ => by unfold gapF; rw [crOf_drop (by rw [lowered_fst]; exact hg) hy])]
theorem pot_hit {f : Int → Int} {k h : Nat} (hhk : h ≤ k) {c : List (Int × Int)} {H : List Int} (hH : H.Nodup) {p b : Int} (hpH : p ∈ H) (hg : GoodC f k c) {j : Nat} (hj : c[j]? = some (p, b)) :
    potF f k h (c.set j (p, f p)) H ≤ potF f k h c H := by
  have e0 := hg.2.2 _ (List.mem_of_getElem? hj)
  have e1 : sumF (gapF f (c.set j (p, f p))) H = sumF (gapF f c) H + (gapF f (c.set j (p, f p)) p - gapF f c p) := sumF_upd hH hpH fun x hx => by
    unfold gapF; rw [crOf_set hg.1 hj, if_neg hx]
  have e2 : gapF f (c.set j (p, f p)) p = 0 := by unfold gapF; rw [crOf_set hg.1 hj, if_pos rfl]; omega
  have e3 : gapF f c p = f p - b := by unfold gapF; rw [show crOf c p = b from crOf_mem hg.1 (List.mem_of_getElem? hj)]
  rw [e2, e3] at e1
  unfold potF
  rw [e1, sumS_set _ hj]
  show ((h : Int) - 1) * (sumS c + (f p - b)) + _ ≤ _
  rw [Int.mul_add, Int.mul_add, show (0 : Int) - (f p - b) = -(f p - b) by omega, Int.mul_neg]
  have := Int.mul_le_mul_of_nonneg_right (show (h : Int) - 1 ≤ k by omega) (show 0 ≤ f p - b by have := e0.2; dsimp at this; omega)
  omega

theorem young_step {cost : List Int} {k h : Nat} (hh : 1 ≤ h) (hhk : h ≤ k) {c : Int × List (Int × Int)} (hg : GoodC (costF cost) k c.2) {H : List Int} (hH : H.Nodup) (hHl : H.length ≤ h) {p : Int} (hpH : p ∈ H) :
    ((k - h + 1 : Nat) : Int) * ((landStep cost k c p).1 - c.1) + potF (costF cost) k h (landStep cost k c p).2 H ≤ potF (costF cost) k h c.2 H := by
  unfold landStep
  split
  · rename_i hp
    obtain ⟨b, hb⟩ := page_at hp
    have := pot_hit hhk hH hpH hg hb
    show _ * (c.1 - c.1) + potF _ k h (c.2.set _ (p, costF cost p)) H ≤ _
    rw [Int.sub_self, Int.mul_zero]; omega
  · rename_i hp
    show _ * (c.1 + costF cost p - c.1) + potF _ k h (_ ++ [(p, costF cost p)]) H ≤ _
    rw [show c.1 + costF cost p - c.1 = costF cost p by omega]
    split
    · rename_i hl
      rw [pot_add hhk hH hpH (fun h => hp (roomed_pages h)), pot_room (by omega) hg.1]
      exact pot_low hHl hpH hp hl (least_nonneg hg (by omega))
    · rw [pot_add hhk hH hpH hp]; exact Int.le_refl _

theorem pot_nonneg {f : Int → Int} (hf : ∀ x, 0 ≤ f x) {k h : Nat} (hh : 1 ≤ h) {c : List (Int × Int)} (hg : GoodC f k c) (H : List Int) : 0 ≤ potF f k h c H :=
  Int.add_nonneg (Int.mul_nonneg (by omega) (sumS_nonneg fun t ht => (hg.2.2 t ht).1)) (Int.mul_nonneg (by omega) (sumF_nonneg (gapF_nonneg hf hg) H))

/-- The other one turns ahead. -/
theorem pot_other {f : Int → Int} (hf : ∀ x, 0 ≤ f x) {k h : Nat} {c : List (Int × Int)} (hg : GoodC f k c) {H H2 : List Int} (hH2 : H2.Nodup) {p : Int} (hs : ∀ x ∈ H2, x = p ∨ x ∈ H) :
    potF f k h c H2 ≤ potF f k h c H + (k : Int) * (if p ∈ H then 0 else f p) := by
  unfold potF
  by_cases hp : p ∈ H
  · rw [if_pos hp]
    have := sumF_sub (gapF_nonneg hf hg) hH2 (b := H) (fun x hx => (hs x hx).elim (fun e => e ▸ hp) id)
    have := Int.mul_le_mul_of_nonneg_left this (show (0 : Int) ≤ k by omega)
    omega
  · rw [if_neg hp]
    have h1 := sumF_sub (gapF_nonneg hf hg) hH2 (b := p :: H) (fun x hx => (hs x hx).elim (fun e => e ▸ by simp) (fun h => by simp [h]))
    rw [sumF_cons] at h1
    have h2 : gapF f c p ≤ f p := by have := crOf_in hf hg p; unfold gapF; omega
    have h3 := Int.mul_le_mul_of_nonneg_left (show sumF (gapF f c) H2 ≤ sumF (gapF f c) H + f p by omega) (show (0 : Int) ≤ k by omega)
    rw [Int.mul_add] at h3
    omega

/-- YOUNG's law. -/
theorem young_run {cost : List Int} (hf : ∀ x, 0 ≤ costF cost x) {k h : Nat} (hh : 1 ≤ h) (hhk : h ≤ k) : ∀ (l H : List Int) (n : Int), SchedC (costF cost) h H l n → ∀ c : Int × List (Int × Int), GoodC (costF cost) k c.2 →
    ((k - h + 1 : Nat) : Int) * ((l.foldl (landStep cost k) c).1 - c.1) ≤ (k : Int) * n + potF (costF cost) k h c.2 H := by
  intro l
  induction l with
  | nil =>
    rintro H n rfl c hg
    have := pot_nonneg hf hh hg H
    show _ * (c.1 - c.1) ≤ _
    rw [Int.sub_self, Int.mul_zero, Int.mul_zero]; omega
  | cons p l ih =>
    rintro H n ⟨H2, n2, h1, h2, h3, h4, h5, rfl⟩ c hg
    have a1 := ih H2 n2 h5 (landStep cost k c p) (goodC_step hf (by omega) hg p)
    have a2 := young_step hh hhk hg h1 h2 h3
    have a3 := pot_other (k := k) (h := h) hf hg h1 h4
    rw [List.foldl_cons]
    rw [show (List.foldl (landStep cost k) (landStep cost k c p) l).1 - c.1 = ((List.foldl (landStep cost k) (landStep cost k c p) l).1 - (landStep cost k c p).1) + ((landStep cost k c p).1 - c.1) by omega, Int.mul_add, Int.mul_add]
    omega
theorem young {cost : List Int} (hf : ∀ x, 0 ≤ costF cost x) {k h : Nat} (hh : 1 ≤ h) (hhk : h ≤ k) {l : List Int} {n : Int} (hs : SchedC (costF cost) h [] l n) : ((k - h + 1 : Nat) : Int) * (landRun cost k l).1 ≤ (k : Int) * n := by
  have := young_run hf hh hhk l [] n hs (0, []) ⟨by simp, by simp, by simp⟩
  have e : potF (costF cost) k h [] [] = 0 := by simp [potF, sumS, sumF]
  rw [show ((0 : Int), ([] : List (Int × Int))).2 = [] from rfl, e] at this
  show _ * (l.foldl (landStep cost k) (0, [])).1 ≤ _
  have e2 : ((0 : Int), ([] : List (Int × Int))).1 = 0 := rfl
  rw [e2, Int.sub_zero] at this
  omega

/-- Who pays as a landlord pays as anybody could. -/
theorem land_sched {cost : List Int} (hf : ∀ x, 0 ≤ costF cost x) {k : Nat} (hk : 1 ≤ k) : ∀ (l : List Int) (c : Int × List (Int × Int)), GoodC (costF cost) k c.2 →
    SchedC (costF cost) k (c.2.map Prod.fst) l ((l.foldl (landStep cost k) c).1 - c.1) := by
  intro l
  induction l with
  | nil => intro c _; show c.1 - c.1 = 0; omega
  | cons p l ih =>
    intro c hg
    have h1 := goodC_step hf hk hg p
    refine ⟨(landStep cost k c p).2.map Prod.fst, _, h1.1, by rw [List.length_map]; exact h1.2.1, ?_, ?_, ih (landStep cost k c p) h1, ?_⟩
    · unfold landStep
      split
      · rename_i hp
        obtain ⟨b, hb⟩ := page_at hp
        show p ∈ (c.2.set _ (p, _)).map Prod.fst
        rw [set_fst hb]; exact hp
      · simp
    · intro x hx
      unfold landStep at hx
      split at hx
      · rename_i hp
        obtain ⟨b, hb⟩ := page_at hp
        have hx : x ∈ (c.2.set _ (p, _)).map Prod.fst := hx
        rw [set_fst hb] at hx; exact .inr hx
      · have hx : x ∈ (_ ++ [(p, _)] : List (Int × Int)).map Prod.fst := hx
        rw [List.map_append, List.mem_append] at hx
        rcases hx with hx | hx
        · split at hx
          · exact .inr (roomed_pages hx)
          · exact .inr hx
        · simp at hx; exact .inl hx
    · rw [List.foldl_cons]
      have : (landStep cost k c p).1 = c.1 + (if p ∈ c.2.map Prod.fst then 0 else costF cost p) := by
        unfold landStep
        split
        · show c.1 = _; omega
        · rfl
      omega
theorem landRun_sched {cost : List Int} (hf : ∀ x, 0 ≤ costF cost x) {k : Nat} (hk : 1 ≤ k) (l : List Int) : SchedC (costF cost) k [] l (landRun cost k l).1 := by
  have := land_sched hf hk l (0, []) ⟨by simp, by simp, by simp⟩
  have e2 : ((0 : Int), ([] : List (Int × Int))).1 = 0 := rfl
  rw [e2, Int.sub_zero] at this
  exact this
end Go.Proofs.YtmeamgeojcbljaaDoor
