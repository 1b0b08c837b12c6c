/- Plain laws on what pages cost: the least, with more slots, at scale; no program in sight. -/
import Derived.Test.YtmeamgeojcbljaaDoorLeastPlain
namespace Go.Proofs.YtmeamgeojcbljaaDoor

theorem schedC_nonneg {f : Int → Int} (hf : ∀ x, 0 ≤ f x) {s : Nat} : ∀ (l H : List Int) (n : Int), SchedC f s H l n → 0 ≤ n := by
  intro l
  induction l with
  | nil => rintro H n h; rw [show n = 0 from h]; exact Int.le_refl _
  | cons p l ih =>
    rintro H n ⟨H2, n2, _, _, _, _, h5, rfl⟩
    have := ih _ _ h5
    have := hf p
    split <;> omega
theorem schedC_more {f : Int → Int} {s t : Nat} (hst : s ≤ t) : ∀ (l H : List Int) (n : Int), SchedC f s H l n → SchedC f t H l n := by
  intro l
  induction l with
  | nil => intro H n h; exact h
  | cons p l ih =>
    rintro H n ⟨H2, n2, h1, h2, h3, h4, h5, rfl⟩
    exact ⟨H2, n2, h1, by omega, h3, h4, ih _ _ h5, rfl⟩
theorem schedC_once {f : Int → Int} (hf : ∀ x, 0 ≤ f x) {s : Nat} : ∀ (l H : List Int) (n : Int), SchedC f s H l n → ∀ D : List Int, D.Nodup → (∀ x ∈ D, x ∈ l ∧ x ∉ H) → sumF f D ≤ n := by
  intro l
  induction l with
  | nil =>
    rintro H n h D _ hD
    rw [show n = 0 from h]
    cases D with
    | nil => simp [sumF]
    | cons x D => have := (hD x (by simp)).1; simp at this
  | cons p l ih =>
    rintro H n ⟨H2, n2, h1, h2, h3, h4, h5, rfl⟩ D hn hD
    by_cases hp : p ∈ D
    · have hpH := (hD p hp).2
      rw [if_neg hpH, sumF_erase f hp]
      have := ih _ _ h5 (D.erase p) (hn.erase p) (fun x hx => by
        have hxp : x ≠ p := fun e => by subst e; exact (List.Nodup.not_mem_erase hn) hx
        have hx2 := hD x (List.mem_of_mem_erase hx)
        refine ⟨?_, fun hH => ?_⟩
        · have := hx2.1; rw [List.mem_cons] at this; exact this.resolve_left hxp
        · rcases h4 x hH with e | e
          · exact hxp e
          · exact hx2.2 e)
      omega
    · have := ih _ _ h5 D hn (fun x hx => by
        have hxp : x ≠ p := fun e => hp (e ▸ hx)
        have hx2 := hD x hx
        refine ⟨?_, fun hH => ?_⟩
        · have := hx2.1; rw [List.mem_cons] at this; exact this.resolve_left hxp
        · rcases h4 x hH with e | e
          · exact hxp e
          · exact hx2.2 e)
      have := hf p
      split <;> omega
theorem sumF_append (f : Int → Int) (a b : List Int) : sumF f (a ++ b) = sumF f a + sumF f b := by
  induction a with
  | nil => simp [sumF]
  | cons x a ih => rw [List.cons_append, sumF_cons, sumF_cons, ih]; omega
/-- What those of the first j pages that are asked for cost together. -/
def onceK (f : Int → Int) (l : List Int) (j : Nat) : Int := sumF f (((List.range j).map Int.ofNat).filter (· ∈ l))
theorem onceK_succ (f : Int → Int) (l : List Int) (j : Nat) : onceK f l (j + 1) = onceK f l j + if (j : Int) ∈ l then f j else 0 := by
  unfold onceK
  rw [List.range_succ, List.map_append, List.filter_append, sumF_append]
  congr 1
  show sumF f ([(j : Int)].filter (· ∈ l)) = _
  rw [List.filter_cons, List.filter_nil]
  by_cases h : (j : Int) ∈ l
  · rw [if_pos (by simpa using h), if_pos h]; simp [sumF]
  · rw [if_neg (by simpa using h), if_neg h]; rfl
theorem onceK_in {f : Int → Int} {B : Int} (hf : ∀ x, 0 ≤ f x ∧ f x ≤ B) (l : List Int) : ∀ j : Nat, 0 ≤ onceK f l j ∧ onceK f l j ≤ B * j := by
  intro j
  induction j with
  | zero => simp [onceK, sumF]
  | succ j ih =>
    rw [onceK_succ, Int.natCast_add, Int.mul_add]
    have := hf j
    simp
    split <;> omega
theorem once_le {f : Int → Int} (hf : ∀ x, 0 ≤ f x) {s : Nat} {l : List Int} {v : Int} (h : LeastC f s l v) (j : Nat) : onceK f l j ≤ v := by
  refine schedC_once hf _ _ _ h.1 _ ?_ (fun x hx => ⟨by have := (List.mem_filter.1 hx).2; simpa using this, by simp⟩)
  refine List.Nodup.sublist List.filter_sublist ?_
  rw [List.Nodup, List.pairwise_map]
  exact List.nodup_range.imp fun {a b} h e => h (by have : ((a : Nat) : Int) = b := e; omega)
theorem leastC_run {cost : List Int} (hf : ∀ x, 0 ≤ costF cost x) {s : Nat} (hs : 1 ≤ s) {l : List Int} {v : Int} (h : LeastC (costF cost) s l v) : v ≤ (landRun cost s l).1 := h.2 _ (landRun_sched hf hs l)
theorem leastC_more {f : Int → Int} {s t : Nat} (hst : s ≤ t) {l : List Int} {v u : Int} (h : LeastC f s l v) (h' : LeastC f t l u) : u ≤ v := h'.2 _ (schedC_more hst _ _ _ h.1)
theorem leastC_fact {k : Int} (h : LeastC (costF [5, 1, 1]) 2 [0, 1, 2, 0] k) : k = 7 := by
  have hf : ∀ x, 0 ≤ costF [5, 1, 1] x := fun x => by
    unfold costF
    generalize x.toNat = j
    rcases j with _ | _ | _ | j <;> simp
  have h1 := leastC_run hf (by omega) h
  have h2 := once_le hf h 3
  have e1 : (landRun [5, 1, 1] 2 [0, 1, 2, 0]).1 = 7 := by decide
  have e2 : onceK (costF [5, 1, 1]) [0, 1, 2, 0] 3 = 7 := by decide
  omega

/-- All costs so many times as much. -/
theorem schedC_scale {f g : Int → Int} {by_ : Int} (hg : ∀ x, g x = f x * by_) {s : Nat} : ∀ (l H : List Int) (n : Int), SchedC f s H l n → SchedC g s H l (n * by_) := by
  intro l
  induction l with
  | nil => rintro H n h; rw [show n = 0 from h]; show 0 * by_ = 0; simp
  | cons p l ih =>
    rintro H n ⟨H2, n2, h1, h2, h3, h4, h5, rfl⟩
    refine ⟨H2, n2 * by_, h1, h2, h3, h4, ih _ _ h5, ?_⟩
    rw [Int.add_mul]
    split
    · simp
    · rw [hg]
theorem schedC_unscale {f g : Int → Int} {by_ : Int} (hg : ∀ x, g x = f x * by_) {s : Nat} : ∀ (l H : List Int) (n : Int), SchedC g s H l n → ∃ m, SchedC f s H l m ∧ n = m * by_ := by
  intro l
  induction l with
  | nil => rintro H n h; exact ⟨0, rfl, by rw [show n = 0 from h]; simp⟩
  | cons p l ih =>
    rintro H n ⟨H2, n2, h1, h2, h3, h4, h5, rfl⟩
    obtain ⟨m, hm, rfl⟩ := ih _ _ h5
    refine ⟨(if p ∈ H then 0 else f p) + m, ⟨H2, m, h1, h2, h3, h4, hm, rfl⟩, ?_⟩
    rw [Int.add_mul]
    split
    · simp
    · rw [hg]
theorem leastC_scale {f g : Int → Int} {by_ : Int} (hb : 1 ≤ by_) (hg : ∀ x, g x = f x * by_) {s : Nat} {l : List Int} {v u : Int} (h : LeastC f s l v) (h' : LeastC g s l u) : u = v * by_ := by
  have h1 := h'.2 _ (schedC_scale hg _ _ _ h.1)
  obtain ⟨m, hm, rfl⟩ := schedC_unscale hg _ _ _ h'.1
  have h2 := h.2 _ hm
  have := Int.mul_le_mul_of_nonneg_right h2 (show 0 ≤ by_ by omega)
  omega
/-- Each credit so many times as much. -/
def scaleH (b : Int) (h : List (Int × Int)) : List (Int × Int) := h.map fun t => (t.1, t.2 * b)
theorem scale_fst (b : Int) (h : List (Int × Int)) : (scaleH b h).map Prod.fst = h.map Prod.fst := by simp [scaleH, List.map_map, Function.comp_def]
theorem foldl_min_scale {b : Int} (hb : 1 ≤ b) : ∀ (l : List Int) (m : Int), (l.map (· * b)).foldl min (m * b) = l.foldl min m * b := by
  intro l
  induction l with
  | nil => intro m; rfl
  | cons x l ih =>
    intro m
    rw [List.map_cons, List.foldl_cons, List.foldl_cons, ← ih]
    congr 1
    rcases Int.le_total m x with h | h
    · have := Int.mul_le_mul_of_nonneg_right h (show 0 ≤ b by omega)
      rw [Int.min_eq_left h, Int.min_eq_left this]
    · have := Int.mul_le_mul_of_nonneg_right h (show 0 ≤ b by omega)
      rw [Int.min_eq_right h, Int.min_eq_right this]
theorem leastH_scale {b : Int} (hb : 1 ≤ b) (h : List (Int × Int)) : leastH (scaleH b h) = leastH h * b := by
  unfold leastH
  rw [show (scaleH b h).map Prod.snd = (h.map Prod.snd).map (· * b) by simp [scaleH, List.map_map, Function.comp_def]]
  rw [show ((scaleH b h).getD 0 (0, 0)).2 = (h.getD 0 (0, 0)).2 * b by cases h <;> simp [scaleH]]
  exact foldl_min_scale hb _ _
theorem lowered_scale {b : Int} (h : List (Int × Int)) (d : Int) : lowered (scaleH b h) (d * b) = scaleH b (lowered h d) := by
  simp [lowered, scaleH, List.map_map, Function.comp_def, Int.sub_mul]
theorem idx0_scale {b : Int} (hb : 1 ≤ b) : ∀ h : List (Int × Int), ((scaleH b h).map Prod.snd).idxOf 0 = (h.map Prod.snd).idxOf 0 := by
  intro h
  induction h with
  | nil => rfl
  | cons t h ih =>
    show (t.2 * b :: (scaleH b h).map Prod.snd).idxOf 0 = (t.2 :: h.map Prod.snd).idxOf 0
    rw [List.idxOf_cons, List.idxOf_cons, ih]
    by_cases e : t.2 = 0
    · rw [e, Int.zero_mul]
    · have : t.2 * b ≠ 0 := Int.mul_ne_zero e (by omega)
      have e1 : (t.2 * b == 0) = false := by simpa using this
      have e2 : (t.2 == 0) = false := by simpa using e
      rw [e1, e2]
theorem roomed_scale {b : Int} (hb : 1 ≤ b) (h : List (Int × Int)) : roomed (scaleH b h) = scaleH b (roomed h) := by
  unfold roomed
  rw [leastH_scale hb, lowered_scale, idx0_scale hb]
  simp [scaleH]
theorem landStep_scale {cost more : List Int} {b : Int} (hb : 1 ≤ b) (hm : more = cost.map (· * b)) (s : Nat) (c : Int × List (Int × Int)) (p : Int) :
    landStep more s (c.1 * b, scaleH b c.2) p = ((landStep cost s c p).1 * b, scaleH b (landStep cost s c p).2) := by
  have hc : more.getD p.toNat 0 = cost.getD p.toNat 0 * b := by
    rw [hm, List.getD_eq_getElem?_getD, List.getD_eq_getElem?_getD, List.getElem?_map]
    cases cost[p.toNat]? <;> simp
  unfold landStep
  simp only [scale_fst, hc]
  have hl : (scaleH b c.2).length = c.2.length := by simp [scaleH]
  split
  · show (c.1 * b, (scaleH b c.2).set _ _) = (c.1 * b, scaleH b (c.2.set _ _))
    simp [scaleH, List.map_set]
  · rw [hl]
    split
    · rw [roomed_scale hb]; simp [scaleH, Int.add_mul]
    · simp [scaleH, Int.add_mul]
theorem landRun_scale {cost more : List Int} {b : Int} (hb : 1 ≤ b) (hm : more = cost.map (· * b)) (s : Nat) (l : List Int) :
    landRun more s l = ((landRun cost s l).1 * b, scaleH b (landRun cost s l).2) := by
  have key : ∀ (l : List Int) (c : Int × List (Int × Int)), l.foldl (landStep more s) (c.1 * b, scaleH b c.2) = ((l.foldl (landStep cost s) c).1 * b, scaleH b (l.foldl (landStep cost s) c).2) := by
    intro l
    induction l with
    | nil => intro c; rfl
    | cons p l ih => intro c; rw [List.foldl_cons, List.foldl_cons, landStep_scale hb hm, ih]
  have := key l (0, [])
  simpa [landRun, scaleH] using this

/-- What holds of who is there at the end. -/
theorem land_good {cost : List Int} (hf : ∀ x, 0 ≤ costF cost x) {k : Nat} (hk : 1 ≤ k) (l : List Int) : GoodC (costF cost) k (landRun cost k l).2 := by
  have key : ∀ (l : List Int) (c : Int × List (Int × Int)), GoodC (costF cost) k c.2 → GoodC (costF cost) k (l.foldl (landStep cost k) c).2 := by
    intro l
    induction l with
    | nil => intro c h; exact h
    | cons p l ih => intro c h; exact ih _ (goodC_step hf hk h p)
  exact key l (0, []) ⟨by simp, by simp, by simp⟩
theorem land_pages {cost : List Int} {k : Nat} (l : List Int) : ∀ x ∈ (landRun cost k l).2.map Prod.fst, x ∈ l := by
  have key : ∀ (l : List Int) (c : Int × List (Int × Int)), ∀ x ∈ (l.foldl (landStep cost k) c).2.map Prod.fst, x ∈ l ∨ x ∈ c.2.map Prod.fst := by
    intro l
    induction l with
    | nil => intro c x h; exact .inr h
    | cons p l ih =>
      intro c x h
      rcases ih _ x h with h | h
      · exact .inl (by simp [h])
      · unfold landStep at h
        split at h
        · rename_i hp
          obtain ⟨b, hb⟩ := page_at hp
          have h : x ∈ (c.2.set _ (p, _)).map Prod.fst := h
          rw [set_fst hb] at h
          exact .inr h
        · have h : x ∈ (_ ++ [(p, _)] : List (Int × Int)).map Prod.fst := h
          rw [List.map_append, List.mem_append] at h
          rcases h with h | h
          · split at h
            · exact .inr (roomed_pages h)
            · exact .inr h
          · simp at h; subst h; exact .inl (by simp)
  intro x h
  exact (key l (0, []) x h).resolve_right (by simp)
theorem land_last {cost : List Int} {k : Nat} {l : List Int} {p : Int} : (p, costF cost p) ∈ (landRun cost k (l ++ [p])).2 := by
  show _ ∈ ((l ++ [p]).foldl (landStep cost k) (0, [])).2
  rw [List.foldl_append]
  show _ ∈ (landStep cost k _ p).2
  generalize l.foldl (landStep cost k) (0, []) = c
  unfold landStep
  split
  · rename_i hp
    have h1 := List.idxOf_lt_length_iff.2 hp
    rw [List.length_map] at h1
    exact List.mem_iff_getElem?.2 ⟨_, by show (c.2.set _ (p, _))[(c.2.map Prod.fst).idxOf p]? = _; rw [List.getElem?_set_self h1]; rfl⟩
  · show _ ∈ _ ++ [(p, _)]
    simp [costF]
end Go.Proofs.YtmeamgeojcbljaaDoor
