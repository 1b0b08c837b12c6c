/- Plain words on larderwickref1.LeastServers: where servers are, as a number by 13; no program in sight. -/
import Derived.Test.YtmeamgeojcbljaaDoorTabPlain
import Derived.Test.YtmeamgeojcbljaaDoorServeLaws
namespace Go.Proofs.YtmeamgeojcbljaaDoor

def encN (t : List Int) : Nat := t.foldl (fun k x => k * 13 + x.toNat) 0
theorem encN_snoc (t : List Int) (x : Int) : encN (t ++ [x]) = encN t * 13 + x.toNat := by unfold encN; rw [List.foldl_append]; rfl
theorem encN_lt {t : List Int} (h : ∀ y ∈ t, 0 ≤ y ∧ y ≤ 12) : encN t < 13 ^ t.length := by
  induction t using list_snoc_ind with
  | h0 => decide
  | h1 t x ih =>
    have h1 := ih (fun y hy => h y (by simp [hy]))
    have h2 := h x (by simp)
    rw [encN_snoc, List.length_append, List.length_singleton, Nat.pow_succ]
    omega
/-- A step of a table. -/
def NxD (n : Nat) (x : Int) (k k' : Nat) (d : Int) : Prop := k < 13 ^ n ∧ ∃ j, j < n ∧ (k' : Int) = (k : Int) + (x - ((k / 13 ^ j % 13 : Nat) : Int)) * ((13 ^ j : Nat) : Int) ∧ d = absI ((k / 13 ^ j % 13 : Nat) : Int) x
/-- Where servers may be, by number, at what cost. -/
def RD (n : Nat) (s a : List Int) (k : Nat) (c : Int) : Prop := ∃ t, onL n t ∧ encN t = k ∧ RunTo (NxS n) s a t c

theorem enc_dig {n : Nat} (hn : n ≤ 3) {t : List Int} (ht : onL n t) {x : Int} (hx : 0 ≤ x ∧ x ≤ 12) {j : Nat} (hj : j < n) :
    ((encN t / 13 ^ j % 13 : Nat) : Int) = t.getD (n - 1 - j) 0 ∧ (encN (t.set (n - 1 - j) x) : Int) = (encN t : Int) + (x - t.getD (n - 1 - j) 0) * ((13 ^ j : Nat) : Int) := by
  obtain ⟨hl, hi⟩ := ht
  match t, hl with
  | [], hl => simp at hl; omega
  | [a], hl =>
    have ha := hi a (by simp)
    obtain rfl : n = 1 := by simpa using hl.symm
    obtain rfl : j = 0 := by omega
    constructor
    · show (((0 * 13 + a.toNat) / 13 ^ 0 % 13 : Nat) : Int) = a
      simp only [Nat.pow_zero, Nat.div_one]; omega
    · show ((0 * 13 + x.toNat : Nat) : Int) = ((0 * 13 + a.toNat : Nat) : Int) + (x - a) * ((13 ^ 0 : Nat) : Int)
      simp only [Nat.pow_zero]; omega
  | [a, b], hl =>
    have ha := hi a (by simp)
    have hb := hi b (by simp)
    obtain rfl : n = 2 := by simpa using hl.symm
    rcases (show j = 0 ∨ j = 1 by omega) with rfl | rfl
    · constructor
      · show ((((0 * 13 + a.toNat) * 13 + b.toNat) / 13 ^ 0 % 13 : Nat) : Int) = b
        simp only [Nat.pow_zero, Nat.div_one]; omega
      · show (((0 * 13 + a.toNat) * 13 + x.toNat : Nat) : Int) = (((0 * 13 + a.toNat) * 13 + b.toNat : Nat) : Int) + (x - b) * ((13 ^ 0 : Nat) : Int)
        simp only [Nat.pow_zero]; omega
    · constructor
      · show ((((0 * 13 + a.toNat) * 13 + b.toNat) / 13 ^ 1 % 13 : Nat) : Int) = a
        simp only [Nat.pow_one]; omega
      · show (((0 * 13 + x.toNat) * 13 + b.toNat : Nat) : Int) = (((0 * 13 + a.toNat) * 13 + b.toNat : Nat) : Int) + (x - a) * ((13 ^ 1 : Nat) : Int)
        simp only [Nat.pow_one]; omega
  | [a, b, c], hl =>
    have ha := hi a (by simp)
    have hb := hi b (by simp)
    have hc := hi c (by simp)
    obtain rfl : n = 3 := by simpa using hl.symm
    have e2 : (13 : Nat) ^ 2 = 169 := by decide
    rcases (show j = 0 ∨ j = 1 ∨ j = 2 by omega) with rfl | rfl | rfl
    · constructor
      · show (((((0 * 13 + a.toNat) * 13 + b.toNat) * 13 + c.toNat) / 13 ^ 0 % 13 : Nat) : Int) = c
        simp only [Nat.pow_zero, Nat.div_one]; omega
      · show ((((0 * 13 + a.toNat) * 13 + b.toNat) * 13 + x.toNat : Nat) : Int) = ((((0 * 13 + a.toNat) * 13 + b.toNat) * 13 + c.toNat : Nat) : Int) + (x - c) * ((13 ^ 0 : Nat) : Int)
        simp only [Nat.pow_zero]; omega
    · constructor
      · show (((((0 * 13 + a.toNat) * 13 + b.toNat) * 13 + c.toNat) / 13 ^ 1 % 13 : Nat) : Int) = b
        simp only [Nat.pow_one]; omega
      · show ((((0 * 13 + a.toNat) * 13 + x.toNat) * 13 + c.toNat : Nat) : Int) = ((((0 * 13 + a.toNat) * 13 + b.toNat) * 13 + c.toNat : Nat) : Int) + (x - b) * ((13 ^ 1 : Nat) : Int)
        simp only [Nat.pow_one]; omega
    · constructor
      · show (((((0 * 13 + a.toNat) * 13 + b.toNat) * 13 + c.toNat) / 13 ^ 2 % 13 : Nat) : Int) = a
        rw [e2]; omega
      · show ((((0 * 13 + x.toNat) * 13 + b.toNat) * 13 + c.toNat : Nat) : Int) = ((((0 * 13 + a.toNat) * 13 + b.toNat) * 13 + c.toNat : Nat) : Int) + (x - a) * ((13 ^ 2 : Nat) : Int)
        rw [e2]; omega
  | _ :: _ :: _ :: _ :: _, hl => simp at hl; omega
theorem enc_step {n : Nat} (hn : n ≤ 3) {t : List Int} (ht : onL n t) {x : Int} (hx : 0 ≤ x ∧ x ≤ 12) (k' : Nat) (d : Int) : NxD n x (encN t) k' d ↔ ∃ t', NxS n x t t' d ∧ encN t' = k' := by
  constructor
  · rintro ⟨_, j, hj, h1, h2⟩
    obtain ⟨e1, e2⟩ := enc_dig hn ht hx hj
    rw [e1] at h1 h2
    exact ⟨t.set (n - 1 - j) x, ⟨n - 1 - j, by omega, rfl, h2⟩, by rw [← e2] at h1; exact_mod_cast h1.symm⟩
  · rintro ⟨t', ⟨i, hi, rfl, rfl⟩, rfl⟩
    obtain ⟨e1, e2⟩ := enc_dig hn ht hx (show n - 1 - i < n by omega)
    rw [show n - 1 - (n - 1 - i) = i by omega] at e1 e2
    refine ⟨by have := encN_lt ht.2; rwa [ht.1] at this, n - 1 - i, by omega, ?_, ?_⟩
    · rw [e1]; exact e2
    · rw [e1]
theorem runS_onT {n : Nat} : ∀ {a p p' : List Int} {d : Int}, onL n p → (∀ y ∈ a, 0 ≤ y ∧ y ≤ 12) → RunTo (NxS n) p a p' d → onL n p' := by
  intro a
  induction a with
  | nil => rintro p p' d hp _ ⟨rfl, _⟩; exact hp
  | cons x a ih =>
    rintro p p' d hp ha ⟨k1, d1, d2, ⟨i, _, rfl, _⟩, h2, _⟩
    exact ih (onL_set hp i (ha x (by simp))) (fun y hy => ha y (by simp [hy])) h2
theorem absI_nn (a b : Int) : 0 ≤ absI a b := by unfold absI; omega
theorem serve_tab_step {n : Nat} (hn : n ≤ 3) {s a : List Int} (hs : onL n s) {i : Nat} {x : Int} (hi : a[i]? = some x) (ha : ∀ y ∈ a, 0 ≤ y ∧ y ≤ 12) {T T2 : List Int}
    (h : Tab (RD n s (a.take i)) T) (hT : Tab (fun t c => ∃ s v d, T[s]? = some v ∧ 0 ≤ v ∧ NxD n x s t d ∧ c = v + d) T2) : Tab (RD n s (a.take (i + 1))) T2 := by
  have hx := ha x (List.mem_of_getElem? hi)
  refine Tab.step (Nx := fun _ _ => True) (N2 := NxD n x) h (fun s t d hd => ?_) (fun t c => ?_) hT
  · obtain ⟨_, j, _, _, rfl⟩ := hd; exact absI_nn _ _
  · unfold RD
    rw [List.take_add_one, hi, Option.toList_some]
    constructor
    · rintro ⟨t', ht', rfl, hr⟩
      obtain ⟨t1, d1, d2, h1, h2, rfl⟩ := (runTo_snoc (NxS n)).1 hr
      have ho := (runS_onT hs (fun y hy => ha y (List.mem_of_mem_take hy)) h1)
      exact ⟨encN t1, d1, d2, ⟨t1, ho, rfl, h1⟩, (enc_step hn ho hx _ _).2 ⟨t', h2, rfl⟩, rfl⟩
    · rintro ⟨k, d1, d2, ⟨t1, ho, rfl, h1⟩, h2, rfl⟩
      obtain ⟨t', h3, rfl⟩ := (enc_step hn ho hx _ _).1 h2
      refine ⟨t', ?_, rfl, (runTo_snoc (NxS n)).2 ⟨t1, d1, d2, h1, h3, rfl⟩⟩
      obtain ⟨j, _, rfl, _⟩ := h3
      exact onL_set ho j hx
theorem serve_tab_start {n N : Nat} {s : List Int} (hs : onL n s) (hN : encN s < N) : Tab (RD n s []) ((List.replicate N (-1)).set (encN s) 0) := by
  have h := (tab_none N).upd (t := encN s) (u := -1) (x := 0) (by rw [List.getElem?_replicate, if_pos hN]) (by omega)
  refine Tab.congr h fun k c => ?_
  constructor
  · rintro (h | ⟨rfl, rfl⟩)
    · exact h.elim
    · exact ⟨s, hs, rfl, rfl, rfl⟩
  · rintro ⟨t, _, rfl, rfl, rfl⟩; exact .inr ⟨rfl, rfl⟩
theorem serve_tab_best {n : Nat} {s a : List Int} (hs : onL n s) (ha : ∀ y ∈ a, 0 ≤ y ∧ y ≤ 12) {v : Int} {T : List Int} (hT : Tab (RD n s a) T) (h : Best (NxS n) s a v) : minT T = v := by
  obtain ⟨⟨t, ht⟩, hb⟩ := h
  exact hT.min ⟨encN t, t, runS_onT hs ha ht, rfl, ht⟩ (fun k c ⟨t, _, _, hr⟩ => hb t c hr)
/-- What comes of the first k places. -/
def AfD (n : Nat) (x : Int) (T : List Int) (k : Nat) (t : Nat) (c : Int) : Prop := ∃ s v d, s < k ∧ T[s]? = some v ∧ 0 ≤ v ∧ NxD n x s t d ∧ c = v + d
theorem afD_succ {n : Nat} {x : Int} {T : List Int} {k : Nat} {v : Int} (hv : T[k]? = some v) (t : Nat) (c : Int) : AfD n x T (k + 1) t c ↔ AfD n x T k t c ∨ (0 ≤ v ∧ ∃ d, NxD n x k t d ∧ c = v + d) := by
  constructor
  · rintro ⟨s, u, d, h1, h2, h3, h4, h5⟩
    by_cases e : s = k
    · subst e
      rw [hv] at h2; injection h2 with h2; subst h2
      exact .inr ⟨h3, d, h4, h5⟩
    · exact .inl ⟨s, u, d, by omega, h2, h3, h4, h5⟩
  · rintro (⟨s, u, d, h1, h2, h3, h4, h5⟩ | ⟨h3, d, h4, h5⟩)
    · exact ⟨s, u, d, by omega, h2, h3, h4, h5⟩
    · exact ⟨k, v, d, by omega, hv, h3, h4, h5⟩
/-- And of place k, by the first i servers. -/
def AfE (n : Nat) (x : Int) (T : List Int) (k : Nat) (v : Int) (i : Nat) (t : Nat) (c : Int) : Prop := AfD n x T k t c ∨ ∃ j, j < i ∧ (t : Int) = (k : Int) + (x - ((k / 13 ^ j % 13 : Nat) : Int)) * ((13 ^ j : Nat) : Int) ∧ c = v + absI ((k / 13 ^ j % 13 : Nat) : Int) x
theorem afE_succ {n : Nat} {x : Int} {T : List Int} {k : Nat} {v : Int} {i : Nat} (t : Nat) (c : Int) : AfE n x T k v (i + 1) t c ↔ AfE n x T k v i t c ∨ ((t : Int) = (k : Int) + (x - ((k / 13 ^ i % 13 : Nat) : Int)) * ((13 ^ i : Nat) : Int) ∧ c = v + absI ((k / 13 ^ i % 13 : Nat) : Int) x) := by
  constructor
  · rintro (h | ⟨j, h1, h3, h4⟩)
    · exact .inl (.inl h)
    · by_cases e : j = i
      · subst e; exact .inr ⟨h3, h4⟩
      · exact .inl (.inr ⟨j, by omega, h3, h4⟩)
  · rintro ((h | ⟨j, h1, h3, h4⟩) | ⟨h3, h4⟩)
    · exact .inl h
    · exact .inr ⟨j, by omega, h3, h4⟩
    · exact .inr ⟨i, by omega, h3, h4⟩
theorem afE_all {n : Nat} {x : Int} {T : List Int} {k : Nat} (hk : k < 13 ^ n) {v : Int} (hv : T[k]? = some v) (hv0 : 0 ≤ v) (t : Nat) (c : Int) : AfE n x T k v n t c ↔ AfD n x T (k + 1) t c := by
  rw [afD_succ hv]
  constructor
  · rintro (h | ⟨j, h1, h3, h4⟩)
    · exact .inl h
    · exact .inr ⟨hv0, _, ⟨hk, j, h1, h3, rfl⟩, h4⟩
  · rintro (h | ⟨_, d, ⟨_, j, h1, h3, rfl⟩, h4⟩)
    · exact .inl h
    · exact .inr ⟨j, h1, h3, h4⟩
set_option linter.unusedSimpArgs false in
/-- Where a step leads. -/
theorem dig_to {n : Nat} (hn : n ≤ 3) {k : Nat} (hk : k < 13 ^ n) {x : Int} (hx : 0 ≤ x ∧ x ≤ 12) {j : Nat} (hj : j < n) : 0 ≤ (k : Int) + (x - ((k / 13 ^ j % 13 : Nat) : Int)) * ((13 ^ j : Nat) : Int) ∧ (k : Int) + (x - ((k / 13 ^ j % 13 : Nat) : Int)) * ((13 ^ j : Nat) : Int) < ((13 ^ n : Nat) : Int) := by
  have e2 : (13 : Nat) ^ 2 = 169 := by decide
  have e3 : (13 : Nat) ^ 3 = 2197 := by decide
  rcases (show n = 1 ∨ n = 2 ∨ n = 3 by omega) with rfl | rfl | rfl
  · obtain rfl : j = 0 := by omega
    simp only [Nat.pow_zero, Nat.pow_one, Nat.div_one] at *; omega
  · rcases (show j = 0 ∨ j = 1 by omega) with rfl | rfl
    · simp only [Nat.pow_zero, Nat.pow_one, Nat.div_one, e2] at *; omega
    · simp only [Nat.pow_zero, Nat.pow_one, Nat.div_one, e2] at *; omega
  · rcases (show j = 0 ∨ j = 1 ∨ j = 2 by omega) with rfl | rfl | rfl
    · simp only [Nat.pow_zero, Nat.pow_one, Nat.div_one, e2, e3] at *; omega
    · simp only [Nat.pow_zero, Nat.pow_one, Nat.div_one, e2, e3] at *; omega
    · simp only [Nat.pow_zero, Nat.pow_one, Nat.div_one, e2, e3] at *; omega
theorem fill_all {T : List Int} {N : Nat} (hl : T.length = N) (h : ∀ s, s < N → T[s]? = some (if True ∧ s < N then -1 else 0)) : T = List.replicate N (-1) := by
  apply List.ext_getElem?
  intro s
  rw [List.getElem?_replicate]
  by_cases hs : s < N
  · rw [if_pos hs, h s hs, if_pos ⟨trivial, hs⟩]
  · rw [if_neg hs, List.getElem?_eq_none (by omega)]
end Go.Proofs.YtmeamgeojcbljaaDoor
