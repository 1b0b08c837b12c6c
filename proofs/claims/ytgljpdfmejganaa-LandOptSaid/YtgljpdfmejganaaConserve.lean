/- Plain laws: where few pages are asked for, few are not there: in each way; no program in sight. -/
import Derived.Test.YtgljpdfmejganaaClockLaws
import Derived.Test.YtgljpdfmejganaaFifoPlain
import Derived.Test.YtgljpdfmejganaaLastPlain
namespace Go.Proofs.Ytgljpdfmejganaa
/-- A way to go that tells hits H: from any place on no more are not there than unlike pages are asked for, as long as these are no more than s. -/
def Conserves (s : Nat) (l : List Int) (H : List Bool) : Prop :=
  ∀ f k, f ≤ k → k ≤ l.length → someN ((l.take k).drop f) ≤ s → missN (H.take k) ≤ missN (H.take f) + someN ((l.take k).drop f)

theorem nodup_le : ∀ {a b : List Int}, a.Nodup → (∀ x ∈ a, x ∈ b) → a.length ≤ b.length := by
  intro a
  induction a with
  | nil => intro b _ _; simp
  | cons x a ih =>
    intro b hn h
    rw [List.nodup_cons] at hn
    have hx := h x (by simp)
    have h1 := ih (b := b.erase x) hn.2 (fun z hz => by
      have hzx : z ≠ x := fun e => hn.1 (e ▸ hz)
      exact (List.mem_erase_of_ne hzx).2 (h z (by simp [hz])))
    have h2 := List.length_erase_of_mem hx
    have h3 := List.length_pos_of_mem hx
    rw [List.length_cons]; omega
theorem seg_succ {l : List Int} {f k : Nat} {y : Int} (hf : f ≤ k) (hy : l[k]? = some y) : (l.take (k + 1)).drop f = (l.take k).drop f ++ [y] := by
  rw [take_succ_of hy, List.drop_append_of_le_length]
  have := (List.getElem?_eq_some_iff.1 hy).1
  simp; omega
/-- Where each page that is asked for a second time is there, or was not there once only. -/
theorem conserve_of {s : Nat} {l : List Int} {H : List Bool} (hH : H.length = l.length) (F : Nat → Nat → List Int)
    (h0 : ∀ f, F f f = []) (hF : ∀ f k y, f ≤ k → l[k]? = some y → someN ((l.take (k + 1)).drop f) ≤ s → F f (k + 1) = F f k ++ (if H[k]? = some false then [y] else []))
    (hN : ∀ f k, f ≤ k → k ≤ l.length → someN ((l.take k).drop f) ≤ s → (F f k).Nodup ∧ ∀ x ∈ F f k, x ∈ (l.take k).drop f) : Conserves s l H := by
  intro f k hfk hk hs
  have key : ∀ d, f + d ≤ k → missN (H.take (f + d)) = missN (H.take f) + (F f (f + d)).length := by
    intro d
    induction d with
    | zero => intro _; rw [Nat.add_zero, h0]; rfl
    | succ d ih =>
      intro hd
      have hy := List.getElem?_eq_getElem (show f + d < l.length by omega)
      have hb := List.getElem?_eq_getElem (show f + d < H.length by omega)
      have hs' : someN ((l.take (f + (d + 1))).drop f) ≤ s := by
        have e : (l.take (f + (d + 1))).drop f = ((l.take k).drop f).take (d + 1) := by
          rw [List.take_drop, List.take_take, Nat.min_eq_left (by omega)]
        rw [e]; exact Nat.le_trans (someN_take_le _ _) hs
      rw [← Nat.add_assoc, missN_succ hb, ih (by omega), hF f (f + d) _ (by omega) hy hs', List.length_append]
      rw [hb]
      cases hc : H[f + d]
      · simp; omega
      · simp
  have e := key (k - f) (by omega)
  rw [show f + (k - f) = k by omega] at e
  obtain ⟨h1, h2⟩ := hN f k hfk hk hs
  have h3 : (F f k).length ≤ someN ((l.take k).drop f) := by
    unfold someN
    exact nodup_le h1 (fun x hx => (mem_dd _ _).2 (h2 x hx))
  omega

/-- Who goes by what was asked for. -/
theorem lru_conserves (s : Nat) (hs : 1 ≤ s) (l : List Int) : Conserves s l (lruRun s l).1 := by
  intro f k hfk hk hse
  have key : ∀ d, f + d ≤ k → missN ((lruRun s l).1.take (f + d)) ≤ missN ((lruRun s l).1.take f) + someN ((l.take (f + d)).drop f) := by
    intro d
    induction d with
    | zero => intro _; simp
    | succ d ih =>
      intro hd
      have hy := List.getElem?_eq_getElem (show f + d < l.length by omega)
      obtain ⟨t, rfl⟩ : ∃ t, s = t + 1 := ⟨s - 1, by omega⟩
      have hb := lru_at t l (f + d) _ hy
      rw [← Nat.add_assoc, missN_succ hb, seg_succ (by omega) hy, someN_snoc]
      have h1 := ih (by omega)
      by_cases hm : l[f + d] ∈ (l.take (f + d)).drop f
      · have hs' : someN ((l.take (f + d)).drop f) ≤ t + 1 := by
          have e : (l.take (f + d)).drop f = ((l.take k).drop f).take d := by
            rw [List.take_drop, List.take_take, Nat.min_eq_left (by omega)]
          rw [e]; exact Nat.le_trans (someN_take_le _ _) hse
        have hin : l[f + d] ∈ (recL (l.take (f + d))).take (t + 1) := by
          obtain ⟨r, hp⟩ := dd_prefix ((l.take (f + d)).drop f).reverse ((l.take (f + d)).take f).reverse
          rw [← List.reverse_append, List.take_append_drop, ← recL_dd] at hp
          rw [hp]
          have hr : (dd ((l.take (f + d)).drop f).reverse).length = someN ((l.take (f + d)).drop f) := by
            have := someN_set (l := (l.take (f + d)).drop f) (dd_nodup ((l.take (f + d)).drop f).reverse) (fun x => by rw [mem_dd, List.mem_reverse])
            exact this.symm
          rw [List.take_append, List.take_of_length_le (by omega)]
          exact List.mem_append_left _ ((mem_dd _ _).2 (List.mem_reverse.2 hm))
        rw [(hasB_iff _ _).2 hin, if_pos hm]; simp; exact h1
      · rw [if_neg hm]; split <;> omega
  have := key (k - f) (by omega)
  rwa [show f + (k - f) = k by omega] at this

/-! ### A store that is a row, the first of which is let go of. -/
/-- The pages that were not there, from f on. -/
def missP (H : List Bool) (l : List Int) (f k : Nat) : List Int := ((List.range (k - f)).filter fun j => H[f + j]? == some false).map fun j => l.getD (f + j) 0
theorem missP_self (H : List Bool) (l : List Int) (f : Nat) : missP H l f f = [] := by simp [missP]
theorem missP_succ (H : List Bool) (l : List Int) (f k : Nat) (y : Int) (hf : f ≤ k) (hy : l[k]? = some y) : missP H l f (k + 1) = missP H l f k ++ (if H[k]? = some false then [y] else []) := by
  unfold missP
  rw [show k + 1 - f = (k - f) + 1 by omega, List.range_succ, List.filter_append, List.map_append]
  congr 1
  have e : f + (k - f) = k := by omega
  by_cases h : H[k]? = some false
  · simp [List.filter_cons, e, h, List.getD_eq_getElem?_getD, hy]
  · simp [List.filter_cons, e, h]
theorem someN_subset {a b : List Int} (h : ∀ x ∈ a, x ∈ b) : someN a ≤ someN b := by
  unfold someN
  exact nodup_le (dd_nodup a) (fun x hx => (mem_dd _ _).2 (h x ((mem_dd _ _).1 hx)))
theorem nodup_len_some {a b : List Int} (ha : a.Nodup) (h : ∀ x ∈ a, x ∈ b) : a.length ≤ someN b := by
  unfold someN
  exact nodup_le ha (fun x hx => (mem_dd _ _).2 (h x hx))

/-- What holds of a row since a time: D was asked for since then, F was not there. -/
structure QueueInv (R D F : List Int) : Prop where
  fd : ∀ p ∈ F, p ∈ D
  fr : ∀ p ∈ F, p ∈ R
  key : ∀ A B p, R = A ++ p :: B → p ∈ F → ∀ x ∈ B, x ∈ D
theorem QueueInv.hit {R D F : List Int} (h : QueueInv R D F) (y : Int) : QueueInv R (D ++ [y]) F :=
  ⟨fun p hp => by simp [h.fd p hp], h.fr, fun A B p e hp x hx => by simp [h.key A B p e hp x hx]⟩
theorem snoc_split {R A B : List Int} {p y : Int} (e : R ++ [y] = A ++ p :: B) : (B = [] ∧ p = y ∧ A = R) ∨ ∃ B', B = B' ++ [y] ∧ R = A ++ p :: B' := by
  induction B using list_snoc_ind with
  | h0 =>
    left
    have h1 := congrArg List.getLast? e
    simp at h1
    have h2 := congrArg List.dropLast e
    simp at h2
    exact ⟨rfl, h1.symm, h2.symm⟩
  | h1 B z ih =>
    right
    have h1 := congrArg List.getLast? e
    have e2 : A ++ p :: (B ++ [z]) = (A ++ p :: B) ++ [z] := by simp
    rw [e2] at e h1
    rw [List.getLast?_concat, List.getLast?_concat] at h1
    injection h1 with h1
    have h2 := congrArg List.dropLast e
    rw [List.dropLast_concat, List.dropLast_concat] at h2
    exact ⟨B, by rw [h1], h2⟩
theorem QueueInv.push {R D F : List Int} (h : QueueInv R D F) (y : Int) (hy : y ∉ R) : QueueInv (R ++ [y]) (D ++ [y]) (F ++ [y]) := by
  refine ⟨fun p hp => ?_, fun p hp => ?_, fun A B p e hp x hx => ?_⟩
  · rw [List.mem_append, List.mem_singleton] at hp ⊢
    exact hp.imp (h.fd p) id
  · rw [List.mem_append, List.mem_singleton] at hp ⊢
    exact hp.imp (h.fr p) id
  · rcases snoc_split e with ⟨rfl, _, _⟩ | ⟨B', rfl, e'⟩
    · cases hx
    · rw [List.mem_append, List.mem_singleton] at hx
      rcases hx with hx | hx
      · rw [List.mem_append, List.mem_singleton] at hp
        rcases hp with hp | hp
        · simp [h.key A B' p e' hp x hx]
        · subst hp
          exact absurd (by rw [e']; simp) hy
      · simp [hx]
theorem QueueInv.pop {R D F : List Int} {z : Int} (h : QueueInv (z :: R) D F) (hz : z ∉ F) : QueueInv R D F := by
  refine ⟨h.fd, fun p hp => ?_, fun A B p e hp x hx => h.key (z :: A) B p (by rw [e]; rfl) hp x hx⟩
  rcases List.mem_cons.1 (h.fr p hp) with a | a
  · subst a; exact absurd hp hz
  · exact a
/-- Who was not there since stays, as long as few are asked for. -/
theorem QueueInv.first {R D F : List Int} {z y : Int} {s : Nat} (h : QueueInv (z :: R) D F) (hn : (z :: R).Nodup) (hl : (z :: R).length = s) (hy : y ∉ z :: R) (hs : someN (D ++ [y]) ≤ s) : z ∉ F := by
  intro hz
  have h1 := h.key [] R z rfl hz
  have h2 := nodup_len_some (a := (z :: R) ++ [y]) (b := D ++ [y]) (by
    rw [List.nodup_append]
    exact ⟨hn, by simp, fun u hu v hv => by rw [List.mem_singleton] at hv; subst hv; exact fun e => hy (e ▸ hu)⟩) (fun x hx => by
    rw [List.mem_append, List.mem_singleton] at hx ⊢
    rcases hx with hx | hx
    · left
      rcases List.mem_cons.1 hx with a | a
      · subst a; exact h.fd _ hz
      · exact h1 x a
    · exact .inr hx)
  rw [List.length_append, List.length_singleton] at h2
  omega

theorem fifo_inv1' (s : Nat) (hs : 1 ≤ s) (l : List Int) : (fifoRun s l).2.Nodup ∧ (fifoRun s l).2.length ≤ s := by
  induction l using list_snoc_ind with
  | h0 => exact ⟨by simp [fifoRun], by simp [fifoRun]⟩
  | h1 l y ih =>
    obtain ⟨i1, i2⟩ := ih
    rw [fifoRun_snoc, fifoStep]
    by_cases hm : y ∈ (fifoRun s l).2
    · rw [if_pos hm]; exact ⟨i1, i2⟩
    · rw [if_neg hm]
      by_cases hr : (fifoRun s l).2.length = s
      · rw [if_pos hr]
        refine ⟨?_, by simp; omega⟩
        rw [List.nodup_append]
        exact ⟨List.Nodup.sublist (List.drop_sublist 1 _) i1, by simp, fun u hu v hv => by rw [List.mem_singleton] at hv; subst hv; exact fun e => hm (e ▸ List.mem_of_mem_drop hu)⟩
      · rw [if_neg hr]
        refine ⟨?_, by simp; omega⟩
        rw [List.nodup_append]
        exact ⟨i1, by simp, fun u hu v hv => by rw [List.mem_singleton] at hv; subst hv; exact fun e => hm (e ▸ hu)⟩
theorem fifo_hits_len' (s : Nat) (l : List Int) : (fifoRun s l).1.length = l.length := by
  induction l using list_snoc_ind with
  | h0 => rfl
  | h1 l y ih => rw [fifoRun_snoc, fifoStep]; split <;> simp [ih]
theorem fifo_hit_at (s : Nat) (l : List Int) : ∀ k y, l[k]? = some y → (fifoRun s l).1[k]? = some (hasB (fifoRun s (l.take k)).2 y) := by
  induction l using list_snoc_ind with
  | h0 => intro k y hk; simp at hk
  | h1 l z ih =>
    intro k y hk
    have e : (fifoRun s (l ++ [z])).1 = (fifoRun s l).1 ++ [hasB (fifoRun s l).2 z] := by
      rw [fifoRun_snoc, fifoStep]
      by_cases h : z ∈ (fifoRun s l).2
      · rw [if_pos h, (hasB_iff _ _).2 h]
      · rw [if_neg h, (hasB_false _ _).2 h]
    rw [e]
    by_cases hl : k < l.length
    · rw [List.getElem?_append_left hl] at hk
      rw [List.getElem?_append_left (by rw [fifo_hits_len']; exact hl), List.take_append_of_le_length (by omega)]
      exact ih k y hk
    · have hk2 : k = l.length := by have := (List.getElem?_eq_some_iff.1 hk).1; simp at this; omega
      subst hk2
      simp at hk
      subst hk
      rw [List.getElem?_append_right (by rw [fifo_hits_len']; omega), fifo_hits_len']
      simp
theorem seg_self (l : List Int) (f : Nat) : (l.take f).drop f = [] := by rw [List.drop_eq_nil_of_le]; simp; omega
theorem seg_mono {s : Nat} {l : List Int} {f k : Nat} {y : Int} (hf : f ≤ k) (hy : l[k]? = some y) (h : someN ((l.take (k + 1)).drop f) ≤ s) : someN ((l.take k).drop f) ≤ s := by
  rw [seg_succ hf hy] at h; exact Nat.le_trans (someN_mono _ y) h
theorem fifo_queue (s : Nat) (hs : 1 ≤ s) (l : List Int) (f : Nat) : ∀ d, f + d ≤ l.length → someN ((l.take (f + d)).drop f) ≤ s →
    QueueInv (fifoRun s (l.take (f + d))).2 ((l.take (f + d)).drop f) (missP (fifoRun s l).1 l f (f + d)) ∧ (missP (fifoRun s l).1 l f (f + d)).Nodup := by
  intro d
  induction d with
  | zero => intro _ _; rw [Nat.add_zero, seg_self, missP_self]; exact ⟨⟨by simp, by simp, by simp⟩, by simp⟩
  | succ d ih =>
    intro hd hse
    have hy := List.getElem?_eq_getElem (show f + d < l.length by omega)
    obtain ⟨h1, h2⟩ := ih (by omega) (seg_mono (by omega) hy hse)
    have hb := fifo_hit_at s l (f + d) _ hy
    obtain ⟨i1, i2⟩ := fifo_inv1' s hs (l.take (f + d))
    rw [← Nat.add_assoc, seg_succ (by omega) hy] at hse ⊢
    rw [missP_succ _ _ _ _ _ (by omega) hy, hb, take_succ_of hy, fifoRun_snoc, fifoStep]
    by_cases hm : l[f + d] ∈ (fifoRun s (l.take (f + d))).2
    · rw [if_pos hm, (hasB_iff _ _).2 hm, if_neg (by simp), List.append_nil]
      exact ⟨h1.hit _, h2⟩
    · rw [if_neg hm, (hasB_false _ _).2 hm, if_pos rfl]
      refine ⟨?_, ?_⟩
      · by_cases hr : (fifoRun s (l.take (f + d))).2.length = s
        · rw [if_pos hr]
          cases hq : (fifoRun s (l.take (f + d))).2 with
          | nil => rw [hq] at hr; simp at hr; omega
          | cons z R =>
            rw [hq] at h1 i1 hr hm
            have hz := h1.first i1 hr hm hse
            have h3 := (h1.pop hz).push l[f + d] (fun h => hm (by simp [h]))
            simpa using h3
        · rw [if_neg hr]; exact h1.push _ hm
      · rw [List.nodup_append]
        exact ⟨h2, by simp, fun u hu v hv => by rw [List.mem_singleton] at hv; subst hv; exact fun e => hm (e ▸ h1.fr u hu)⟩
/-- Who goes by what came first. -/
theorem fifo_conserves (s : Nat) (hs : 1 ≤ s) (l : List Int) : Conserves s l (fifoRun s l).1 :=
  conserve_of (fifo_hits_len' s l) (missP (fifoRun s l).1 l) (missP_self _ _) (fun f k y hf hy _ => missP_succ _ _ f k y hf hy) (fun f k hf hk hse => by
    have h := fifo_queue s hs l f (k - f) (by omega) (by rw [show f + (k - f) = k by omega]; exact hse)
    rw [show f + (k - f) = k by omega] at h
    exact ⟨h.2, h.1.fd⟩)
end Go.Proofs.Ytgljpdfmejganaa
