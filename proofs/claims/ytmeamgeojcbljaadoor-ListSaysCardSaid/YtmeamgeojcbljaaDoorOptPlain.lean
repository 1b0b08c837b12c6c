/- Plain laws of the best way to let go: whoever lets go of what is asked for latest misses no more than anybody; no program in sight. -/
import Derived.Test.YtmeamgeojcbljaaDoorLists
namespace Go.Proofs.YtmeamgeojcbljaaDoor

/-- Pages are asked for of a store of s slots that has H; whatever is let go of, a page was not there n times. -/
def Sched (s : Nat) : List Int → List Int → Nat → Prop
  | _, [], n => n = 0
  | H, p :: l, n => ∃ H2 n2, H2.Nodup ∧ H2.length ≤ s ∧ p ∈ H2 ∧ (∀ x ∈ H2, x = p ∨ x ∈ H) ∧ Sched s H2 l n2 ∧ n = (if p ∈ H then 0 else 1) + n2

theorem sched_more {s t : Nat} (hst : s ≤ t) : ∀ (l H : List Int) (n : Nat), Sched s H l n → Sched t H l n := by
  intro l
  induction l with
  | nil => intro H n h; exact h
  | cons p l ih =>
    rintro H n ⟨H2, n2, h1, h2, h3, h4, h5, h6⟩
    exact ⟨H2, n2, h1, by omega, h3, h4, ih _ _ h5, h6⟩
theorem sched_sub {s : Nat} (l G H : List Int) (n : Nat) (hGH : ∀ x ∈ G, x ∈ H) (h : Sched s G l n) : ∃ m, m ≤ n ∧ Sched s H l m := by
  cases l with
  | nil => exact ⟨0, by omega, rfl⟩
  | cons p l =>
    obtain ⟨H2, n2, h1, h2, h3, h4, h5, h6⟩ := h
    refine ⟨(if p ∈ H then 0 else 1) + n2, ?_, H2, n2, h1, h2, h3, fun x hx => (h4 x hx).imp id (hGH x), h5, rfl⟩
    subst h6
    by_cases hp : p ∈ G
    · rw [if_pos hp, if_pos (hGH p hp)]; omega
    · rw [if_neg hp]; split <;> omega
theorem sched_begin {s : Nat} : ∀ (a b H : List Int) (n : Nat), Sched s H (a ++ b) n → ∃ m, m ≤ n ∧ Sched s H a m := by
  intro a
  induction a with
  | nil => intro b H n _; exact ⟨0, by omega, rfl⟩
  | cons p a ih =>
    rintro b H n ⟨H2, n2, h1, h2, h3, h4, h5, rfl⟩
    obtain ⟨m, hm, hs⟩ := ih b H2 n2 h5
    exact ⟨_, by omega, H2, m, h1, h2, h3, h4, hs, rfl⟩
theorem sched_append {s : Nat} : ∀ (a b H : List Int) (n m : Nat), Sched s H a n → Sched s [] b m → ∃ k, k ≤ n + m ∧ Sched s H (a ++ b) k := by
  intro a
  induction a with
  | nil =>
    intro b H n m h1 h2
    obtain ⟨k, hk, hs⟩ := sched_sub b [] H m (by simp) h2
    exact ⟨k, by omega, hs⟩
  | cons p a ih =>
    rintro b H n m ⟨H2, n2, h1, h2, h3, h4, h5, rfl⟩ hb
    obtain ⟨k, hk, hs⟩ := ih b H2 n2 m h5 hb
    exact ⟨_, by omega, H2, k, h1, h2, h3, h4, hs, rfl⟩

theorem nodup_leO : ∀ {a b : List Int}, a.Nodup → (∀ x ∈ a, x ∈ b) → a.length ≤ b.length := by
  intro a
  induction a with
  | nil => intro b _ _; simp
  | cons x a ih =>
    intro b hn h
    rw [List.nodup_cons] at hn
    have hx := h x (by simp)
    have h1 := ih (b := b.erase x) hn.2 (fun z hz => by
      have hzx : z ≠ x := fun e => hn.1 (e ▸ hz)
      exact (List.mem_erase_of_ne hzx).2 (h z (by simp [hz])))
    have h2 := List.length_erase_of_mem hx
    have h3 := List.length_pos_of_mem hx
    rw [List.length_cons]; omega

/-- How many of some pages are asked for among some requests. -/
def cnt (H l : List Int) : Nat := (H.filter fun x => decide (x ∈ l)).length
theorem cnt_le (H l : List Int) : cnt H l ≤ H.length := List.length_filter_le _ _
theorem cnt_mono {G H l m : List Int} (hG : G.Nodup) (h : ∀ x ∈ G, x ∈ l → x ∈ H ∧ x ∈ m) : cnt G l ≤ cnt H m := by
  unfold cnt
  refine nodup_leO (hG.filter _) fun x hx => ?_
  rw [List.mem_filter, decide_eq_true_iff] at hx ⊢
  exact h x hx.1 hx.2
theorem cnt_perm {G H : List Int} (h : G.Perm H) (l : List Int) : cnt G l = cnt H l := (h.filter _).length_eq
theorem cnt_cons (x : Int) (H l : List Int) : cnt (x :: H) l = (if x ∈ l then 1 else 0) + cnt H l := by
  unfold cnt
  by_cases h : x ∈ l
  · rw [List.filter_cons_of_pos (by simpa using h), if_pos h, List.length_cons]; omega
  · rw [List.filter_cons_of_neg (by simpa using h), if_neg h]; omega
theorem cnt_erase {H : List Int} {p : Int} (hp : p ∈ H) (l : List Int) : cnt H l = (if p ∈ l then 1 else 0) + cnt (H.erase p) l := by
  rw [cnt_perm (List.perm_cons_erase hp), cnt_cons]
/-- Of pages that are not the first one asked for, it does not matter that it was. -/
theorem cnt_skip {H l : List Int} {p : Int} (hp : p ∉ H) : cnt H (p :: l) = cnt H l := by
  unfold cnt
  congr 1
  refine List.filter_congr fun x hx => ?_
  have hne : x ≠ p := fun e => hp (e ▸ hx)
  simp [hne]

/-- The best way, of what is asked for from now on: who is let go of is told by a choice. -/
def minF (s : Nat) (pick : List Int → List Int → Int) : List Int → List Int → Nat
  | _, [] => 0
  | H, p :: l => if p ∈ H then minF s pick H l else 1 + minF s pick ((if H.length = s then H.erase (pick H (p :: l)) else H) ++ [p]) l

/-- The choice is of what is asked for latest. -/
def Latest (pick : List Int → List Int → Int) : Prop := ∀ H l, H ≠ [] → H.Nodup → pick H l ∈ H ∧ ∀ x ∈ H, l.idxOf x ≤ l.idxOf (pick H l)

theorem mem_take_idx {l : List Int} {x : Int} {t : Nat} (ht : t ≤ l.length) : x ∈ l.take t ↔ l.idxOf x < t := by
  induction l generalizing t with
  | nil => simp at ht; subst ht; simp
  | cons y l ih =>
    cases t with
    | zero => simp
    | succ t =>
      simp only [List.length_cons] at ht
      rw [List.take_succ_cons, List.mem_cons, ih (by omega), List.idxOf_cons]
      by_cases h : x = y
      · subst h; simp
      · have h' : (y == x) = false := by simp; exact fun e => h e.symm
        simp only [h', h, false_or, cond_false]; omega

theorem min_le {s : Nat} {pick : List Int → List Int → Int} (hs : 1 ≤ s) (hpick : Latest pick) : ∀ (l H G : List Int) (d n u : Nat), H.Nodup → H.length ≤ s → G.Nodup → G.length ≤ u → u ≤ s →
    (∀ t, t ≤ l.length → cnt G (l.take t) ≤ cnt H (l.take t) + d) → Sched u G l n → minF s pick H l ≤ n + d := by
  intro l
  induction l with
  | nil => intro H G d n u _ _ _ _ _ _ _; simp [minF]
  | cons p l ih =>
    rintro H G d n u hH hHs hG hGs hu hdom ⟨G2, n2, g1, g2, g3, g4, g5, rfl⟩
    rw [minF]
    -- what the others have, behind it
    have hG2 : ∀ t, cnt G2 (l.take t) ≤ (if p ∈ l.take t then 1 else 0) + cnt (G.erase p) (l.take t) := by
      intro t
      rw [cnt_erase g3]
      refine Nat.add_le_add_left (cnt_mono (g1.erase p) fun x hx hxl => ⟨?_, hxl⟩) _
      rw [List.Nodup.mem_erase_iff g1] at hx
      rcases g4 x hx.2 with e | e
      · exact absurd e hx.1
      · exact (List.mem_erase_of_ne hx.1).2 e
    have hdomG : ∀ t, t ≤ l.length → (if p ∈ G then 1 else 0) + cnt (G.erase p) (l.take t) = cnt G (p :: l.take t) := by
      intro t _
      by_cases hp : p ∈ G
      · rw [if_pos hp, cnt_erase hp, if_pos (by simp), cnt_skip (fun hh => ((List.Nodup.mem_erase_iff hG).1 hh).1 rfl)]
      · rw [if_neg hp, List.erase_of_not_mem hp, cnt_skip hp]; omega
    have hd' : ∀ t, t ≤ l.length → cnt G (p :: l.take t) ≤ cnt H (p :: l.take t) + d := fun t ht => by
      have := hdom (t + 1) (by simp; omega)
      rwa [List.take_succ_cons] at this
    by_cases hpH : p ∈ H
    · rw [if_pos hpH]
      have hHt : ∀ t, cnt H (p :: l.take t) = 1 + cnt (H.erase p) (l.take t) := fun t => by
        rw [cnt_erase hpH, if_pos (by simp), cnt_skip (fun hh => ((List.Nodup.mem_erase_iff hH).1 hh).1 rfl)]
      by_cases hpG : p ∈ G
      · rw [if_pos hpG]
        have := ih H G2 d n2 u hH hHs g1 g2 hu (fun t ht => by
          have a1 := hG2 t; have a2 := hdomG t ht; have a3 := hd' t ht; have a4 := hHt t
          rw [if_pos hpG] at a2
          rw [cnt_erase hpH (l.take t)]; omega) g5
        omega
      · rw [if_neg hpG]
        have := ih H G2 (d + 1) n2 u hH hHs g1 g2 hu (fun t ht => by
          have a1 := hG2 t; have a2 := hdomG t ht; have a3 := hd' t ht; have a4 := hHt t
          rw [if_neg hpG] at a2
          rw [cnt_erase hpH (l.take t)]; omega) g5
        omega
    · rw [if_neg hpH]
      -- what the best way has, behind it
      obtain ⟨H', e', hN, hL, hsub, hcnt⟩ : ∃ H', (if H.length = s then H.erase (pick H (p :: l)) else H) = H' ∧ H'.Nodup ∧ H'.length + 1 ≤ s ∧ (∀ x ∈ H', x ∈ H) ∧
          ∀ t, t ≤ l.length → cnt H (l.take t) ≤ cnt H' (l.take t) ∨ cnt H' (l.take t) + 1 = s := by
        by_cases hf : H.length = s
        · rw [if_pos hf]
          have hne : H ≠ [] := fun e => by rw [e] at hf; simp at hf; omega
          obtain ⟨hm, hmax⟩ := hpick H (p :: l) hne hH
          refine ⟨_, rfl, hH.erase _, by rw [List.length_erase_of_mem hm]; omega, fun x hx => List.mem_of_mem_erase hx, fun t ht => ?_⟩
          generalize pick H (p :: l) = z at *
          have hzp : z ≠ p := fun e => hpH (e ▸ hm)
          have e1 := cnt_erase hm (l.take t)
          by_cases hz : z ∈ l.take t
          · right
            have hall : ∀ x ∈ H, x ∈ l.take t := fun x hx => by
              have h1 := hmax x hx
              have h2 : z ∈ (p :: l).take (t + 1) := by rw [List.take_succ_cons]; exact List.mem_cons_of_mem _ hz
              rw [mem_take_idx (by simp; omega)] at h2
              have h3 : x ∈ (p :: l).take (t + 1) := (mem_take_idx (by simp; omega)).2 (by omega)
              rw [List.take_succ_cons] at h3
              rcases List.mem_cons.1 h3 with e | e
              · exact absurd (e ▸ hx) hpH
              · exact e
            have : cnt H (l.take t) = H.length := by
              unfold cnt
              rw [List.filter_eq_self.2 fun x hx => by simpa using hall x hx]
            rw [if_pos hz] at e1
            omega
          · left
            rw [if_neg hz] at e1; omega
        · rw [if_neg hf]
          exact ⟨H, rfl, hH, by omega, fun x hx => hx, fun t _ => .inl (Nat.le_refl _)⟩
      rw [e']
      have hpH' : p ∉ H' := fun h => hpH (hsub p h)
      have hN2 : (H' ++ [p]).Nodup := by
        rw [List.nodup_append]
        exact ⟨hN, by simp, fun a ha b hb => by rw [List.mem_singleton] at hb; subst hb; exact fun e => hpH' (e ▸ ha)⟩
      have hc2 : ∀ t, cnt (H' ++ [p]) (l.take t) = (if p ∈ l.take t then 1 else 0) + cnt H' (l.take t) := fun t => by
        rw [cnt_perm List.perm_append_comm]; exact cnt_cons _ _ _
      have hGr : ∀ t, cnt (G.erase p) (l.take t) + 1 ≤ s ∨ p ∉ G ∧ cnt G2 (l.take t) ≤ (if p ∈ l.take t then 1 else 0) + (s - 1) := by
        intro t
        by_cases hpG : p ∈ G
        · left
          have := cnt_le (G.erase p) (l.take t)
          rw [List.length_erase_of_mem hpG] at this
          have := List.length_pos_of_mem hpG
          omega
        · right
          refine ⟨hpG, ?_⟩
          rw [cnt_erase g3]
          have := cnt_le (G2.erase p) (l.take t)
          rw [List.length_erase_of_mem g3] at this
          omega
      by_cases hpG : p ∈ G
      · rw [if_pos hpG]
        have hd1 : 1 ≤ d := by
          have := hd' 0 (by omega)
          have a2 := hdomG 0 (by omega)
          rw [if_pos hpG] at a2
          have a3 : cnt H (p :: l.take 0) = cnt H (l.take 0) := cnt_skip hpH
          have a4 : cnt H (l.take 0) = 0 := by simp [cnt]
          omega
        have := ih (H' ++ [p]) G2 (d - 1) n2 u hN2 (by simp; omega) g1 g2 hu (fun t ht => by
          have a1 := hG2 t; have a2 := hdomG t ht; have a3 := hd' t ht
          have a4 : cnt H (p :: l.take t) = cnt H (l.take t) := cnt_skip hpH
          rw [if_pos hpG] at a2
          rw [hc2]
          rcases hcnt t ht with h | h
          · omega
          · rcases hGr t with g | g
            · omega
            · exact absurd hpG g.1) g5
        omega
      · rw [if_neg hpG]
        have := ih (H' ++ [p]) G2 d n2 u hN2 (by simp; omega) g1 g2 hu (fun t ht => by
          have a1 := hG2 t; have a2 := hdomG t ht; have a3 := hd' t ht
          have a4 : cnt H (p :: l.take t) = cnt H (l.take t) := cnt_skip hpH
          rw [if_neg hpG] at a2
          rw [hc2]
          rcases hcnt t ht with h | h
          · omega
          · rcases hGr t with g | g
            · omega
            · have := g.2; omega) g5
        omega

/-- The best way is a way. -/
theorem min_sched {s : Nat} {pick : List Int → List Int → Int} (hs : 1 ≤ s) (hpick : Latest pick) : ∀ (l H : List Int), H.Nodup → H.length ≤ s → Sched s H l (minF s pick H l) := by
  intro l
  induction l with
  | nil => intro H _ _; rfl
  | cons p l ih =>
    intro H hH hHs
    rw [minF]
    by_cases hp : p ∈ H
    · rw [if_pos hp]
      exact ⟨H, _, hH, hHs, hp, fun x hx => .inr hx, ih H hH hHs, by rw [if_pos hp]; omega⟩
    · rw [if_neg hp]
      obtain ⟨H', e', hN, hL, hsub⟩ : ∃ H', (if H.length = s then H.erase (pick H (p :: l)) else H) = H' ∧ H'.Nodup ∧ H'.length + 1 ≤ s ∧ (∀ x ∈ H', x ∈ H) := by
        by_cases hf : H.length = s
        · rw [if_pos hf]
          have hne : H ≠ [] := fun e => by rw [e] at hf; simp at hf; omega
          obtain ⟨hm, _⟩ := hpick H (p :: l) hne hH
          exact ⟨_, rfl, hH.erase _, by rw [List.length_erase_of_mem hm]; omega, fun x hx => List.mem_of_mem_erase hx⟩
        · rw [if_neg hf]
          exact ⟨H, rfl, hH, by omega, fun x hx => hx⟩
      rw [e']
      have hN2 : (H' ++ [p]).Nodup := by
        rw [List.nodup_append]
        exact ⟨hN, by simp, fun a ha b hb => by rw [List.mem_singleton] at hb; subst hb; exact fun e => hp (hsub _ (e ▸ ha))⟩
      refine ⟨H' ++ [p], _, hN2, by simp; omega, by simp, fun x hx => ?_, ih _ hN2 (by simp; omega), by rw [if_neg hp]⟩
      rw [List.mem_append, List.mem_singleton] at hx
      exact hx.elim (fun h => .inr (hsub x h)) .inl

/-- Nobody does better. -/
theorem min_best {s u : Nat} {pick : List Int → List Int → Int} (hs : 1 ≤ s) (hpick : Latest pick) (hu : u ≤ s) {l : List Int} {n : Nat} (h : Sched u [] l n) : minF s pick [] l ≤ n :=
  min_le hs hpick l [] [] 0 n u (by simp) (by simp) (by simp) (by simp) hu (fun t _ => by simp [cnt]) h

/-! ### From the end. -/
/-- As Sched, from the end of the list on, with what is there at the end. -/
def Rev (s : Nat) : List Int → Nat → List Int → Prop
  | [], n, G => n = 0 ∧ G = []
  | p :: l, n, G => ∃ G2 n2, Rev s l n2 G2 ∧ G.Nodup ∧ G.length ≤ s ∧ p ∈ G ∧ (∀ x ∈ G, x = p ∨ x ∈ G2) ∧ n = (if p ∈ G2 then 0 else 1) + n2
theorem sched_snoc {s : Nat} {p : Int} {G2 G : List Int} (a1 : G.Nodup) (a2 : G.length ≤ s) (a3 : p ∈ G) (a4 : ∀ x ∈ G, x = p ∨ x ∈ G2) : Sched s G2 [p] (if p ∈ G2 then 0 else 1) :=
  ⟨G, 0, a1, a2, a3, a4, rfl, by omega⟩
/-- A way of serving that ends with what is there. -/
def SchedTo (s : Nat) : List Int → List Int → Nat → List Int → Prop
  | H, [], n, G => n = 0 ∧ G = H
  | H, p :: l, n, G => ∃ H2 n2, H2.Nodup ∧ H2.length ≤ s ∧ p ∈ H2 ∧ (∀ x ∈ H2, x = p ∨ x ∈ H) ∧ SchedTo s H2 l n2 G ∧ n = (if p ∈ H then 0 else 1) + n2
theorem schedTo_sched {s : Nat} : ∀ (l H : List Int) (n : Nat) (G : List Int), SchedTo s H l n G → Sched s H l n := by
  intro l
  induction l with
  | nil => rintro H n G ⟨h, _⟩; exact h
  | cons p l ih =>
    rintro H n G ⟨H2, n2, h1, h2, h3, h4, h5, h6⟩
    exact ⟨H2, n2, h1, h2, h3, h4, ih _ _ _ h5, h6⟩
theorem schedTo_snoc {s : Nat} {p : Int} {G2 G : List Int} (a1 : G.Nodup) (a2 : G.length ≤ s) (a3 : p ∈ G) (a4 : ∀ x ∈ G, x = p ∨ x ∈ G2) :
    ∀ (l H : List Int) (n : Nat), SchedTo s H l n G2 → SchedTo s H (l ++ [p]) (n + if p ∈ G2 then 0 else 1) G := by
  intro l
  induction l with
  | nil =>
    rintro H n ⟨rfl, rfl⟩
    exact ⟨G, 0, a1, a2, a3, a4, ⟨rfl, rfl⟩, by omega⟩
  | cons q l ih =>
    rintro H n ⟨H2, n2, h1, h2, h3, h4, h5, rfl⟩
    exact ⟨H2, _, h1, h2, h3, h4, ih _ _ h5, by omega⟩
theorem rev_to {s : Nat} : ∀ (l : List Int) (n : Nat) (G : List Int), Rev s l n G → SchedTo s [] l.reverse n G := by
  intro l
  induction l with
  | nil => rintro n G ⟨rfl, rfl⟩; exact ⟨rfl, rfl⟩
  | cons p l ih =>
    rintro n G ⟨G2, n2, h1, a1, a2, a3, a4, rfl⟩
    rw [List.reverse_cons]
    have := schedTo_snoc a1 a2 a3 a4 _ _ _ (ih _ _ h1)
    rwa [Nat.add_comm] at this
theorem sched_rev {s : Nat} : ∀ (l H : List Int) (n : Nat), Sched s H l n → ∃ (U G : List Int) (c : Nat), U.Nodup ∧ (∀ x ∈ U, x ∈ H) ∧ (∀ x ∈ U, x ∈ G) ∧ Rev s l c G ∧ c ≤ n + U.length := by
  intro l
  induction l with
  | nil => rintro H n rfl; exact ⟨[], [], 0, by simp, by simp, by simp, ⟨rfl, rfl⟩, by simp⟩
  | cons p l ih =>
    rintro H n ⟨H2, n2, h1, h2, h3, h4, h5, rfl⟩
    obtain ⟨U2, G2, c2, u1, u2, u3, r, hc⟩ := ih H2 n2 h5
    by_cases hU : p ∈ U2
    · have hU2s : U2.length ≤ s := Nat.le_trans (nodup_leO u1 u2) h2
      have hr : Rev s (p :: l) c2 U2 := ⟨G2, c2, r, u1, hU2s, hU, fun x hx => .inr (u3 x hx), by rw [if_pos (u3 p hU)]; omega⟩
      by_cases hp : p ∈ H
      · refine ⟨U2, U2, c2, u1, fun x hx => ?_, fun x hx => hx, hr, by rw [if_pos hp]; omega⟩
        rcases h4 x (u2 x hx) with e | e
        · rw [e]; exact hp
        · exact e
      · refine ⟨U2.erase p, U2, c2, u1.erase p, fun x hx => ?_, fun x hx => List.mem_of_mem_erase hx, hr, ?_⟩
        · rw [List.Nodup.mem_erase_iff u1] at hx
          rcases h4 x (u2 x hx.2) with e | e
          · exact absurd e hx.1
          · exact e
        · rw [if_neg hp, List.length_erase_of_mem hU]
          have := List.length_pos_of_mem hU
          omega
    · have hN : (p :: U2).Nodup := List.nodup_cons.2 ⟨hU, u1⟩
      have hsub : ∀ x ∈ p :: U2, x ∈ H2 := fun x hx => by
        rcases List.mem_cons.1 hx with e | e
        · rw [e]; exact h3
        · exact u2 x e
      have hL : (p :: U2).length ≤ s := Nat.le_trans (nodup_leO hN hsub) h2
      have hr : Rev s (p :: l) ((if p ∈ G2 then 0 else 1) + c2) (p :: U2) := ⟨G2, c2, r, hN, hL, by simp, fun x hx => by
        rcases List.mem_cons.1 hx with e | e
        · exact .inl e
        · exact .inr (u3 x e), rfl⟩
      have hle : (if p ∈ G2 then 0 else 1) ≤ 1 := by split <;> omega
      by_cases hp : p ∈ H
      · refine ⟨p :: U2, p :: U2, _, hN, fun x hx => ?_, fun x hx => hx, hr, by rw [if_pos hp, List.length_cons]; omega⟩
        rcases List.mem_cons.1 hx with e | e
        · rw [e]; exact hp
        · rcases h4 x (u2 x e) with e' | e'
          · rw [e']; exact hp
          · exact e'
      · refine ⟨U2, p :: U2, _, u1, fun x hx => ?_, fun x hx => by simp [hx], hr, by rw [if_neg hp]; omega⟩
        rcases h4 x (u2 x hx) with e | e
        · exact absurd (e ▸ hx) hU
        · exact e
/-- From the end it costs no more. -/
theorem sched_turned {s : Nat} {l : List Int} {n : Nat} (h : Sched s [] l n) : ∃ m, m ≤ n ∧ Sched s [] l.reverse m := by
  obtain ⟨U, G, c, _, u2, _, r, hc⟩ := sched_rev l [] n h
  have hU : U = [] := List.eq_nil_iff_forall_not_mem.2 fun x hx => by simpa using u2 x hx
  subst hU
  exact ⟨c, by simpa using hc, schedTo_sched _ _ _ _ (rev_to _ _ _ r)⟩
theorem min_turned {s : Nat} {pick : List Int → List Int → Int} (hs : 1 ≤ s) (hpick : Latest pick) (l : List Int) : minF s pick [] l = minF s pick [] l.reverse := by
  have key : ∀ l : List Int, minF s pick [] l.reverse ≤ minF s pick [] l := fun l => by
    obtain ⟨m, hm, h⟩ := sched_turned (min_sched hs hpick l [] (by simp) (by simp))
    have := min_best hs hpick (Nat.le_refl s) h
    omega
  have h1 := key l
  have h2 := key l.reverse
  rw [List.reverse_reverse] at h2
  omega

/-! ### What anybody misses, at least. -/
/-- Each page that is asked for, and is not there at first, is not there once at least. -/
theorem sched_some {s : Nat} : ∀ (l H : List Int) (n : Nat), Sched s H l n → ∀ D : List Int, D.Nodup → (∀ x ∈ D, x ∈ l ∧ x ∉ H) → D.length ≤ n := by
  intro l
  induction l with
  | nil =>
    intro H n _ D _ h
    have : D = [] := List.eq_nil_iff_forall_not_mem.2 fun x hx => by simpa using (h x hx).1
    subst this; simp
  | cons p l ih =>
    rintro H n ⟨H2, n2, h1, h2, h3, h4, h5, rfl⟩ D hD h
    have h6 := ih H2 n2 h5 (D.erase p) (hD.erase p) (fun x hx => by
      rw [List.Nodup.mem_erase_iff hD] at hx
      obtain ⟨a, b⟩ := h x hx.2
      refine ⟨?_, fun hh => ?_⟩
      · rcases List.mem_cons.1 a with e | e
        · exact absurd e hx.1
        · exact e
      · rcases h4 x hh with e | e
        · exact hx.1 e
        · exact b e)
    by_cases hp : p ∈ D
    · rw [if_neg (h p hp).2]
      rw [List.length_erase_of_mem hp] at h6
      have := List.length_pos_of_mem hp
      omega
    · rw [List.erase_of_not_mem hp] at h6; omega
end Go.Proofs.YtmeamgeojcbljaaDoor
