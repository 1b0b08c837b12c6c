/- Plain laws: each way of letting go is a way of serving; so the best way is no worse; no program in sight. -/
import Derived.Test.YtgljpdfmejganaaFewPlain
import Derived.Test.YtgljpdfmejganaaFlushLruPlain
import Derived.Test.YtgljpdfmejganaaOptRun
namespace Go.Proofs.Ytgljpdfmejganaa

/-- As Sched, with what is told of each request. -/
def SchedB (s : Nat) : List Int → List Int → List Bool → Prop
  | _, [], b => b = []
  | H, p :: l, b => ∃ H2 b2, H2.Nodup ∧ H2.length ≤ s ∧ p ∈ H2 ∧ (∀ x ∈ H2, x = p ∨ x ∈ H) ∧ SchedB s H2 l b2 ∧ b = hasB H p :: b2
theorem schedB_sched {s : Nat} : ∀ (l H : List Int) (b : List Bool), SchedB s H l b → Sched s H l (missN b) := by
  intro l
  induction l with
  | nil => rintro H b rfl; rfl
  | cons p l ih =>
    rintro H b ⟨H2, b2, h1, h2, h3, h4, h5, rfl⟩
    refine ⟨H2, missN b2, h1, h2, h3, h4, ih _ _ h5, ?_⟩
    by_cases hp : p ∈ H
    · rw [if_pos hp, (hasB_iff _ _).2 hp]; simp [missN]
    · rw [if_neg hp, (hasB_false _ _).2 hp]; simp [missN]; omega
theorem one_eq {H : List Int} {p : Int} (h1 : H.Nodup) (h2 : H.length ≤ 1) (h3 : p ∈ H) : H = [p] := by
  match H, h2, h3 with
  | [x], _, h3 => rw [List.mem_singleton.1 h3]
  | x :: y :: t, h2, _ => simp at h2
theorem schedB_one : ∀ (l H : List Int) (a b : List Bool), SchedB 1 H l a → SchedB 1 H l b → a = b := by
  intro l
  induction l with
  | nil => rintro H a b rfl rfl; rfl
  | cons p l ih =>
    rintro H a b ⟨H2, b2, h1, h2, h3, h4, h5, rfl⟩ ⟨K2, c2, k1, k2, k3, k4, k5, rfl⟩
    rw [one_eq h1 h2 h3] at h5
    rw [one_eq k1 k2 k3] at k5
    rw [ih _ _ _ h5 k5]
/-- With what is there at the end. -/
def SchedE (s : Nat) : List Int → List Int → List Bool → List Int → Prop
  | H, [], b, G => b = [] ∧ G = H
  | H, p :: l, b, G => ∃ H2 b2, H2.Nodup ∧ H2.length ≤ s ∧ p ∈ H2 ∧ (∀ x ∈ H2, x = p ∨ x ∈ H) ∧ SchedE s H2 l b2 G ∧ b = hasB H p :: b2
theorem schedE_B {s : Nat} : ∀ (l H : List Int) (b : List Bool) (G : List Int), SchedE s H l b G → SchedB s H l b := by
  intro l
  induction l with
  | nil => rintro H b G ⟨h, _⟩; exact h
  | cons p l ih =>
    rintro H b G ⟨H2, b2, h1, h2, h3, h4, h5, h6⟩
    exact ⟨H2, b2, h1, h2, h3, h4, ih _ _ _ h5, h6⟩
theorem schedE_snoc {s : Nat} {p : Int} {G2 G : List Int} (a1 : G.Nodup) (a2 : G.length ≤ s) (a3 : p ∈ G) (a4 : ∀ x ∈ G, x = p ∨ x ∈ G2) :
    ∀ (l H : List Int) (b : List Bool), SchedE s H l b G2 → SchedE s H (l ++ [p]) (b ++ [hasB G2 p]) G := by
  intro l
  induction l with
  | nil =>
    rintro H b ⟨rfl, rfl⟩
    exact ⟨G, [], a1, a2, a3, a4, ⟨rfl, rfl⟩, rfl⟩
  | cons q l ih =>
    rintro H b ⟨H2, b2, h1, h2, h3, h4, h5, rfl⟩
    exact ⟨H2, _, h1, h2, h3, h4, ih _ _ h5, rfl⟩
/-- A store that is told by what was asked for so far. -/
theorem run_sched {s : Nat} {hd : List Int → List Int} (h0 : hd [] = []) (step : ∀ l y, (hd (l ++ [y])).Nodup ∧ (hd (l ++ [y])).length ≤ s ∧ y ∈ hd (l ++ [y]) ∧ ∀ x ∈ hd (l ++ [y]), x = y ∨ x ∈ hd l)
    {l : List Int} {H : List Bool} (hl : H.length = l.length) (hat : ∀ k y, l[k]? = some y → H[k]? = some (hasB (hd (l.take k)) y)) : SchedB s [] l H := by
  have key : ∀ k, k ≤ l.length → SchedE s [] (l.take k) (H.take k) (hd (l.take k)) := by
    intro k
    induction k with
    | zero => intro _; exact ⟨by simp, by simpa using h0⟩
    | succ k ih =>
      intro hk
      have hy := List.getElem?_eq_getElem (show k < l.length by omega)
      have hb := hat k _ hy
      obtain ⟨a1, a2, a3, a4⟩ := step (l.take k) l[k]
      have e1 := take_succ_of hy
      have e2 : H.take (k + 1) = H.take k ++ [hasB (hd (l.take k)) l[k]] := by
        obtain ⟨hk', e⟩ := List.getElem?_eq_some_iff.1 hb
        rw [List.take_succ_eq_append_getElem hk', e]
      rw [e1, e2]
      exact schedE_snoc a1 a2 a3 a4 _ _ _ (ih (by omega))
  have := key l.length (Nat.le_refl _)
  rw [List.take_of_length_le (Nat.le_refl _), List.take_of_length_le (by omega)] at this
  exact schedE_B _ _ _ _ this

theorem lru_sched (s : Nat) (hs : 1 ≤ s) (l : List Int) : SchedB s [] l (lruRun s l).1 := by
  obtain ⟨u, rfl⟩ : ∃ u, s = u + 1 := ⟨s - 1, by omega⟩
  refine run_sched (hd := fun l => (recL l).take (u + 1)) (by simp [recL]) (fun l y => ?_) (lru_len _ l) (fun k y h => lru_at u l k y h)
  refine ⟨List.Nodup.sublist (List.take_sublist _ _) (recL_nodup _), by rw [List.length_take]; omega, by rw [recL_snoc]; simp, fun x hx => ?_⟩
  rw [recL_snoc, List.take_succ_cons, List.mem_cons] at hx
  rcases hx with e | e
  · exact .inl e
  · right
    by_cases hy : y ∈ (recL l).take (u + 1)
    · rw [← erase_take_succ hy] at e; exact List.mem_of_mem_erase e
    · rw [take_erase_of_not hy] at e
      rw [show (recL l).take u = ((recL l).take (u + 1)).take u by rw [List.take_take]; congr 1; omega] at e
      exact List.mem_of_mem_take e
theorem fifo_sched (s : Nat) (hs : 1 ≤ s) (l : List Int) : SchedB s [] l (fifoRun s l).1 := by
  refine run_sched (hd := fun l => (fifoRun s l).2) rfl (fun l y => ?_) (fifo_hits_len' _ l) (fun k y h => fifo_hit_at s l k y h)
  obtain ⟨i1, i2⟩ := fifo_inv1' s hs (l ++ [y])
  refine ⟨i1, i2, ?_⟩
  rw [fifoRun_snoc, fifoStep]
  by_cases hm : y ∈ (fifoRun s l).2
  · rw [if_pos hm]; exact ⟨hm, fun x hx => .inr hx⟩
  · rw [if_neg hm]
    refine ⟨by simp, fun x hx => ?_⟩
    simp only [List.mem_append, List.mem_singleton] at hx
    rcases hx with e | e
    · right
      split at e
      · exact List.mem_of_mem_drop e
      · exact e
    · exact .inl e
theorem flush_sched (s : Nat) (hs : 1 ≤ s) (l : List Int) : SchedB s [] l (flushRun s l).1 := by
  refine run_sched (hd := fun l => phSet s l) rfl (fun l y => ?_) (flush_len _ l) (fun k y h => flush_at s l k y h)
  refine ⟨phSet_nodup s _, phSet_le s hs _, ?_⟩
  rw [phSet_snoc, flushG]
  by_cases hm : y ∈ phSet s l
  · rw [if_pos hm]; exact ⟨hm, fun x hx => .inr hx⟩
  · rw [if_neg hm]
    refine ⟨by simp, fun x hx => ?_⟩
    simp only [List.mem_append, List.mem_singleton] at hx
    rcases hx with e | e
    · right
      split at e
      · cases e
      · exact e
    · exact .inl e
theorem clock_sched (s : Nat) (hs : 1 ≤ s) (l : List Int) : SchedB s [] l (clockRun s l).hits := by
  refine run_sched (hd := fun l => pagesC s l) rfl (fun l y => ?_) (clock_len _ l) (fun k y h => clock_at s l k y h)
  have hi := clock_inv1 s hs (l ++ [y])
  refine ⟨hi.nd, hi.le, ?_⟩
  have hi0 := clock_inv1 s hs l
  rw [pagesC_snoc]
  by_cases hm : y ∈ pagesC s l
  · rw [if_pos hm]; exact ⟨hm, fun x hx => .inr hx⟩
  · rw [if_neg hm]
    by_cases hf : (pagesC s l).length < s
    · rw [if_pos hf]
      refine ⟨by simp, fun x hx => ?_⟩
      rw [List.mem_append, List.mem_singleton] at hx
      exact hx.elim .inr .inl
    · rw [if_neg hf]
      have hlt : (sweepM s (clockRun s l).held (clockRun s l).hand).2 < (pagesC s l).length := by
        have := sweep_lt s hs (marks (clockRun s l).held + 1) (clockRun s l).held (clockRun s l).hand hi0.hand
        have h2 : (sweepM s (clockRun s l).held (clockRun s l).hand).2 < s := this
        omega
      refine ⟨List.mem_iff_getElem?.2 ⟨_, by rw [List.getElem?_set_self hlt]⟩, fun x hx => ?_⟩
      exact (List.mem_or_eq_of_mem_set hx).symm
theorem hitsK_sched (kd s : Nat) (hs : 1 ≤ s) (l : List Int) : SchedB s [] l (hitsK kd s l) := by
  unfold hitsK
  split
  · exact lru_sched s hs l
  · exact fifo_sched s hs l
  · exact clock_sched s hs l
  · exact flush_sched s hs l
theorem opt_sched {s : Nat} (hs : 1 ≤ s) : ∀ (l H : List Int), H.Nodup → H.length ≤ s → SchedB s H l (optF s H l).1 := by
  intro l
  induction l with
  | nil => intro H _ _; rfl
  | cons p l ih =>
    intro H hN hL
    rw [optF]
    by_cases hp : p ∈ H
    · rw [if_pos hp]
      exact ⟨H, _, hN, hL, hp, fun x hx => .inr hx, ih H hN hL, by rw [(hasB_iff _ _).2 hp]⟩
    · rw [if_neg hp]
      by_cases hf : H.length = s
      · have hne : H ≠ [] := fun e => by rw [e] at hf; simp at hf; omega
        rw [if_pos hf]
        have hd := optDel (p :: l) hne hN
        obtain ⟨hm, _⟩ := pickO_latest H (p :: l) hne hN
        have hd2 := hd.append_right [p]
        have hN' : (H.erase (pickO H (p :: l)) ++ [p]).Nodup := by
          rw [List.nodup_append]
          exact ⟨hN.erase _, by simp, fun a ha b hb => by rw [List.mem_singleton] at hb; subst hb; exact fun e => hp (List.mem_of_mem_erase (e ▸ ha))⟩
        have h1 := hd2.nodup_iff.2 hN'
        have hpos := List.length_pos_of_mem hm
        have h2 : ((sortI H).take (bestIx (fun x => (p :: l).idxOf x) (sortI H) H.length) ++ (sortI H).drop (bestIx (fun x => (p :: l).idxOf x) (sortI H) H.length + 1) ++ [p]).length ≤ s := by
          rw [hd2.length_eq, List.length_append, List.length_erase_of_mem hm]; simp; omega
        refine ⟨_, _, h1, h2, by simp, fun x hx => ?_, ih _ h1 h2, by rw [(hasB_false _ _).2 hp]⟩
        have := hd2.mem_iff.1 hx
        rw [List.mem_append, List.mem_singleton] at this
        exact this.elim (fun h => .inr (List.mem_of_mem_erase h)) .inl
      · rw [if_neg hf]
        have hN2 : (H ++ [p]).Nodup := by
          rw [List.nodup_append]
          exact ⟨hN, by simp, fun a ha b hb => by rw [List.mem_singleton] at hb; subst hb; exact fun e => hp (e ▸ ha)⟩
        refine ⟨H ++ [p], _, hN2, by simp; omega, by simp, fun x hx => ?_, ih _ hN2 (by simp; omega), by rw [(hasB_false _ _).2 hp]⟩
        rw [List.mem_append, List.mem_singleton] at hx
        exact hx.elim .inr .inl
theorem opt_le (kd s : Nat) (hs : 1 ≤ s) (l : List Int) : optN s l ≤ missN (hitsK kd s l) := optN_best hs (Nat.le_refl s) (schedB_sched _ _ _ (hitsK_sched kd s hs l))
theorem opt_one (kd : Nat) (l : List Int) : hitsK kd 1 l = (optF 1 [] l).1 := schedB_one _ _ _ _ (hitsK_sched kd 1 (Nat.le_refl _) l) (opt_sched (Nat.le_refl _) l [] (by simp) (by simp))

/-! ### Phases. -/
/-- In whichever way: as many as there are slots in each phase, at most. -/
theorem few_all (kd s : Nat) (hs : 1 ≤ s) (l : List Int) : ∀ b a : Nat, b ≤ l.length → (startsL s l b).getLast? = some (a : Int) → missN ((hitsK kd s l).take a) + s ≤ (startsL s l b).length * s := by
  intro b
  induction b with
  | zero => intro a _ h; simp [startsL] at h
  | succ b ih =>
    intro a hb h
    rw [startsL_succ] at h ⊢
    cases hst : isStart s l b
    · rw [hst] at h
      simp only [Bool.false_eq_true, if_false, List.append_nil] at h ⊢
      exact ih a (by omega) h
    · rw [hst] at h
      simp only [if_true, List.getLast?_concat, Option.some.injEq, List.length_append, List.length_singleton] at h ⊢
      obtain rfl : b = a := by omega
      rw [Nat.add_mul]
      rcases Nat.eq_zero_or_pos b with h0 | h0
      · subst h0; simp [missN]
      · obtain ⟨c, hc⟩ : ∃ c : Nat, (startsL s l b).getLast? = some (c : Int) := by
          have hp := starts_pos s l b h0
          have hne : startsL s l b ≠ [] := fun e => by rw [e] at hp; simp at hp
          refine ⟨((startsL s l b).getLast hne).toNat, ?_⟩
          rw [List.getLast?_eq_some_getLast hne]
          have hm := List.getLast_mem hne
          have h0' : 0 ≤ (startsL s l b).getLast hne := by
            generalize (startsL s l b).getLast hne = z at *
            unfold startsL at hm
            obtain ⟨q, _, e⟩ := List.mem_map.1 hm
            rw [← e]; exact Int.natCast_nonneg q
          rw [Int.toNat_of_nonneg h0']
        have h1 := ih c (by omega) hc
        have h2 := (few_step kd s hs l c b (by omega) hc).2
        omega
theorem schedTo_unsnoc {s : Nat} {p : Int} : ∀ (l H : List Int) (n : Nat) (G : List Int), SchedTo s H (l ++ [p]) n G →
    ∃ n' G', SchedTo s H l n' G' ∧ G.Nodup ∧ G.length ≤ s ∧ p ∈ G ∧ (∀ x ∈ G, x = p ∨ x ∈ G') ∧ n = n' + if p ∈ G' then 0 else 1 := by
  intro l
  induction l with
  | nil =>
    rintro H n G ⟨H2, n2, h1, h2, h3, h4, ⟨rfl, rfl⟩, rfl⟩
    exact ⟨0, H, ⟨rfl, rfl⟩, h1, h2, h3, h4, by omega⟩
  | cons q l ih =>
    rintro H n G ⟨H2, n2, h1, h2, h3, h4, h5, rfl⟩
    obtain ⟨n', G', a1, a2, a3, a4, a5, rfl⟩ := ih _ _ _ h5
    exact ⟨_, G', ⟨H2, n', h1, h2, h3, h4, a1, rfl⟩, a2, a3, a4, a5, by omega⟩
theorem sched_to {s : Nat} : ∀ (l H : List Int) (n : Nat), Sched s H l n → ∃ G, SchedTo s H l n G := by
  intro l
  induction l with
  | nil => rintro H n h; exact ⟨H, h, rfl⟩
  | cons p l ih =>
    rintro H n ⟨H2, n2, h1, h2, h3, h4, h5, rfl⟩
    obtain ⟨G, hG⟩ := ih _ _ h5
    exact ⟨G, H2, n2, h1, h2, h3, h4, hG, rfl⟩
/-- Whoever has h slots misses that often, at least, up to where so many phases of k slots began. -/
theorem phases_cost (k h : Nat) (hk : 1 ≤ k) (hhk : h ≤ k) (l : List Int) : ∀ (b n : Nat) (G : List Int), b ≤ l.length → 0 < b → SchedTo h [] (l.take b) n G →
    ∃ (base : Nat) (H0 D : List Int), H0.Nodup ∧ H0.length ≤ h ∧ D.Nodup ∧ (∀ x ∈ G, x ∈ H0 ∨ x ∈ D) ∧ (∀ x ∈ phSet k (l.take b), x ∈ H0 ∨ x ∈ D) ∧
      base + D.length ≤ n ∧ ((startsL k l b).length - 1) * (k - h + 1) + 1 ≤ base := by
  intro b
  induction b with
  | zero => intro n G _ h0; omega
  | succ b ih =>
    intro n G hb _ hS
    have hy := List.getElem?_eq_getElem (show b < l.length by omega)
    generalize l[b] = y at hy
    rw [take_succ_of hy] at hS
    obtain ⟨n', G', s1, s2, s3, s4, s5, rfl⟩ := schedTo_unsnoc _ _ _ _ hS
    rcases Nat.eq_zero_or_pos b with h0 | h0
    · subst h0
      obtain ⟨e1, e2⟩ := step_start k l 0 y hk hy (.inl rfl)
      simp only [List.take_zero] at s1
      obtain ⟨rfl, rfl⟩ := s1
      refine ⟨1, G, [], s2, s3, by simp, fun x hx => .inl hx, fun x hx => ?_, by simp, by rw [e1]; simp [startsL]⟩
      rw [e2, List.mem_singleton] at hx
      rw [hx]; exact .inl s4
    · obtain ⟨base, H0, D, a1, a2, a3, a4, a5, a6, a7⟩ := ih n' G' (by omega) h0 s1
      obtain ⟨D', d1, d2, d3, d4⟩ : ∃ D' : List Int, D'.Nodup ∧ (∀ x, x ∈ H0 ∨ x ∈ D → x ∈ H0 ∨ x ∈ D') ∧ (y ∈ H0 ∨ y ∈ D') ∧ base + D'.length ≤ n' + if y ∈ G' then 0 else 1 := by
        by_cases hm : y ∈ H0 ∨ y ∈ D
        · exact ⟨D, a3, fun x hx => hx, hm, by omega⟩
        · have hG : y ∉ G' := fun h => hm (a4 y h)
          refine ⟨D ++ [y], ?_, fun x hx => hx.imp id (fun h => by simp [h]), .inr (by simp), by rw [if_neg hG, List.length_append, List.length_singleton]; omega⟩
          rw [List.nodup_append]
          exact ⟨a3, by simp, fun a ha b hb => by rw [List.mem_singleton] at hb; subst hb; exact fun e => hm (.inr (e ▸ ha))⟩
      by_cases hst : y ∉ phSet k (l.take b) ∧ (phSet k (l.take b)).length = k
      · obtain ⟨e1, e2⟩ := step_start k l b y hk hy (.inr hst)
        refine ⟨_, G, [], s2, s3, by simp, fun x hx => .inl hx, fun x hx => ?_, by rw [List.length_nil]; exact Nat.le_refl _, ?_⟩
        · rw [e2, List.mem_singleton] at hx
          rw [hx]; exact .inl s4
        · rw [e1, List.length_append, List.length_singleton, Nat.add_sub_cancel]
          have hpos := starts_pos k l b h0
          have hbig : (phSet k (l.take b) ++ [y]).length ≤ (H0 ++ D').length := by
            refine nodup_le ?_ fun x hx => ?_
            · rw [List.nodup_append]
              exact ⟨phSet_nodup _ _, by simp, fun a ha b hb => by rw [List.mem_singleton] at hb; subst hb; exact fun e => hst.1 (e ▸ ha)⟩
            · rw [List.mem_append, List.mem_singleton] at hx
              rw [List.mem_append]
              rcases hx with hx | hx
              · exact d2 x (a5 x hx)
              · rw [hx]; exact d3
          rw [List.length_append, List.length_append, List.length_singleton, hst.2] at hbig
          obtain ⟨m, hm⟩ : ∃ m, (startsL k l b).length = m + 1 := ⟨(startsL k l b).length - 1, by omega⟩
          rw [hm] at a7 ⊢
          rw [Nat.add_sub_cancel] at a7
          rw [Nat.add_mul, Nat.one_mul]
          refine Nat.le_trans ?_ d4
          omega
      · have hst' : y ∈ phSet k (l.take b) ∨ (phSet k (l.take b)).length ≠ k := by
          by_cases hm : y ∈ phSet k (l.take b)
          · exact .inl hm
          · exact .inr fun e => hst ⟨hm, e⟩
        obtain ⟨e1, e2⟩ := step_in k l b y hy (by omega) hst'
        refine ⟨base, H0, D', a1, a2, d1, fun x hx => ?_, fun x hx => ?_, d4, by rw [e1]; exact a7⟩
        · rcases s5 x hx with e | e
          · rw [e]; exact d3
          · exact d2 x (a4 x e)
        · rw [e2] at hx
          split at hx
          · exact d2 x (a5 x hx)
          · rw [List.mem_append, List.mem_singleton] at hx
            rcases hx with hx | hx
            · exact d2 x (a5 x hx)
            · rw [hx]; exact d3
theorem last_start (s : Nat) (l : List Int) (b : Nat) (h0 : 0 < b) : ∃ c : Nat, (startsL s l b).getLast? = some (c : Int) := by
  have hp := starts_pos s l b h0
  have hne : startsL s l b ≠ [] := fun e => by rw [e] at hp; simp at hp
  refine ⟨((startsL s l b).getLast hne).toNat, ?_⟩
  rw [List.getLast?_eq_some_getLast hne]
  have hm := List.getLast_mem hne
  have h0' : 0 ≤ (startsL s l b).getLast hne := by
    generalize (startsL s l b).getLast hne = z at *
    unfold startsL at hm
    obtain ⟨q, _, e⟩ := List.mem_map.1 hm
    rw [← e]; exact Int.natCast_nonneg q
  rw [Int.toNat_of_nonneg h0']
/-- As many as were asked for in the last phase, at most. -/
theorem few_part (kd s : Nat) (hs : 1 ≤ s) (l : List Int) (a : Nat) (hl : (startsL s l l.length).getLast? = some (a : Int)) :
    missN (hitsK kd s l) ≤ missN ((hitsK kd s l).take a) + (phSet s l).length := by
  obtain ⟨h1, h2⟩ := last_from s l hs l.length a (Nat.le_refl _) hl
  have h3 := part_le s l l.length a hs h1
  have e : someN ((l.take l.length).drop a) = (phSet s l).length := by
    have := someN_set (l := (l.take l.length).drop a) (phSet_nodup s (l.take l.length)) h1.2
    rwa [List.take_of_length_le (Nat.le_refl _)] at this ⊢
  have e2 : (hitsK kd s l).take l.length = hitsK kd s l := List.take_of_length_le (by rw [hitsK_len]; exact Nat.le_refl _)
  rw [← e]
  conv => lhs; rw [← e2]
  unfold hitsK
  split
  · have := lru_conserves s hs l a l.length h1.1 (Nat.le_refl _) h3; omega
  · have := fifo_conserves s hs l a l.length h1.1 (Nat.le_refl _) h3; omega
  · have := clock_conserves s hs l a l.length h1.1 (Nat.le_refl _) h3; omega
  · have := flush_phase s hs l l.length a (Nat.le_refl _) hl; omega
theorem phase_best (kd k h : Nat) (hh : 1 ≤ h) (hhk : h ≤ k) (l : List Int) : (k - h + 1) * missN (hitsK kd k l) ≤ k * (optN h l + h) := by
  rcases Nat.eq_zero_or_pos l.length with h0 | h0
  · have : missN (hitsK kd k l) = 0 := by have := missN_le (hitsK kd k l); rw [hitsK_len] at this; omega
    rw [this]; simp
  · obtain ⟨a, ha⟩ := last_start k l l.length h0
    have h1 := few_all kd k (by omega) l l.length a (Nat.le_refl _) ha
    have h2 := few_part kd k (by omega) l a ha
    obtain ⟨G, hG⟩ := sched_to _ _ _ (optN_sched hh l)
    obtain ⟨base, H0, D, a1, a2, a3, a4, a5, a6, a7⟩ := phases_cost k h (by omega) hhk l l.length (optN h l) G (Nat.le_refl _) h0 (by rw [List.take_of_length_le (Nat.le_refl _)]; exact hG)
    have h3 : (phSet k l).length ≤ (H0 ++ D).length := nodup_le (phSet_nodup _ _) fun x hx => by
      rw [List.mem_append]; exact a5 x (by rw [List.take_of_length_le (Nat.le_refl _)]; exact hx)
    rw [List.length_append] at h3
    have hpos := starts_pos k l l.length h0
    obtain ⟨m, hm⟩ : ∃ m, (startsL k l l.length).length = m + 1 := ⟨(startsL k l l.length).length - 1, by omega⟩
    rw [hm] at h1 a7
    rw [Nat.add_sub_cancel] at a7
    rw [Nat.add_mul, Nat.one_mul] at h1
    obtain ⟨c, rfl⟩ : ∃ c, k = h + c := ⟨k - h, by omega⟩
    rw [Nat.add_sub_cancel_left] at a7 ⊢
    have h4 : missN (hitsK kd (h + c) l) ≤ m * (h + c) + (phSet (h + c) l).length := by omega
    have h5 : m * (c + 1) + (phSet (h + c) l).length ≤ optN h l + h := by omega
    have h6 : (c + 1) * (phSet (h + c) l).length ≤ (h + c) * (phSet (h + c) l).length := Nat.mul_le_mul_right _ (by omega)
    calc (c + 1) * missN (hitsK kd (h + c) l) ≤ (c + 1) * (m * (h + c) + (phSet (h + c) l).length) := Nat.mul_le_mul_left _ h4
      _ = (c + 1) * (m * (h + c)) + (c + 1) * (phSet (h + c) l).length := Nat.mul_add _ _ _
      _ ≤ (h + c) * (m * (c + 1)) + (h + c) * (phSet (h + c) l).length := by
        refine Nat.add_le_add (Nat.le_of_eq ?_) h6
        rw [Nat.mul_left_comm (h + c), Nat.mul_left_comm (c + 1), Nat.mul_comm (h + c) (c + 1)]
      _ = (h + c) * (m * (c + 1) + (phSet (h + c) l).length) := (Nat.mul_add _ _ _).symm
      _ ≤ (h + c) * (optN h l + h) := Nat.mul_le_mul_left _ h5
theorem phases_le_opt (s : Nat) (hs : 1 ≤ s) (l : List Int) : (startsL s l l.length).length ≤ optN s l := by
  rcases Nat.eq_zero_or_pos l.length with h0 | h0
  · rw [h0]; simp [startsL]
  · obtain ⟨G, hG⟩ := sched_to _ _ _ (optN_sched hs l)
    obtain ⟨base, H0, D, a1, a2, a3, a4, a5, a6, a7⟩ := phases_cost s s hs (Nat.le_refl _) l l.length (optN s l) G (Nat.le_refl _) h0 (by rw [List.take_of_length_le (Nat.le_refl _)]; exact hG)
    have hpos := starts_pos s l l.length h0
    rw [Nat.sub_self] at a7
    omega
theorem way_le_phases (kd s : Nat) (hs : 1 ≤ s) (l : List Int) : missN (hitsK kd s l) ≤ (startsL s l l.length).length * s := by
  rcases Nat.eq_zero_or_pos l.length with h0 | h0
  · have : missN (hitsK kd s l) = 0 := by have := missN_le (hitsK kd s l); rw [hitsK_len] at this; omega
    omega
  · obtain ⟨a, ha⟩ := last_start s l l.length h0
    have h1 := few_all kd s hs l l.length a (Nat.le_refl _) ha
    have h2 := few_part kd s hs l a ha
    have h3 := phSet_le s hs l
    omega
end Go.Proofs.Ytgljpdfmejganaa
