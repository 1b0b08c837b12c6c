/- Plain words: rows whose neighbours change places, each time for one; a work list that finds the least cost of each row; no program in sight. -/
import Derived.Test.YtmeamgeojcbljaaDoorListPlain
namespace Go.Proofs.YtmeamgeojcbljaaDoor

def swapI (l : List Int) (i : Nat) : List Int := (l.set i (l.getD (i - 1) 0)).set (i - 1) (l.getD i 0)
def Nb (n : Nat) (x y : List Int) : Prop := ∃ i, 1 ≤ i ∧ i < n ∧ y = swapI x i
def NbPath (n : Nat) : Nat → List Int → List Int → Prop
  | 0, x, y => y = x
  | e + 1, x, y => ∃ z, NbPath n e x z ∧ Nb n z y
theorem swapI_cons (a : Int) (l : List Int) (i : Nat) (h : 1 ≤ i) : swapI (a :: l) (i + 1) = a :: swapI l i := by
  obtain ⟨k, rfl⟩ : ∃ k, i = k + 1 := ⟨i - 1, by omega⟩
  rfl
theorem swapI_mid (A : List Int) (u v : Int) (B : List Int) : swapI (A ++ u :: v :: B) (A.length + 1) = A ++ v :: u :: B := by
  induction A with
  | nil => rfl
  | cons a A ih => rw [List.cons_append, List.length_cons, swapI_cons _ _ _ (by omega), ih, List.cons_append]
theorem swapI_split {l : List Int} {i : Nat} (h1 : 1 ≤ i) (h2 : i < l.length) : ∃ A u v B, l = A ++ u :: v :: B ∧ A.length + 1 = i ∧ swapI l i = A ++ v :: u :: B := by
  have h3 : i - 1 < l.length := by omega
  have e1 : l = l.take (i - 1) ++ l[i - 1] :: l[i] :: l.drop (i + 1) := by
    have hd := List.drop_eq_getElem_cons h3
    have hd2 := List.drop_eq_getElem_cons h2
    rw [show i - 1 + 1 = i by omega] at hd
    rw [← hd2, ← hd, List.take_append_drop]
  have e2 : (l.take (i - 1)).length + 1 = i := by rw [List.length_take]; omega
  refine ⟨l.take (i - 1), l[i - 1], l[i], l.drop (i + 1), e1, e2, ?_⟩
  have := swapI_mid (l.take (i - 1)) l[i - 1] l[i] (l.drop (i + 1))
  rw [e2, ← e1] at this
  exact this
theorem swapI_perm {l : List Int} {i : Nat} (h1 : 1 ≤ i) (h2 : i < l.length) : (swapI l i).Perm l := by
  obtain ⟨A, u, v, B, rfl, _, e⟩ := swapI_split h1 h2
  rw [e]
  exact (List.Perm.swap u v B).append_left A
theorem swapI_len (l : List Int) (i : Nat) : (swapI l i).length = l.length := by simp [swapI]
theorem swapI_app {l r : List Int} {i : Nat} (h1 : 1 ≤ i) (h2 : i < l.length) : swapI (l ++ r) i = swapI l i ++ r := by
  obtain ⟨A, u, v, B, rfl, e1, e⟩ := swapI_split h1 h2
  rw [e, ← e1]
  have := swapI_mid A u v (B ++ r)
  simpa using this

/-- A row of n things, and nothing behind them. -/
def goodW (n : Nat) (k : List Int) : Prop := ∃ l, k = l ++ List.replicate (4 - n) 0 ∧ l.Perm (risingI n)
theorem goodW_len4 {n : Nat} {k : List Int} (hn : n ≤ 4) (h : goodW n k) : k.length = 4 := by
  obtain ⟨l, rfl, hp⟩ := h
  have := hp.length_eq
  rw [risingI_len] at this
  simp; omega
theorem goodW_in {n : Nat} {k : List Int} (hn1 : 1 ≤ n) (hn : n ≤ 4) (h : goodW n k) : ∀ y ∈ k, 0 ≤ y ∧ y < 4 := by
  obtain ⟨l, rfl, hp⟩ := h
  intro y hy
  rw [List.mem_append] at hy
  rcases hy with hy | hy
  · have := risingI_mem.1 (hp.mem_iff.1 hy); omega
  · have := (List.mem_replicate.1 hy).2; omega
theorem goodW_take {n : Nat} {k : List Int} (h : goodW n k) : (k.take n).Perm (risingI n) ∧ k = k.take n ++ List.replicate (4 - n) 0 := by
  obtain ⟨l, rfl, hp⟩ := h
  have hl := hp.length_eq
  rw [risingI_len] at hl
  have : (l ++ List.replicate (4 - n) 0).take n = l := List.take_left' hl
  rw [this]
  exact ⟨hp, rfl⟩
theorem goodW_swap {n : Nat} {k : List Int} {i : Nat} (h : goodW n k) (h1 : 1 ≤ i) (h2 : i < n) : goodW n (swapI k i) := by
  obtain ⟨l, rfl, hp⟩ := h
  have hl := hp.length_eq
  rw [risingI_len] at hl
  exact ⟨swapI l i, swapI_app h1 (by omega), (swapI_perm h1 (by omega)).trans hp⟩
def four : List Int := [0, 1, 2, 3]
def rows4 : List (List Int) := four.flatMap fun a => four.flatMap fun b => four.flatMap fun c => four.map fun d => [a, b, c, d]
theorem rows4_len : rows4.length = 256 := by decide +kernel
theorem mem_four {y : Int} (h : 0 ≤ y ∧ y < 4) : y ∈ four := by
  have : y = 0 ∨ y = 1 ∨ y = 2 ∨ y = 3 := by omega
  rcases this with rfl | rfl | rfl | rfl <;> decide
theorem mem_rows4 {k : List Int} (hl : k.length = 4) (h : ∀ y ∈ k, 0 ≤ y ∧ y < 4) : k ∈ rows4 := by
  match k, hl with
  | [a, b, c, d], _ =>
    unfold rows4
    rw [List.mem_flatMap]
    refine ⟨a, mem_four (h a (by simp)), List.mem_flatMap.2 ⟨b, mem_four (h b (by simp)), List.mem_flatMap.2 ⟨c, mem_four (h c (by simp)), List.mem_map.2 ⟨d, mem_four (h d (by simp)), rfl⟩⟩⟩⟩
theorem goodW_many {n : Nat} {T : List (List Int × Int)} (hn1 : 1 ≤ n) (hn : n ≤ 4) (hd : (T.map Prod.fst).Nodup) (h : ∀ q ∈ T, goodW n q.1) : T.length ≤ 256 := by
  have := nodup_leK (b := rows4) hd (fun k hk => by
    obtain ⟨q, hq, rfl⟩ := List.mem_map.1 hk
    exact mem_rows4 (goodW_len4 hn (h q hq)) (goodW_in hn1 hn (h q hq)))
  rw [List.length_map, rows4_len] at this
  exact this

section
variable {K : Type}
theorem lessL_sub [DecidableEq K] {T : List (K × Int)} {x : K} {c : Int} : ∀ q ∈ lessL T x c, q ∈ T ∨ q = (x, c) := by
  intro q hq
  unfold lessL at hq
  split at hq
  · exact .inl hq
  · rw [List.mem_cons] at hq
    rcases hq with rfl | hq
    · exact .inr rfl
    · exact .inl (List.mem_filter.1 hq).1
theorem lessL_old [DecidableEq K] {T : List (K × Int)} {x : K} {c : Int} : ∀ q ∈ T, ∃ r ∈ lessL T x c, r.1 = q.1 ∧ r.2 ≤ q.2 := by
  intro q hq
  unfold lessL
  split
  · exact ⟨q, hq, rfl, Int.le_refl _⟩
  · rename_i hne
    by_cases e : q.1 = x
    · exact ⟨(x, c), by simp, e.symm, by have : ¬ q.2 ≤ c := fun hl => hne ⟨q, hq, e, hl⟩; show c ≤ q.2; omega⟩
    · exact ⟨q, by rw [List.mem_cons]; exact .inr (List.mem_filter.2 ⟨hq, by simpa using e⟩), rfl, Int.le_refl _⟩
theorem lessL_new [DecidableEq K] {T : List (K × Int)} {x : K} {c : Int} : ∃ r ∈ lessL T x c, r.1 = x ∧ r.2 ≤ c := by
  unfold lessL
  split
  · rename_i h; exact h
  · exact ⟨(x, c), by simp, rfl, Int.le_refl _⟩
theorem lessB_no [DecidableEq K] {T : List (K × Int)} {x : K} {c : Int} (h : lessB T x c = false) : lessL T x c = T := by
  unfold lessB at h
  have : ∃ p ∈ T, p.1 = x ∧ p.2 ≤ c := by simpa using h
  unfold lessL
  rw [if_pos this]
theorem lessB_yes [DecidableEq K] {T : List (K × Int)} {x : K} {c : Int} (h : lessB T x c = true) : lessL T x c = (x, c) :: T.filter (fun p => p.1 ≠ x) ∧ ∀ p ∈ T, p.1 = x → c < p.2 := by
  unfold lessB at h
  have hne : ¬ ∃ p ∈ T, p.1 = x ∧ p.2 ≤ c := by simpa using h
  refine ⟨by unfold lessL; rw [if_neg hne], fun p hp e => ?_⟩
  have : ¬ p.2 ≤ c := fun hl => hne ⟨p, hp, e, hl⟩
  omega
/-- How much room there is below a bound. -/
def psi (M : Int) (T : List (K × Int)) : Nat := (T.map fun q => (M - q.2).toNat).sum
theorem psi_cons (M : Int) (q : K × Int) (T : List (K × Int)) : psi M (q :: T) = (M - q.2).toNat + psi M T := by simp [psi]
theorem psi_le {M : Int} {T : List (K × Int)} (h : ∀ q ∈ T, 0 ≤ q.2) : psi M T ≤ T.length * M.toNat := by
  induction T with
  | nil => simp [psi]
  | cons q T ih =>
    rw [psi_cons, List.length_cons, Nat.succ_mul]
    have h1 := ih (fun r hr => h r (by simp [hr]))
    have h2 := h q (by simp)
    omega
theorem filter_ne_self [DecidableEq K] {T : List (K × Int)} {x : K} (h : ∀ p ∈ T, p.1 ≠ x) : T.filter (fun p => p.1 ≠ x) = T := by
  rw [List.filter_eq_self]
  intro p hp; simpa using h p hp
theorem psi_less [DecidableEq K] {M c : Int} {T : List (K × Int)} {x : K} (hn : (T.map Prod.fst).Nodup) (hc : c < M) (h : ∀ p ∈ T, p.1 = x → c < p.2) : psi M T + 1 ≤ (M - c).toNat + psi M (T.filter (fun p => p.1 ≠ x)) := by
  induction T with
  | nil => simp [psi]; omega
  | cons q T ih =>
    rw [List.map_cons, List.nodup_cons] at hn
    by_cases e : q.1 = x
    · have hx : ∀ p ∈ T, p.1 ≠ x := fun p hp e2 => hn.1 (List.mem_map.2 ⟨p, hp, by rw [e2, e]⟩)
      rw [List.filter_cons_of_neg (by simpa using e), filter_ne_self hx, psi_cons]
      have := h q (by simp) e
      omega
    · rw [List.filter_cons_of_pos (by simpa using e), psi_cons, psi_cons]
      have := ih hn.2 (fun p hp => h p (by simp [hp]))
      omega
theorem len_less [DecidableEq K] {T : List (K × Int)} {x : K} (hn : (T.map Prod.fst).Nodup) : T.length ≤ (T.filter (fun p => p.1 ≠ x)).length + 1 := by
  induction T with
  | nil => simp
  | cons q T ih =>
    rw [List.map_cons, List.nodup_cons] at hn
    by_cases e : q.1 = x
    · have hx : ∀ p ∈ T, p.1 ≠ x := fun p hp e2 => hn.1 (List.mem_map.2 ⟨p, hp, by rw [e2, e]⟩)
      rw [List.filter_cons_of_neg (by simpa using e), filter_ne_self hx]; simp
    · rw [List.filter_cons_of_pos (by simpa using e)]
      have := ih hn.2
      rw [List.length_cons, List.length_cons]; omega
/-- One of both lists has it, for no more. -/
def Cov (T todo : List (K × Int)) (k : K) (c : Int) : Prop := (∃ q ∈ T, q.1 = k ∧ q.2 ≤ c) ∨ (∃ q ∈ todo, q.1 = k ∧ q.2 ≤ c)
end

def nbsL (x : List Int × Int) (j : Nat) : List (List Int × Int) := (List.range j).map fun i => (swapI x.1 (i + 1), x.2 + 1)
theorem nbsL_succ (x : List Int × Int) (j : Nat) : nbsL x (j + 1) = nbsL x j ++ [(swapI x.1 (j + 1), x.2 + 1)] := by unfold nbsL; rw [List.range_succ, List.map_append]; rfl
theorem nbsL_mem {x q : List Int × Int} {j : Nat} (h : q ∈ nbsL x j) : ∃ i, 1 ≤ i ∧ i ≤ j ∧ q = (swapI x.1 i, x.2 + 1) := by
  unfold nbsL at h
  obtain ⟨i, hi, rfl⟩ := List.mem_map.1 h
  exact ⟨i + 1, by omega, by have := List.mem_range.1 hi; omega, rfl⟩
theorem nbsL_has (x : List Int × Int) {i j : Nat} (h1 : 1 ≤ i) (h2 : i ≤ j) : (swapI x.1 i, x.2 + 1) ∈ nbsL x j := by
  unfold nbsL
  exact List.mem_map.2 ⟨i - 1, List.mem_range.2 (by omega), by rw [show i - 1 + 1 = i by omega]⟩
theorem nbsL_len (x : List Int × Int) (j : Nat) : (nbsL x j).length = j := by simp [nbsL]

/-- Changing places as often as one likes, each time for one. -/
def NxN (n : Nat) (_ : Unit) (x y : List Int) (d : Int) : Prop := ∃ e : Nat, d = e ∧ NbPath n e x y

/-- The work list. -/
structure Spr (n C0 : Nat) (L T todo : List (List Int × Int)) : Prop where
  keys : (T.map Prod.fst).Nodup
  goodT : ∀ q ∈ T, goodW n q.1
  goodD : ∀ q ∈ todo, goodW n q.1
  isT : ∀ q ∈ T, After (NxN n) () L q.1 q.2
  isD : ∀ q ∈ todo, After (NxN n) () L q.1 q.2
  all : ∀ q ∈ L, Cov T todo q.1 q.2
  next : ∀ q ∈ T, ∀ i, 1 ≤ i → i < n → Cov T todo (swapI q.1 i) (q.2 + 1)
  boundT : ∀ q ∈ T, 0 ≤ q.2 ∧ q.2 + 1 ≤ C0 + T.length
  boundD : ∀ q ∈ todo, 0 ≤ q.2 ∧ q.2 ≤ C0 + T.length
variable {n C0 : Nat} {L T todo : List (List Int × Int)} {s : List Int × Int}
theorem Spr.start (hg : ∀ q ∈ L, goodW n q.1 ∧ 0 ≤ q.2 ∧ q.2 ≤ C0) : Spr n C0 L [] L where
  keys := by simp
  goodT := by simp
  goodD q hq := (hg q hq).1
  isT := by simp
  isD q hq := ⟨q, hq, 0, ⟨0, rfl, rfl⟩, by omega⟩
  all q hq := .inr ⟨q, hq, rfl, Int.le_refl _⟩
  next := by simp
  boundT := by simp
  boundD q hq := ⟨(hg q hq).2.1, by have := (hg q hq).2.2; simpa using this⟩
theorem Spr.fits (h : Spr n C0 L T todo) (h1 : 1 ≤ n) (h4 : n ≤ 4) : T.length ≤ 256 := goodW_many h1 h4 h.keys h.goodT
theorem cov_less {x k : List Int} {c d : Int} (h : Cov T (s :: todo) k d) (hx : s = (x, c)) (extra : List (List Int × Int)) : Cov (lessL T x c) (todo ++ extra) k d := by
  rcases h with ⟨q, hq, e1, e2⟩ | ⟨q, hq, e1, e2⟩
  · obtain ⟨r, hr, e3, e4⟩ := lessL_old (x := x) (c := c) q hq
    exact .inl ⟨r, hr, e3.trans e1, by omega⟩
  · rw [List.mem_cons] at hq
    rcases hq with rfl | hq
    · subst hx
      obtain ⟨r, hr, e3, e4⟩ := lessL_new (T := T) (x := x) (c := c)
      exact .inl ⟨r, hr, e3.trans e1, by have : c ≤ d := e2; omega⟩
    · exact .inr ⟨q, by simp [hq], e1, e2⟩
theorem Spr.drop {x : List Int} {c : Int} (h : Spr n C0 L T ((x, c) :: todo)) (hb : lessB T x c = false) : Spr n C0 L T todo := by
  have hc : ∀ k d, Cov T ((x, c) :: todo) k d → Cov T todo k d := fun k d hk => by
    have := cov_less hk rfl []
    rwa [lessB_no hb, List.append_nil] at this
  exact { keys := h.keys, goodT := h.goodT, goodD := fun q hq => h.goodD q (by simp [hq]), isT := h.isT, isD := fun q hq => h.isD q (by simp [hq]), all := fun q hq => hc _ _ (h.all q hq), next := fun q hq i h1 h2 => hc _ _ (h.next q hq i h1 h2), boundT := h.boundT, boundD := fun q hq => h.boundD q (by simp [hq]) }
theorem Spr.push {x : List Int} {c : Int} (h : Spr n C0 L T ((x, c) :: todo)) (hb : lessB T x c = true) (h1n : 1 ≤ n) : Spr n C0 L (lessL T x c) (todo ++ nbsL (x, c) (n - 1)) := by
  obtain ⟨e, hlt⟩ := lessB_yes hb
  have hx := h.goodD (x, c) (by simp)
  have hxb := h.boundD (x, c) (by simp)
  have hxi := h.isD (x, c) (by simp)
  have hl1 : T.length ≤ (lessL T x c).length := by rw [e]; have := len_less (x := x) h.keys; rw [List.length_cons]; omega
  have hxc : c + 1 ≤ C0 + (lessL T x c).length := by
    by_cases hm : ∃ p ∈ T, p.1 = x
    · obtain ⟨p, hp, e1⟩ := hm
      have a1 := hlt p hp e1
      have a2 := (h.boundT p hp).2
      omega
    · have : T.filter (fun p => p.1 ≠ x) = T := filter_ne_self fun p hp e1 => hm ⟨p, hp, e1⟩
      have a2 : c ≤ C0 + T.length := hxb.2
      rw [e, this, List.length_cons]
      omega
  have hc : ∀ k d, Cov T ((x, c) :: todo) k d → Cov (lessL T x c) (todo ++ nbsL (x, c) (n - 1)) k d := fun k d hk => cov_less hk rfl _
  refine ⟨?_, ?_, ?_, ?_, ?_, fun q hq => hc _ _ (h.all q hq), ?_, ?_, ?_⟩
  · rw [e, List.map_cons, List.nodup_cons]
    refine ⟨fun hm => ?_, h.keys.sublist (List.filter_sublist.map _)⟩
    obtain ⟨p, hp, e1⟩ := List.mem_map.1 hm
    have := (List.mem_filter.1 hp).2
    simp at this
    exact this e1
  · intro q hq
    rcases lessL_sub q hq with hq | rfl
    · exact h.goodT q hq
    · exact hx
  · intro q hq
    rw [List.mem_append] at hq
    rcases hq with hq | hq
    · exact h.goodD q (by simp [hq])
    · obtain ⟨i, i1, i2, rfl⟩ := nbsL_mem hq
      exact goodW_swap hx i1 (by omega)
  · intro q hq
    rcases lessL_sub q hq with hq | rfl
    · exact h.isT q hq
    · exact hxi
  · intro q hq
    rw [List.mem_append] at hq
    rcases hq with hq | hq
    · exact h.isD q (by simp [hq])
    · obtain ⟨i, i1, i2, rfl⟩ := nbsL_mem hq
      obtain ⟨p, hp, d, ⟨m, rfl, hm⟩, e2⟩ := hxi
      exact ⟨p, hp, _, ⟨m + 1, rfl, x, hm, i, i1, by omega, rfl⟩, by have : c = p.2 + m := e2; show c + 1 = _; rw [this, Int.natCast_succ]; omega⟩
  · intro q hq i i1 i2
    rcases lessL_sub q hq with hq | rfl
    · exact hc _ _ (h.next q hq i i1 i2)
    · exact .inr ⟨_, List.mem_append.2 (.inr (nbsL_has (x, c) i1 (by omega))), rfl, Int.le_refl _⟩
  · intro q hq
    rcases lessL_sub q hq with hq | rfl
    · have := h.boundT q hq; omega
    · exact ⟨hxb.1, hxc⟩
  · intro q hq
    rw [List.mem_append] at hq
    rcases hq with hq | hq
    · have := h.boundD q (by simp [hq]); omega
    · obtain ⟨i, i1, i2, rfl⟩ := nbsL_mem hq
      exact ⟨by have : (0:Int) ≤ c := hxb.1; show 0 ≤ c + 1; omega, hxc⟩
/-- How long it may go on. -/
def sprG (C0 : Nat) (T todo : List (List Int × Int)) : Nat := 4 * (256 * (C0 + 257) - psi (C0 + 257 : Nat) T) + todo.length
theorem Spr.lessG {x : List Int} {c : Int} (h : Spr n C0 L T ((x, c) :: todo)) (hb : lessB T x c = true) (h1 : 1 ≤ n) (h4 : n ≤ 4) : sprG C0 (lessL T x c) (todo ++ nbsL (x, c) (n - 1)) < sprG C0 T ((x, c) :: todo) := by
  have hp := h.push hb h1
  have hf := hp.fits h1 h4
  obtain ⟨e, hlt⟩ := lessB_yes hb
  have hc : c < (C0 + 257 : Nat) := by
    have a1 := (h.boundD (x, c) (by simp)).2
    have a2 := h.fits h1 h4
    have a3 : c ≤ C0 + T.length := a1
    omega
  have h2 := psi_less (M := (C0 + 257 : Nat)) h.keys hc hlt
  have h3 := psi_le (M := (C0 + 257 : Nat)) (fun q hq => (hp.boundT q hq).1)
  have h5 : (lessL T x c).length * ((C0 + 257 : Nat) : Int).toNat ≤ 256 * (C0 + 257) := Nat.mul_le_mul hf (by simp)
  have h6 : psi (C0 + 257 : Nat) (lessL T x c) = ((C0 + 257 : Nat) - c).toNat + psi (C0 + 257 : Nat) (T.filter (fun p => p.1 ≠ x)) := by rw [e, psi_cons]
  unfold sprG
  rw [List.length_append, nbsL_len, List.length_cons]
  omega
theorem Spr.dropG {x : List Int} {c : Int} : sprG C0 T todo < sprG C0 T ((x, c) :: todo) := by
  unfold sprG; rw [List.length_cons]; omega
theorem Spr.done (h : Spr n C0 L T []) : MemoR (After (NxN n) () L) T := by
  have hcov : ∀ k c, Cov T [] k c → ∃ q ∈ T, q.1 = k ∧ q.2 ≤ c := by
    rintro k c (h | ⟨q, hq, _⟩)
    · exact h
    · simp at hq
  refine ⟨h.isT, ?_⟩
  rintro k c ⟨q, hq, d, ⟨e, rfl, hp⟩, rfl⟩
  suffices ∀ (e : Nat) (k : List Int), NbPath n e q.1 k → ∃ r ∈ T, r.1 = k ∧ r.2 ≤ q.2 + e from this e k hp
  intro e
  induction e with
  | zero => rintro k rfl; obtain ⟨r, hr, e1, e2⟩ := hcov _ _ (h.all q hq); exact ⟨r, hr, e1, by omega⟩
  | succ e ih =>
    rintro k ⟨z, hz, i, i1, i2, rfl⟩
    obtain ⟨r, hr, e1, e2⟩ := ih z hz
    obtain ⟨r2, hr2, e3, e4⟩ := hcov _ _ (h.next r hr i i1 i2)
    exact ⟨r2, hr2, by rw [e3, e1], by rw [Int.natCast_succ]; omega⟩
theorem Spr.some (h : Spr n C0 L T []) (hL : L ≠ []) : T ≠ [] := by
  obtain ⟨q, hq⟩ := List.exists_mem_of_ne_nil L hL
  obtain ⟨r, hr, _⟩ := h.done.2 q.1 q.2 ⟨q, hq, 0, ⟨0, rfl, rfl⟩, by omega⟩
  intro e; rw [e] at hr; simp at hr
theorem nbPath_good {x y : List Int} : ∀ {e : Nat} {y : List Int}, NbPath n e x y → goodW n x → goodW n y := by
  intro e
  induction e with
  | zero => rintro y rfl h; exact h
  | succ e ih => rintro y ⟨z, hz, i, i1, i2, rfl⟩ h; exact goodW_swap (ih hz h) i1 i2
end Go.Proofs.YtmeamgeojcbljaaDoor
