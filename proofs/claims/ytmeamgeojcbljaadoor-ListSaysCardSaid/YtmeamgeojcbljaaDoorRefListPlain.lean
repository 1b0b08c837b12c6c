/- Plain words on larderwickref1.List and .LeastList: all rows, how many pairs stand the other way round, moved forward, and the table of least costs; no program in sight. -/
import Derived.Test.YtmeamgeojcbljaaDoorTabPlain
import Derived.Test.YtmeamgeojcbljaaDoorListPaths
namespace Go.Proofs.YtmeamgeojcbljaaDoor

def rowsR : Nat → List (List Int)
  | 0 => [[]]
  | n + 1 => (rowsR n).flatMap fun r => (List.range (n + 1)).map fun k => putL r k n
/-- Of those ahead of x in a row, how many stand behind it in t. -/
def swI (t : List Int) (x : Int) (l : List Int) : Nat := l.countP fun y => decide (ixI t x < ixI t y)
def swA (t s : List Int) (i : Nat) : Nat := ((List.range i).map fun k => swI t (s.getD k 0) (s.take k)).sum
def swR (s t : List Int) : Nat := swA t s s.length
def fwdR (s t : List Int) (x : Int) : Bool := !decide (ixI s x < ixI t x) && decide (s.erase x = t.erase x)
def minS (N : Nat) (f : Nat → Int) : Int := minT ((List.range N).map f)
def midC (L : List (List Int)) (T : List Int) (k s : Nat) : Int := if 0 ≤ T.getD s 0 then T.getD s 0 + (swR (L.getD s []) (L.getD k []) : Int) else -1
def midV (L : List (List Int)) (T : List Int) (k : Nat) : Int := minS L.length (midC L T k)
def midT (L : List (List Int)) (T : List Int) : List Int := (List.range L.length).map (midV L T)
def thenC (L : List (List Int)) (M : List Int) (x : Int) (k s : Nat) : Int := if fwdR (L.getD s []) (L.getD k []) x = true then M.getD s 0 + ixI (L.getD s []) x + 1 else -1
def thenV (L : List (List Int)) (M : List Int) (x : Int) (k : Nat) : Int := minS L.length (thenC L M x k)
def thenT (L : List (List Int)) (M : List Int) (x : Int) : List Int := (List.range L.length).map (thenV L M x)
def startV (L : List (List Int)) (n k : Nat) : Int := if swR (L.getD k []) (risingI n) = 0 then 0 else -1
def startT (L : List (List Int)) (n : Nat) : List Int := (List.range L.length).map (startV L n)
def tabR (L : List (List Int)) (n : Nat) (a : List Int) : List Int := a.foldl (fun T x => thenT L (midT L T) x) (startT L n)
theorem tabR_snoc (L : List (List Int)) (n : Nat) (a : List Int) (x : Int) : tabR L n (a ++ [x]) = thenT L (midT L (tabR L n a)) x := by unfold tabR; rw [List.foldl_append]; rfl

/-! ### Closed facts on the rows of up to four -/
theorem rowsR_len : ∀ n ∈ [0, 1, 2, 3, 4], ∀ r ∈ rowsR n, r.length = n := by decide +kernel
theorem rowsR_many : ∀ n ∈ [0, 1, 2, 3, 4], 1 ≤ (rowsR n).length ∧ (rowsR n).length ≤ 24 := by decide +kernel
theorem rowsR_has : ∀ n ∈ [1, 2, 3, 4], ∀ r ∈ rowsR n, ∀ p ∈ List.range n, (p : Int) ∈ r := by decide +kernel
theorem rowsR_nodup : ∀ n ∈ [1, 2, 3, 4], ∀ r ∈ rowsR n, r.Nodup := by decide +kernel
theorem rowsR_in : ∀ n ∈ [0, 1, 2, 3, 4], ∀ r ∈ rowsR n, ∀ y ∈ r, 0 ≤ y ∧ y < 4 := by decide +kernel
theorem rowsR_start : ∀ n ∈ [1, 2, 3, 4], risingI n ∈ rowsR n ∧ ∀ r ∈ rowsR n, swR r (risingI n) = 0 ↔ r = risingI n := by decide +kernel
theorem rowsR_swap : ∀ n ∈ [1, 2, 3, 4], ∀ t ∈ rowsR n, ∀ i ∈ List.range n, 1 ≤ i → swapI t i ∈ rowsR n ∧ swapI (swapI t i) i = t := by decide +kernel
theorem rowsR_move : ∀ n ∈ [1, 2, 3, 4], ∀ t ∈ rowsR n, ∀ p ∈ List.range n, ∀ to ∈ List.range (t.idxOf (p : Int) + 1), moveL t (t.idxOf (p : Int)) to p ∈ rowsR n := by decide +kernel
theorem rowsR_zero : ∀ n ∈ [1, 2, 3, 4], ∀ s ∈ rowsR n, swR s s = 0 := by decide +kernel
theorem rowsR_eq : ∀ n ∈ [1, 2, 3, 4], ∀ s ∈ rowsR n, ∀ t ∈ rowsR n, swR s t = 0 → s = t := by decide +kernel
theorem rowsR_le : ∀ n ∈ [1, 2, 3, 4], ∀ s ∈ rowsR n, ∀ t ∈ rowsR n, ∀ i ∈ List.range n, 1 ≤ i → swR s (swapI t i) ≤ swR s t + 1 := by decide +kernel
theorem rowsR_down : ∀ n ∈ [1, 2, 3, 4], ∀ s ∈ rowsR n, ∀ t ∈ rowsR n, swR s t = 0 ∨ ∃ i ∈ List.range n, 1 ≤ i ∧ swR s (swapI t i) + 1 = swR s t := by decide +kernel
theorem rowsR_six : ∀ n ∈ [1, 2, 3, 4], ∀ s ∈ rowsR n, ∀ t ∈ rowsR n, swR s t ≤ 6 := by decide +kernel
theorem rowsR_fwd : ∀ n ∈ [1, 2, 3, 4], ∀ s ∈ rowsR n, ∀ t ∈ rowsR n, ∀ p ∈ List.range n, fwdR s t (p : Int) = true ↔ ∃ to ∈ List.range (s.idxOf (p : Int) + 1), t = moveL s (s.idxOf (p : Int)) to p := by decide +kernel
theorem in4 {n : Nat} (h1 : 1 ≤ n) (h4 : n ≤ 4) : n ∈ [1, 2, 3, 4] := by
  have : n = 1 ∨ n = 2 ∨ n = 3 ∨ n = 4 := by omega
  rcases this with rfl | rfl | rfl | rfl <;> decide
theorem in04 {n : Nat} (h4 : n ≤ 4) : n ∈ [0, 1, 2, 3, 4] := by
  have : n = 0 ∨ n = 1 ∨ n = 2 ∨ n = 3 ∨ n = 4 := by omega
  rcases this with rfl | rfl | rfl | rfl | rfl <;> decide

/-! ### The least of some -/
theorem minS_zero (f : Nat → Int) : minS 0 f = -1 := rfl
theorem minS_succ (N : Nat) (f : Nat → Int) : minS (N + 1) f = if 0 ≤ f N then lessI (minS N f) (f N) else minS N f := by
  unfold minS; rw [List.range_succ, List.map_append, List.map_singleton, minT_snoc]
theorem minS_spec (N : Nat) (f : Nat → Int) : (minS N f = -1 ∧ ∀ s, s < N → f s < 0) ∨ (0 ≤ minS N f ∧ (∃ s, s < N ∧ f s = minS N f) ∧ ∀ s, s < N → 0 ≤ f s → minS N f ≤ f s) := by
  rcases minT_spec ((List.range N).map f) with ⟨h1, h2⟩ | ⟨h1, h2, h3⟩
  · exact .inl ⟨h1, fun s hs => h2 _ (List.mem_map.2 ⟨s, List.mem_range.2 hs, rfl⟩)⟩
  · obtain ⟨s, hs, e⟩ := List.mem_map.1 h2
    exact .inr ⟨h1, ⟨s, List.mem_range.1 hs, e⟩, fun t ht h => h3 _ (List.mem_map.2 ⟨t, List.mem_range.2 ht, rfl⟩) h⟩
theorem minS_le {N : Nat} {f : Nat → Int} {B : Int} (hB : -1 ≤ B) (h : ∀ s, s < N → f s ≤ B) : -1 ≤ minS N f ∧ minS N f ≤ B := by
  rcases minS_spec N f with ⟨h1, _⟩ | ⟨h1, ⟨s, hs, e⟩, _⟩
  · omega
  · have := h s hs; omega
theorem tab_map {R : Nat → Int → Prop} {N : Nat} {f : Nat → Int} (h1 : ∀ k, k < N → 0 ≤ f k → R k (f k)) (h2 : ∀ k c, R k c → k < N ∧ 0 ≤ f k ∧ f k ≤ c) : Tab R ((List.range N).map f) := by
  refine ⟨fun s v hs hv => ?_, fun s c hr => ?_⟩
  · have hl := (List.getElem?_eq_some_iff.1 hs).1
    rw [List.length_map, List.length_range] at hl
    rw [List.getElem?_map, List.getElem?_range hl] at hs
    injection hs with hs
    subst hs
    exact h1 s hl hv
  · obtain ⟨g1, g2, g3⟩ := h2 s c hr
    exact ⟨f s, by rw [List.getElem?_map, List.getElem?_range g1]; rfl, g2, g3⟩
theorem getD_map_range {N : Nat} {f : Nat → Int} {k : Nat} (h : k < N) : ((List.range N).map f).getD k 0 = f k := by
  rw [List.getD_eq_getElem?_getD, List.getElem?_map, List.getElem?_range h]; rfl

/-! ### The rows as states -/
def padW (n : Nat) (r : List Int) : List Int := r ++ List.replicate (4 - n) 0
theorem padW_inj {n : Nat} {r s : List Int} (h : padW n r = padW n s) : r = s := List.append_cancel_right h
section
variable {n : Nat} (h1 : 1 ≤ n) (h4 : n ≤ 4)
include h1 h4
theorem nb_rows {t : List Int} (ht : t ∈ rowsR n) {y : List Int} (h : Nb n (padW n t) y) : ∃ i, i ∈ List.range n ∧ 1 ≤ i ∧ swapI t i ∈ rowsR n ∧ y = padW n (swapI t i) := by
  obtain ⟨i, i1, i2, rfl⟩ := h
  have hl := rowsR_len n (in04 h4) t ht
  exact ⟨i, List.mem_range.2 i2, i1, (rowsR_swap n (in4 h1 h4) t ht i (List.mem_range.2 i2) i1).1, swapI_app i1 (by omega)⟩
theorem path_rows {s : List Int} (hs : s ∈ rowsR n) : ∀ {e : Nat} {y : List Int}, NbPath n e (padW n s) y → ∃ t ∈ rowsR n, y = padW n t ∧ swR s t ≤ e := by
  intro e
  induction e with
  | zero => rintro y rfl; exact ⟨s, hs, rfl, by rw [rowsR_zero n (in4 h1 h4) s hs]; omega⟩
  | succ e ih =>
    rintro y ⟨z, hz, hnb⟩
    obtain ⟨t, ht, rfl, hle⟩ := ih hz
    obtain ⟨i, hi, i1, hti, rfl⟩ := nb_rows h1 h4 ht hnb
    have := rowsR_le n (in4 h1 h4) s hs t ht i hi i1
    exact ⟨_, hti, rfl, by omega⟩
theorem path_is {s : List Int} (hs : s ∈ rowsR n) : ∀ (e : Nat) (t : List Int), t ∈ rowsR n → swR s t = e → NbPath n e (padW n s) (padW n t) := by
  intro e
  induction e with
  | zero => intro t ht h; rw [rowsR_eq n (in4 h1 h4) s hs t ht h]; rfl
  | succ e ih =>
    intro t ht h
    rcases rowsR_down n (in4 h1 h4) s hs t ht with h0 | ⟨i, hi, i1, hd⟩
    · omega
    · obtain ⟨g1, g2⟩ := rowsR_swap n (in4 h1 h4) t ht i hi i1
      refine ⟨padW n (swapI t i), ih _ g1 (by omega), i, i1, List.mem_range.1 hi, ?_⟩
      have hl := rowsR_len n (in04 h4) _ g1
      have := swapI_app (l := swapI t i) (r := List.replicate (4 - n) 0) i1 (by rw [hl]; exact List.mem_range.1 hi)
      rw [g2] at this
      exact this.symm
theorem acc_rows {s : List Int} (hs : s ∈ rowsR n) {p : Nat} (hp : p < n) {y : List Int} {d : Int} : AccW n (p : Int) (padW n s) y d ↔ ∃ t ∈ rowsR n, fwdR s t (p : Int) = true ∧ y = padW n t ∧ d = ixI s (p : Int) + 1 := by
  have hl := rowsR_len n (in04 h4) s hs
  have hm := rowsR_has n (in4 h1 h4) s hs p (List.mem_range.2 hp)
  have ht : (padW n s).take n = s := List.take_left' hl
  have hix := ixI_mem hm
  have hlt := List.idxOf_lt_length_iff.2 hm
  unfold AccW
  rw [ht, hix]
  constructor
  · rintro ⟨to, h5, rfl, rfl⟩
    have hto := List.mem_range.2 (show to < s.idxOf (p : Int) + 1 by omega)
    have hmv := rowsR_move n (in4 h1 h4) s hs p (List.mem_range.2 hp) to hto
    exact ⟨_, hmv, (rowsR_fwd n (in4 h1 h4) s hs _ hmv p (List.mem_range.2 hp)).2 ⟨to, hto, rfl⟩, moveL_app hlt h5, rfl⟩
  · rintro ⟨t, htm, hf, rfl, rfl⟩
    obtain ⟨to, hto, rfl⟩ := (rowsR_fwd n (in4 h1 h4) s hs t htm p (List.mem_range.2 hp)).1 hf
    have h5 : to ≤ s.idxOf (p : Int) := by have := List.mem_range.1 hto; omega
    exact ⟨to, h5, (moveL_app hlt h5).symm, rfl⟩
end

/-- What a row may cost, by number of the row. -/
def RW (n : Nat) (l : List (Option Int)) (k : Nat) (c : Int) : Prop := ∃ r, (rowsR n)[k]? = some r ∧ RunTo (NxW n) (startW n) l (padW n r) c
section
variable {n : Nat} (h1 : 1 ≤ n) (h4 : n ≤ 4)
include h1 h4
theorem rw_start : Tab (RW n []) (startT (rowsR n) n) ∧ ∃ k c, RW n [] k c := by
  obtain ⟨g1, g2⟩ := rowsR_start n (in4 h1 h4)
  refine ⟨tab_map (fun k hk hv => ?_) (fun k c hr => ?_), ?_⟩
  · have hg : (rowsR n)[k]? = some (rowsR n)[k] := List.getElem?_eq_getElem hk
    have hgd : (rowsR n).getD k [] = (rowsR n)[k] := by rw [List.getD_eq_getElem?_getD, hg]; rfl
    unfold startV at hv ⊢
    rw [hgd] at hv ⊢
    by_cases h0 : swR (rowsR n)[k] (risingI n) = 0
    · rw [if_pos h0]
      refine ⟨_, hg, ?_, rfl⟩
      rw [(g2 _ (List.getElem_mem hk)).1 h0]; rfl
    · rw [if_neg h0] at hv; omega
  · obtain ⟨r, hr1, e, rfl⟩ := hr
    have hk := (List.getElem?_eq_some_iff.1 hr1).1
    have hgd : (rowsR n).getD k [] = r := by rw [List.getD_eq_getElem?_getD, hr1]; rfl
    have : r = risingI n := padW_inj e
    unfold startV
    rw [hgd, if_pos ((g2 _ (List.mem_of_getElem? hr1)).2 this)]
    exact ⟨hk, by omega, by omega⟩
  · obtain ⟨k, hk⟩ := List.getElem?_of_mem g1
    exact ⟨k, 0, _, hk, rfl, rfl⟩
theorem rw_rows : ∀ {l : List (Option Int)}, (∀ p, some p ∈ l → 0 ≤ p ∧ p < n) → ∀ {s y : List Int} {c : Int}, s ∈ rowsR n → RunTo (NxW n) (padW n s) l y c → ∃ t ∈ rowsR n, y = padW n t := by
  intro l
  induction l with
  | nil => rintro _ s y c hs ⟨rfl, _⟩; exact ⟨s, hs, rfl⟩
  | cons p l ih =>
    rintro hl s y c hs ⟨k1, d1, d2, hn, hr, _⟩
    have : ∃ t ∈ rowsR n, k1 = padW n t := by
      cases p with
      | none =>
        obtain ⟨e, _, hp⟩ := hn
        obtain ⟨t, ht, rfl, _⟩ := path_rows h1 h4 hs hp
        exact ⟨t, ht, rfl⟩
      | some p =>
        have hp := hl p (by simp)
        obtain ⟨q, rfl⟩ : ∃ q : Nat, p = q := ⟨p.toNat, by omega⟩
        obtain ⟨t, ht, _, rfl, _⟩ := (acc_rows h1 h4 hs (by omega)).1 hn
        exact ⟨t, ht, rfl⟩
    obtain ⟨t, ht, rfl⟩ := this
    exact ih (fun p hp => hl p (by simp [hp])) ht hr
theorem rw_mid {l : List (Option Int)} (hl : ∀ p, some p ∈ l → 0 ≤ p ∧ p < n) {T : List Int} (hlen : T.length = (rowsR n).length) (hT : Tab (RW n l) T) (hex : ∃ k c, RW n l k c) : Tab (RW n (l ++ [none])) (midT (rowsR n) T) ∧ ∀ k, k < (rowsR n).length → ∃ c, RW n (l ++ [none]) k c := by
  have hst := (rowsR_start n (in4 h1 h4)).1
  refine ⟨tab_map (fun k hk hv => ?_) (fun k c hr => ?_), fun k hk => ?_⟩
  · rcases minS_spec (rowsR n).length (midC (rowsR n) T k) with ⟨g1, _⟩ | ⟨g1, ⟨s, hs, e⟩, _⟩
    · unfold midV at hv; omega
    · have hgk : (rowsR n)[k]? = some (rowsR n)[k] := List.getElem?_eq_getElem hk
      have hgs : (rowsR n)[s]? = some (rowsR n)[s] := List.getElem?_eq_getElem hs
      have hgdk : (rowsR n).getD k [] = (rowsR n)[k] := by rw [List.getD_eq_getElem?_getD, hgk]; rfl
      have hgds : (rowsR n).getD s [] = (rowsR n)[s] := by rw [List.getD_eq_getElem?_getD, hgs]; rfl
      show RW n _ k (minS _ _)
      rw [← e] at g1 ⊢
      unfold midC at g1 ⊢
      rw [hgdk, hgds] at g1 ⊢
      by_cases h0 : 0 ≤ T.getD s 0
      · rw [if_pos h0]
        have hTs : T[s]? = some (T.getD s 0) := by
          rw [List.getD_eq_getElem?_getD, List.getElem?_eq_getElem (show s < T.length by omega)]; rfl
        obtain ⟨r, hr1, hr2⟩ := hT.1 s _ hTs h0
        rw [hgs] at hr1
        injection hr1 with hr1
        subst hr1
        exact ⟨_, hgk, (runTo_snoc (NxW n)).2 ⟨_, _, _, hr2, ⟨_, rfl, path_is h1 h4 (List.getElem_mem hs) _ _ (List.getElem_mem hk) rfl⟩, rfl⟩⟩
      · rw [if_neg h0] at g1; omega
  · obtain ⟨r, hr1, hr2⟩ := hr
    obtain ⟨k1, d1, d2, hr3, ⟨e, rfl, hp⟩, rfl⟩ := (runTo_snoc (NxW n)).1 hr2
    obtain ⟨t, ht, rfl⟩ := rw_rows h1 h4 hl hst hr3
    obtain ⟨r', hr', er, hsw⟩ := path_rows h1 h4 ht hp
    obtain rfl := padW_inj er
    have hk := (List.getElem?_eq_some_iff.1 hr1).1
    obtain ⟨s, hs⟩ := List.getElem?_of_mem ht
    have hsl := (List.getElem?_eq_some_iff.1 hs).1
    obtain ⟨v, hv1, hv2, hv3⟩ := hT.2 s d1 ⟨t, hs, hr3⟩
    have hC : midC (rowsR n) T k s = v + (swR t r : Int) := by
      unfold midC
      rw [List.getD_eq_getElem?_getD, List.getD_eq_getElem?_getD, List.getD_eq_getElem?_getD, hv1, hs, hr1]
      exact if_pos hv2
    rcases minS_spec (rowsR n).length (midC (rowsR n) T k) with ⟨_, g2⟩ | ⟨g1, _, g3⟩
    · have := g2 s hsl; omega
    · have := g3 s hsl (by omega)
      exact ⟨hk, g1, by show minS _ _ ≤ _; omega⟩
  · obtain ⟨k0, c0, r0, hr0, hrun⟩ := hex
    have hgk : (rowsR n)[k]? = some (rowsR n)[k] := List.getElem?_eq_getElem hk
    exact ⟨_, _, hgk, (runTo_snoc (NxW n)).2 ⟨_, _, _, hrun, ⟨_, rfl, path_is h1 h4 (List.mem_of_getElem? hr0) _ _ (List.getElem_mem hk) rfl⟩, rfl⟩⟩
theorem rw_then {l : List (Option Int)} (hl : ∀ p, some p ∈ l → 0 ≤ p ∧ p < n) {p : Nat} (hp : p < n) {M : List Int} (hlen : M.length = (rowsR n).length) (hM : Tab (RW n l) M) (hall : ∀ k, k < (rowsR n).length → ∃ c, RW n l k c) : Tab (RW n (l ++ [some (p : Int)])) (thenT (rowsR n) M p) := by
  have hst := (rowsR_start n (in4 h1 h4)).1
  refine tab_map (fun k hk hv => ?_) (fun k c hr => ?_)
  · rcases minS_spec (rowsR n).length (thenC (rowsR n) M p k) with ⟨g1, _⟩ | ⟨g1, ⟨s, hs, e⟩, _⟩
    · unfold thenV at hv; omega
    · have hgk : (rowsR n)[k]? = some (rowsR n)[k] := List.getElem?_eq_getElem hk
      have hgs : (rowsR n)[s]? = some (rowsR n)[s] := List.getElem?_eq_getElem hs
      have hgdk : (rowsR n).getD k [] = (rowsR n)[k] := by rw [List.getD_eq_getElem?_getD, hgk]; rfl
      have hgds : (rowsR n).getD s [] = (rowsR n)[s] := by rw [List.getD_eq_getElem?_getD, hgs]; rfl
      show RW n _ k (minS _ _)
      rw [← e] at g1 ⊢
      unfold thenC at g1 ⊢
      rw [hgdk, hgds] at g1 ⊢
      by_cases h0 : fwdR (rowsR n)[s] (rowsR n)[k] p = true
      · rw [if_pos h0]
        have hMs : M[s]? = some (M.getD s 0) := by
          rw [List.getD_eq_getElem?_getD, List.getElem?_eq_getElem (show s < M.length by omega)]; rfl
        obtain ⟨c0, hc0⟩ := hall s hs
        obtain ⟨v, hv1, hv2, _⟩ := hM.2 s c0 hc0
        obtain rfl : v = M.getD s 0 := by rw [hMs] at hv1; injection hv1 with hv1; exact hv1.symm
        obtain ⟨r, hr1, hr2⟩ := hM.1 s _ hMs hv2
        rw [hgs] at hr1
        injection hr1 with hr1
        subst hr1
        exact ⟨_, hgk, (runTo_snoc (NxW n)).2 ⟨_, _, _, hr2, (acc_rows h1 h4 (List.getElem_mem hs) hp).2 ⟨_, List.getElem_mem hk, h0, rfl, rfl⟩, by omega⟩⟩
      · rw [if_neg h0] at g1; omega
  · obtain ⟨r, hr1, hr2⟩ := hr
    obtain ⟨k1, d1, d2, hr3, hac, rfl⟩ := (runTo_snoc (NxW n)).1 hr2
    obtain ⟨t, ht, rfl⟩ := rw_rows h1 h4 hl hst hr3
    obtain ⟨r', hr', hf, er, rfl⟩ := (acc_rows h1 h4 ht hp).1 hac
    obtain rfl := padW_inj er
    have hk := (List.getElem?_eq_some_iff.1 hr1).1
    obtain ⟨s, hs⟩ := List.getElem?_of_mem ht
    have hsl := (List.getElem?_eq_some_iff.1 hs).1
    obtain ⟨v, hv1, hv2, hv3⟩ := hM.2 s d1 ⟨t, hs, hr3⟩
    have hC : thenC (rowsR n) M p k s = v + ixI t p + 1 := by
      unfold thenC
      rw [List.getD_eq_getElem?_getD, List.getD_eq_getElem?_getD, List.getD_eq_getElem?_getD, hv1, hs, hr1]
      exact if_pos hf
    have hix := ixI_mem (rowsR_has n (in4 h1 h4) t ht p (List.mem_range.2 hp))
    rcases minS_spec (rowsR n).length (thenC (rowsR n) M p k) with ⟨_, g2⟩ | ⟨g1, _, g3⟩
    · have := g2 s hsl; omega
    · have := g3 s hsl (by omega)
      exact ⟨hk, g1, by show minS _ _ ≤ _; omega⟩
omit h1 h4 in
theorem tabR_len (L : List (List Int)) (n : Nat) (a : List Int) : (tabR L n a).length = L.length := by
  induction a using list_snoc_ind with
  | h0 => simp [tabR, startT]
  | h1 a x _ => rw [tabR_snoc]; simp [thenT]
omit h1 h4 in
theorem stepsW_in {a : List Int} (ha : AllIn a 0 ((n : Int) - 1)) : ∀ p : Int, some p ∈ stepsW a → 0 ≤ p ∧ p < n := by
  intro p hp
  unfold stepsW at hp
  obtain ⟨q, hq, hm⟩ := List.mem_flatMap.1 hp
  simp at hm
  subst hm
  have := ha p hq
  omega
theorem rw_all : ∀ {a : List Int}, AllIn a 0 ((n : Int) - 1) → Tab (RW n (stepsW a)) (tabR (rowsR n) n a) ∧ ∃ k c, RW n (stepsW a) k c := by
  intro a
  induction a using list_snoc_ind with
  | h0 => intro _; exact rw_start h1 h4
  | h1 a x ih =>
    intro ha
    have ha0 : AllIn a 0 ((n : Int) - 1) := fun y hy => ha y (by simp [hy])
    have hx := ha x (by simp)
    obtain ⟨q, rfl⟩ : ∃ q : Nat, x = q := ⟨x.toNat, by omega⟩
    obtain ⟨g1, g2⟩ := ih ha0
    obtain ⟨m1, m2⟩ := rw_mid h1 h4 (stepsW_in ha0) (tabR_len _ _ _) g1 g2
    have hl2 : ∀ p : Int, some p ∈ stepsW a ++ [none] → 0 ≤ p ∧ p < n := fun p hp => by
      rw [List.mem_append] at hp
      rcases hp with hp | hp
      · exact stepsW_in ha0 p hp
      · simp at hp
    have m3 := rw_then h1 h4 hl2 (p := q) (by omega) (by simp [midT]) m1 m2
    rw [tabR_snoc, stepsW_snoc]
    refine ⟨m3, ?_⟩
    obtain ⟨s, hs⟩ := List.getElem?_of_mem (rowsR_start n (in4 h1 h4)).1
    have hsl := (List.getElem?_eq_some_iff.1 hs).1
    obtain ⟨c, r, hr, hrun⟩ := m2 s hsl
    rw [hs] at hr
    injection hr with hr
    subst hr
    have hmem := List.mem_of_getElem? hs
    have hixl := List.idxOf_lt_length_iff.2 (rowsR_has n (in4 h1 h4) _ hmem q (List.mem_range.2 (by omega)))
    have hf : fwdR (risingI n) (risingI n) (q : Int) = true := by simp [fwdR]
    exact ⟨s, _, _, hs, (runTo_snoc (NxW n)).2 ⟨_, _, _, hrun, (acc_rows h1 h4 hmem (by omega)).2 ⟨_, hmem, hf, rfl, rfl⟩, rfl⟩⟩
theorem tabR_best {a : List Int} (ha : AllIn a 0 ((n : Int) - 1)) {v : Int} (hb : Best (NxW n) (startW n) (stepsW a) v) : minT (tabR (rowsR n) n a) = v := by
  obtain ⟨⟨k', hr⟩, hlow⟩ := hb
  obtain ⟨t, ht, rfl⟩ := rw_rows h1 h4 (stepsW_in ha) (rowsR_start n (in4 h1 h4)).1 hr
  obtain ⟨s, hs⟩ := List.getElem?_of_mem ht
  exact (rw_all h1 h4 ha).1.min ⟨s, t, hs, hr⟩ (fun k c ⟨_, _, hrr⟩ => hlow _ _ hrr)
end
/-- No entry is too great. -/
theorem tab_small {n : Nat} (h1 : 1 ≤ n) (h4 : n ≤ 4) : ∀ a : List Int, ∀ v ∈ tabR (rowsR n) n a, -1 ≤ v ∧ v ≤ 10 * a.length := by
  intro a
  induction a using list_snoc_ind with
  | h0 =>
    intro v hv
    obtain ⟨k, _, rfl⟩ := List.mem_map.1 hv
    unfold startV
    split <;> simp
  | h1 a x ih =>
    rw [tabR_snoc]
    intro v hv
    obtain ⟨k, hk, rfl⟩ := List.mem_map.1 hv
    have hk := List.mem_range.1 hk
    have hb : ∀ k < (rowsR n).length, -1 ≤ midV (rowsR n) (tabR (rowsR n) n a) k ∧ midV (rowsR n) (tabR (rowsR n) n a) k ≤ 10 * a.length + 6 := fun k hk => minS_le (by omega) fun s hs => by
      unfold midC
      split
      · have h6 := rowsR_six n (in4 h1 h4) _ (List.getElem_mem hs) _ (List.getElem_mem hk)
        have hT : (tabR (rowsR n) n a).getD s 0 ∈ tabR (rowsR n) n a := by
          rw [List.getD_eq_getElem?_getD, List.getElem?_eq_getElem (by rw [tabR_len]; exact hs)]
          exact List.getElem_mem _
        have := ih _ hT
        rw [List.getD_eq_getElem?_getD (l := rowsR n), List.getD_eq_getElem?_getD (l := rowsR n), List.getElem?_eq_getElem hs, List.getElem?_eq_getElem hk]
        simp only [Option.getD_some]
        omega
      · omega
    have := minS_le (N := (rowsR n).length) (f := thenC (rowsR n) (midT (rowsR n) (tabR (rowsR n) n a)) x k) (B := 10 * a.length + 10) (by omega) fun s hs => by
      unfold thenC
      split
      · have hm : (midT (rowsR n) (tabR (rowsR n) n a)).getD s 0 = midV (rowsR n) (tabR (rowsR n) n a) s := getD_map_range hs
        have hix : ixI ((rowsR n).getD s []) x ≤ 3 := by
          have hl := rowsR_len n (in04 h4) _ (List.getElem_mem hs)
          rw [List.getD_eq_getElem?_getD, List.getElem?_eq_getElem hs]
          simp only [Option.getD_some]
          unfold ixI
          split
          · rename_i hm
            have := List.idxOf_lt_length_iff.2 hm
            omega
          · omega
        have := hb s hs
        rw [hm]; omega
      · omega
    rw [List.length_append, List.length_singleton]
    show -1 ≤ minS _ _ ∧ minS _ _ ≤ _
    omega
end Go.Proofs.YtmeamgeojcbljaaDoor
