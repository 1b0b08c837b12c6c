/- Plain words on a list in which one looks from its beginning on: what all looking costs by a way, and how the list is at the end; no program in sight. -/
import Derived.Test.YtmeamgeojcbljaaDoorRunTo
import Derived.Test.YtmeamgeojcbljaaDoorLists
namespace Go.Proofs.YtmeamgeojcbljaaDoor

def GoodT (n : Int) (a : List Int) : Prop := a.length ≤ 40 ∧ 1 ≤ n ∧ n ≤ 4 ∧ AllIn a 0 (n - 1)
noncomputable def listE (n : Int) (a : List Int) : Int := open Classical in if 40 < a.length then 4 else if 1 ≤ n ∧ n ≤ 4 ∧ AllIn a 0 (n - 1) then 0 else 1
def risingI (n : Nat) : List Int := (List.range n).map Int.ofNat
theorem risingI_succ (n : Nat) : risingI (n + 1) = risingI n ++ [(n : Int)] := by unfold risingI; rw [List.range_succ, List.map_append]; rfl
theorem risingI_len (n : Nat) : (risingI n).length = n := by simp [risingI]
theorem risingI_mem {n : Nat} {x : Int} : x ∈ risingI n ↔ 0 ≤ x ∧ x < n := by
  unfold risingI
  rw [List.mem_map]
  constructor
  · rintro ⟨k, hk, rfl⟩
    rw [List.mem_range] at hk
    show (0 : Int) ≤ (k : Int) ∧ (k : Int) < n
    omega
  · rintro ⟨h1, h2⟩
    exact ⟨x.toNat, List.mem_range.2 (by omega), by show ((x.toNat : Nat) : Int) = x; omega⟩
theorem risingI_nodup (n : Nat) : (risingI n).Nodup := by
  unfold risingI
  rw [List.Nodup, List.pairwise_map]
  exact List.nodup_range.imp fun {a b} h e => h (by have : ((a : Nat) : Int) = b := e; omega)
def putL (l : List Int) (i : Nat) (x : Int) : List Int := l.take i ++ x :: l.drop i
def cutL (l : List Int) (i : Nat) : List Int := l.take i ++ l.drop (i + 1)
theorem putL_perm (l : List Int) (i : Nat) (x : Int) : (putL l i x).Perm (x :: l) := by
  unfold putL
  refine List.perm_middle.trans ?_
  rw [List.take_append_drop]
theorem cutL_perm {l : List Int} {i : Nat} {x : Int} (h : l[i]? = some x) : (x :: cutL l i).Perm l := by
  unfold cutL
  obtain ⟨hi, hx⟩ := List.getElem?_eq_some_iff.1 h
  have : l = l.take i ++ x :: l.drop (i + 1) := by rw [← hx, ← List.drop_eq_getElem_cons hi, List.take_append_drop]
  conv => rhs; rw [this]
  exact List.perm_middle.symm
def moveL (l : List Int) (i j : Nat) (x : Int) : List Int := putL (cutL l i) j x
theorem moveL_perm {l : List Int} {i : Nat} {x : Int} (h : l[i]? = some x) (j : Nat) : (moveL l i j x).Perm l := (putL_perm _ _ _).trans (cutL_perm h)
theorem idxOf_get {l : List Int} {x : Int} (h : x ∈ l) : l[l.idxOf x]? = some x := by
  have hlt := List.idxOf_lt_length_iff.2 h
  rw [List.getElem?_eq_getElem hlt, List.getElem_idxOf hlt]
def stepL (tof : Nat → Nat) (l : List Int) (x : Int) : Int × List Int := ((l.idxOf x : Int) + 1, moveL l (l.idxOf x) (tof (l.idxOf x)) x)
def runL (tof : Nat → Nat) (n : Nat) (a : List Int) : Int × List Int := a.foldl (fun st x => (st.1 + (stepL tof st.2 x).1, (stepL tof st.2 x).2)) (0, risingI n)
theorem runL_snoc (tof : Nat → Nat) (n : Nat) (a : List Int) (x : Int) : runL tof n (a ++ [x]) = ((runL tof n a).1 + (stepL tof (runL tof n a).2 x).1, (stepL tof (runL tof n a).2 x).2) := by unfold runL; rw [List.foldl_append]; rfl
theorem runL_ok {tof : Nat → Nat} {n : Nat} : ∀ {a : List Int}, AllIn a 0 ((n : Int) - 1) → 0 ≤ (runL tof n a).1 ∧ (runL tof n a).1 ≤ n * a.length ∧ (runL tof n a).2.Perm (risingI n) := by
  suffices ∀ (a : List Int), AllIn a 0 ((n : Int) - 1) → ∀ st : Int × List Int, 0 ≤ st.1 → st.2.Perm (risingI n) → 0 ≤ (a.foldl (fun st x => (st.1 + (stepL tof st.2 x).1, (stepL tof st.2 x).2)) st).1 ∧
      (a.foldl (fun st x => (st.1 + (stepL tof st.2 x).1, (stepL tof st.2 x).2)) st).1 ≤ st.1 + n * a.length ∧ (a.foldl (fun st x => (st.1 + (stepL tof st.2 x).1, (stepL tof st.2 x).2)) st).2.Perm (risingI n) by
    intro a ha
    have := this a ha (0, risingI n) (by simp) (List.Perm.refl _)
    unfold runL
    exact ⟨this.1, by have := this.2.1; dsimp only at this; omega, this.2.2⟩
  intro a
  induction a with
  | nil => intro _ st h0 h1; exact ⟨h0, by simp, h1⟩
  | cons x a ih =>
    intro ha st h0 h1
    have hx := ha x (by simp)
    have hm : x ∈ st.2 := h1.mem_iff.2 (risingI_mem.2 (by omega))
    have hlt := List.idxOf_lt_length_iff.2 hm
    rw [h1.length_eq, risingI_len] at hlt
    obtain ⟨i1, i2, i3⟩ := ih (fun y hy => ha y (by simp [hy])) (st.1 + (stepL tof st.2 x).1, (stepL tof st.2 x).2) (by simp only [stepL]; omega) ((moveL_perm (idxOf_get hm) _).trans h1)
    rw [List.foldl_cons]
    refine ⟨i1, ?_, i3⟩
    rw [List.length_cons, Int.natCast_add, Int.mul_add]
    simp only [stepL] at i2 ⊢; omega
def toF (_ : Nat) : Nat := 0
def toS (i : Nat) : Nat := i - 1
end Go.Proofs.YtmeamgeojcbljaaDoor
