/- Plain words: what looking costs, where neighbours may change places ahead of each looking; no program in sight. -/
import Derived.Test.YtmeamgeojcbljaaDoorSpreadPlain
namespace Go.Proofs.YtmeamgeojcbljaaDoor

def AccW (n : Nat) (p : Int) (m k' : List Int) (d : Int) : Prop := ∃ to, to ≤ (m.take n).idxOf p ∧ k' = moveL m ((m.take n).idxOf p) to p ∧ d = ((m.take n).idxOf p : Int) + 1
/-- A phase of changes, or a looking. -/
def NxW (n : Nat) : Option Int → List Int → List Int → Int → Prop
  | none, x, y, d => NxN n () x y d
  | some p, x, y, d => AccW n p x y d
def stepsW (a : List Int) : List (Option Int) := a.flatMap fun p => [none, some p]
theorem stepsW_snoc (a : List Int) (p : Int) : stepsW (a ++ [p]) = (stepsW a ++ [none]) ++ [some p] := by simp [stepsW]
theorem stepsW_cons (a : List Int) (p : Int) : stepsW (p :: a) = none :: some p :: stepsW a := rfl
def startW (n : Nat) : List Int := risingI n ++ List.replicate (4 - n) 0
theorem startW_good (n : Nat) : goodW n (startW n) := ⟨_, rfl, List.Perm.refl _⟩
theorem cutL_app {l r : List Int} {i : Nat} (h : i < l.length) : cutL (l ++ r) i = cutL l i ++ r := by
  unfold cutL
  rw [List.take_append_of_le_length (by omega), List.drop_append_of_le_length (by omega), List.append_assoc]
theorem putL_app {l r : List Int} {j : Nat} {x : Int} (h : j ≤ l.length) : putL (l ++ r) j x = putL l j x ++ r := by
  unfold putL
  rw [List.take_append_of_le_length h, List.drop_append_of_le_length h, List.append_assoc]; rfl
theorem cutL_len {l : List Int} {i : Nat} (h : i < l.length) : (cutL l i).length + 1 = l.length := by
  unfold cutL; simp; omega
theorem moveL_app {l r : List Int} {i j : Nat} {x : Int} (h : i < l.length) (hj : j ≤ i) : moveL (l ++ r) i j x = moveL l i j x ++ r := by
  unfold moveL
  rw [cutL_app h, putL_app (by have := cutL_len h; omega)]
theorem goodW_idx {n : Nat} {m : List Int} {p : Int} (h : goodW n m) (hp : 0 ≤ p ∧ p < n) : p ∈ m.take n ∧ (m.take n).idxOf p < n ∧ (m.take n).length = n := by
  have ht := (goodW_take h).1
  have hm : p ∈ m.take n := ht.mem_iff.2 (risingI_mem.2 hp)
  have hl := ht.length_eq
  rw [risingI_len] at hl
  exact ⟨hm, by have := List.idxOf_lt_length_iff.2 hm; omega, hl⟩
theorem goodW_move {n : Nat} {m : List Int} {p : Int} {to : Nat} (h : goodW n m) (hp : 0 ≤ p ∧ p < n) (hto : to ≤ (m.take n).idxOf p) : goodW n (moveL m ((m.take n).idxOf p) to p) := by
  obtain ⟨h1, h2, h3⟩ := goodW_idx h hp
  obtain ⟨g1, g2⟩ := goodW_take h
  refine ⟨moveL (m.take n) ((m.take n).idxOf p) to p, ?_, (moveL_perm (idxOf_get h1) to).trans g1⟩
  have := moveL_app (l := m.take n) (r := List.replicate (4 - n) 0) (i := (m.take n).idxOf p) (j := to) (x := p) (by omega) hto
  rw [← g2] at this
  exact this
theorem accW_good {n : Nat} {m k' : List Int} {p d : Int} (h : goodW n m) (hp : 0 ≤ p ∧ p < n) (hn : n ≤ 4) (ha : AccW n p m k' d) : goodW n k' ∧ 1 ≤ d ∧ d ≤ 4 := by
  obtain ⟨to, h1, rfl, rfl⟩ := ha
  have := (goodW_idx h hp).2.1
  exact ⟨goodW_move h hp h1, by omega, by omega⟩
end Go.Proofs.YtmeamgeojcbljaaDoor
