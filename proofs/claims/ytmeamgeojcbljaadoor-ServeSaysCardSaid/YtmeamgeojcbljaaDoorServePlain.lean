/- Plain words on servers on a line: what is wrong with them, and the least that they could go; no program in sight. -/
import Derived.Test.YtmeamgeojcbljaaDoorRunTo
import Derived.Test.YtmeamgeojcbljaaDoorLists
namespace Go.Proofs.YtmeamgeojcbljaaDoor

def GoodS (s a : List Int) : Prop := s ≠ [] ∧ s.length ≤ 3 ∧ a.length ≤ 20 ∧ AllIn s 0 12 ∧ AllIn a 0 12
noncomputable def serveE (s a : List Int) : Int := open Classical in if s = [] then 5 else if 3 < s.length ∨ 20 < a.length then 4 else if AllIn s 0 12 ∧ AllIn a 0 12 then 0 else 1
def absI (a b : Int) : Int := max (a - b) (b - a)
theorem absI_in {a b : Int} (ha : 0 ≤ a ∧ a ≤ 12) (hb : 0 ≤ b ∧ b ≤ 12) : 0 ≤ absI a b ∧ absI a b ≤ 12 := by unfold absI; omega
/-- Server i goes to x. -/
def NxS (k : Nat) (x : Int) (p p' : List Int) (d : Int) : Prop := ∃ i, i < k ∧ p' = p.set i x ∧ d = absI (p.getD i 0) x
/-- The servers, filled up to three. -/
def pad3 (s : List Int) : List Int := s ++ List.replicate (3 - s.length) 0
theorem pad3_len {s : List Int} (h : s.length ≤ 3) : (pad3 s).length = 3 := by simp [pad3]; omega
/-- All stays on the line. -/
def goodP (p : List Int) : Prop := p.length = 3 ∧ ∀ y ∈ p, 0 ≤ y ∧ y ≤ 12
theorem goodP_pad {s : List Int} (h : s.length ≤ 3) (hs : AllIn s 0 12) : goodP (pad3 s) := ⟨pad3_len h, fun y hy => by
  unfold pad3 at hy
  rw [List.mem_append] at hy
  rcases hy with hy | hy
  · exact hs y hy
  · rw [List.eq_of_mem_replicate hy]; omega⟩
theorem goodP_set {p : List Int} (h : goodP p) {x : Int} (hx : 0 ≤ x ∧ x ≤ 12) (i : Nat) : goodP (p.set i x) := ⟨by simpa using h.1, fun y hy => by
  rcases List.mem_or_eq_of_mem_set hy with hy | rfl
  · exact h.2 y hy
  · exact hx⟩
theorem getD_in {p : List Int} (h : goodP p) (i : Nat) : 0 ≤ p.getD i 0 ∧ p.getD i 0 ≤ 12 := by
  rw [List.getD_eq_getElem?_getD]
  cases e : p[i]? with
  | none => simp
  | some y => exact h.2 y (List.mem_of_getElem? e)
theorem runS_in {k : Nat} : ∀ {a : List Int} {p p' : List Int} {d : Int}, AllIn a 0 12 → goodP p → RunTo (NxS k) p a p' d → goodP p' ∧ 0 ≤ d ∧ d ≤ 12 * a.length := by
  intro a
  induction a with
  | nil => rintro p p' d _ hp ⟨rfl, rfl⟩; exact ⟨hp, by omega, by simp⟩
  | cons x a ih =>
    rintro p p' d ha hp ⟨k1, d1, d2, ⟨i, hi, rfl, rfl⟩, h2, rfl⟩
    have hx := ha x (by simp)
    obtain ⟨b1, b2, b3⟩ := ih (fun y hy => ha y (by simp [hy])) (goodP_set hp hx i) h2
    have := absI_in (getD_in hp i) hx
    refine ⟨b1, by omega, ?_⟩
    rw [List.length_cons, Int.natCast_add, Int.mul_add]; omega
/-- There are few such rows. -/
def rows3 : List (List Int) := (List.range 13).flatMap fun (a : Nat) => (List.range 13).flatMap fun (b : Nat) => (List.range 13).map fun (c : Nat) => [(a : Int), (b : Int), (c : Int)]
theorem rows3_mem {p : List Int} (h : goodP p) : p ∈ rows3 := by
  obtain ⟨h1, h2⟩ := h
  match p, h1 with
  | [a, b, c], _ =>
    have ha := h2 a (by simp)
    have hb := h2 b (by simp)
    have hc := h2 c (by simp)
    refine List.mem_flatMap.2 ⟨a.toNat, List.mem_range.2 (by omega), List.mem_flatMap.2 ⟨b.toNat, List.mem_range.2 (by omega), List.mem_map.2 ⟨c.toNat, List.mem_range.2 (by omega), ?_⟩⟩⟩
    rw [show ((a.toNat : Nat) : Int) = a by omega, show ((b.toNat : Nat) : Int) = b by omega, show ((c.toNat : Nat) : Int) = c by omega]
theorem goodP_len (T : List (List Int × Int)) (h : (T.map Prod.fst).Nodup) (hg : ∀ y ∈ T, goodP y.1) : T.length ≤ 1048576 := by
  have h1 := nodup_leK (b := rows3) h (fun x hx => by obtain ⟨y, hy, rfl⟩ := List.mem_map.1 hx; exact rows3_mem (hg y hy))
  have h2 : rows3.length = 2197 := by simp only [rows3, List.length_flatMap, List.length_map, List.length_range]; decide
  rw [List.length_map] at h1; omega
end Go.Proofs.YtmeamgeojcbljaaDoor
