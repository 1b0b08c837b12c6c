/- Keys that are rows of 4 numbers. -/
import Derived.Test.YtmeamgeojcbljaaDoorMemoMap
import Derived.Test.YtmeamgeojcbljaaDoorInfo
import Derived.DeepKeys4
import Derived.ChangeKeysEq
namespace Go.Proofs.YtmeamgeojcbljaaDoor
open Go.RowKit Go.Maps

def encW (x : List Int) : Value := .agg (x.map (Value.int .i64)).toArray
def litW (x : List Int) : Lit := .string (keyBytes (x.map (Lit.int .i64)))
def okW (x : List Int) : Prop := x.length = 4 ∧ ∀ y ∈ x, (Lit.int .i64 y).wf = true
set_option maxRecDepth 100000 in
theorem ktW : Tryd.prog.keyType 102 = true := by kernel_rfl
theorem coW : Tryd.prog.cellsOf 102 = 4 := by kernel_rfl
theorem ciW : Tryd.prog.cellsOf 3 = 1 := by kernel_rfl
theorem tsW : ∃ d, Tryd.prog.types.size + 1 = d + 1 + 1 := ⟨Tryd.prog.types.size - 1, by kernel_rfl⟩
theorem lawW : Keyed Tryd.prog 102 := Keyed.of_law (deep_law_laid (m := 2) (by kernel_rfl) (by omega) (of_decide_eq_true (by kernel_rfl)) (by kernel_rfl) (by kernel_rfl))
theorem cell1W (d : Nat) (v : Value) : Tryd.prog.keyLits (d + 1) 3 [v] = match v with | .int .i64 n => if (Lit.int .i64 n).wf = true then some [.int .i64 n] else none | _ => none := by
  unfold Program.keyLits
  rw [Tryd.underlying3]
  cases v with
  | int q n => cases q <;> simp
  | _ => simp
set_option maxRecDepth 100000 in
theorem litsW (d : Nat) (v : Value) (cs : Array Value) (hc : v = .agg cs) (hs : cs.size = 4) : Tryd.prog.keyLits (d + 1) 102 v.cells.toList = ((List.range 4).mapM fun i => Tryd.prog.keyLits d 3 ((cs.toList.drop i).take 1)).map List.flatten := by
  subst hc
  conv => lhs; unfold Program.keyLits
  rw [Tryd.underlying102]
  simp only [Value.cells, coW, ciW, Array.length_toList, hs, if_true, Nat.mul_one]
set_option maxRecDepth 100000 in
theorem keyW_some (x : List Int) (h : okW x) : keyOf Tryd.prog 102 (encW x) = some (litW x) := by
  obtain ⟨h1, h2⟩ := h
  match x, h1 with
  | [a0, a1, a2, a3], _ =>
    obtain ⟨d, hd⟩ := tsW
    unfold keyOf
    rw [Tryd.underlying102]
    simp only [ktW, encW, Value.formed, Tryd.underlying102, coW]
    rw [hd, litsW (d + 1) _ _ rfl (by simp)]
    have hw : ∀ y ∈ ([a0, a1, a2, a3] : List Int), (Lit.int .i64 y).wf = true := h2
    simp only [List.mem_cons, List.not_mem_nil, or_false, forall_eq_or_imp, forall_eq] at hw
    simp [List.range, List.range.loop, cell1W, hw, litW]
set_option maxRecDepth 100000 in
theorem keyW_inv (v : Value) (l : Lit) (h : keyOf Tryd.prog 102 v = some l) : ∃ x, okW x ∧ v = encW x ∧ l = litW x := by
  obtain ⟨d, hd⟩ := tsW
  have h0 := h
  unfold keyOf at h
  rw [Tryd.underlying102] at h
  simp only [ktW, Bool.true_and] at h
  split at h
  · rename_i hf
    cases v with
    | agg cs =>
      simp only [Value.formed, Tryd.underlying102, coW, beq_iff_eq] at hf
      rw [hd, litsW (d + 1) _ cs rfl hf] at h
      obtain ⟨cs⟩ := cs
      match cs, hf with
      | [c0, c1, c2, c3], _ =>
        have hc : ∀ c : Value, (∃ t, Tryd.prog.keyLits (d + 1) 3 [c] = some t) → ∃ y, c = .int .i64 y ∧ (Lit.int .i64 y).wf = true := by
          rintro c ⟨t, ht⟩
          rw [cell1W] at ht
          split at ht
          · rename_i n
            split at ht
            · rename_i hw; exact ⟨n, rfl, hw⟩
            · cases ht
          · cases ht
        simp [List.range, List.range.loop] at h
        obtain ⟨t0, e0⟩ : ∃ t, Tryd.prog.keyLits (d + 1) 3 [c0] = some t := by
          cases e : Tryd.prog.keyLits (d + 1) 3 [c0] with
          | none => simp [e] at h
          | some t => exact ⟨t, rfl⟩
        simp [e0] at h
        obtain ⟨y0, rfl, w0⟩ := hc c0 ⟨t0, e0⟩
        clear e0
        obtain ⟨t1, e1⟩ : ∃ t, Tryd.prog.keyLits (d + 1) 3 [c1] = some t := by
          cases e : Tryd.prog.keyLits (d + 1) 3 [c1] with
          | none => simp [e] at h
          | some t => exact ⟨t, rfl⟩
        simp [e1] at h
        obtain ⟨y1, rfl, w1⟩ := hc c1 ⟨t1, e1⟩
        clear e1
        obtain ⟨t2, e2⟩ : ∃ t, Tryd.prog.keyLits (d + 1) 3 [c2] = some t := by
          cases e : Tryd.prog.keyLits (d + 1) 3 [c2] with
          | none => simp [e] at h
          | some t => exact ⟨t, rfl⟩
        simp [e2] at h
        obtain ⟨y2, rfl, w2⟩ := hc c2 ⟨t2, e2⟩
        clear e2
        obtain ⟨t3, e3⟩ : ∃ t, Tryd.prog.keyLits (d + 1) 3 [c3] = some t := by
          cases e : Tryd.prog.keyLits (d + 1) 3 [c3] with
          | none => simp [e] at h
          | some t => exact ⟨t, rfl⟩
        simp [e3] at h
        obtain ⟨y3, rfl, w3⟩ := hc c3 ⟨t3, e3⟩
        clear e3
        refine ⟨[y0, y1, y2, y3], ⟨rfl, by simp [w0, w1, w2, w3]⟩, rfl, ?_⟩
        have := keyW_some [y0, y1, y2, y3] ⟨rfl, by simp [w0, w1, w2, w3]⟩
        exact Option.some.inj (h0.symm.trans this)
    | _ => simp [Value.formed, Tryd.underlying102] at hf
  · cases h
theorem einjW (x y : List Int) (h : encW x = encW y) : x = y := by
  unfold encW at h
  injection h with h
  have h2 := congrArg Array.toList h
  simp only at h2
  exact (List.map_inj_right (fun a b e => by injection e)).1 h2
theorem keyRdW : KeyRd Tryd.prog 102 encW litW okW where
  law := lawW
  key := keyW_some
  inj x y hx hy h := by
    have h1 := keyW_some x hx
    have h2 := keyW_some y hy
    rw [← h] at h2
    exact einjW _ _ (lawW.inj h1 h2)
  einj := einjW
  inv := keyW_inv
end Go.Proofs.YtmeamgeojcbljaaDoor
