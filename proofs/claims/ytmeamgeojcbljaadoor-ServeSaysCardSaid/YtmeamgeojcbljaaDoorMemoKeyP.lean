/- Keys that are rows of 3 numbers. -/
import Derived.Test.YtmeamgeojcbljaaDoorMemoMap
import Derived.Test.YtmeamgeojcbljaaDoorInfo
import Derived.DeepKeys4
import Derived.ChangeKeysEq
namespace Go.Proofs.YtmeamgeojcbljaaDoor
open Go.RowKit Go.Maps

def encP (x : List Int) : Value := .agg (x.map (Value.int .i64)).toArray
def litP (x : List Int) : Lit := .string (keyBytes (x.map (Lit.int .i64)))
def okP (x : List Int) : Prop := x.length = 3 ∧ ∀ y ∈ x, (Lit.int .i64 y).wf = true
set_option maxRecDepth 100000 in
theorem ktP : Tryd.prog.keyType 114 = true := by kernel_rfl
theorem coP : Tryd.prog.cellsOf 114 = 3 := by kernel_rfl
theorem ciP : Tryd.prog.cellsOf 3 = 1 := by kernel_rfl
theorem tsP : ∃ d, Tryd.prog.types.size + 1 = d + 1 + 1 := ⟨Tryd.prog.types.size - 1, by kernel_rfl⟩
theorem lawP : Keyed Tryd.prog 114 := Keyed.of_law (deep_law_laid (m := 2) (by kernel_rfl) (by omega) (of_decide_eq_true (by kernel_rfl)) (by kernel_rfl) (by kernel_rfl))
theorem cell1P (d : Nat) (v : Value) : Tryd.prog.keyLits (d + 1) 3 [v] = match v with | .int .i64 n => if (Lit.int .i64 n).wf = true then some [.int .i64 n] else none | _ => none := by
  unfold Program.keyLits
  rw [Tryd.underlying3]
  cases v with
  | int q n => cases q <;> simp
  | _ => simp
set_option maxRecDepth 100000 in
theorem litsP (d : Nat) (v : Value) (cs : Array Value) (hc : v = .agg cs) (hs : cs.size = 3) : Tryd.prog.keyLits (d + 1) 114 v.cells.toList = ((List.range 3).mapM fun i => Tryd.prog.keyLits d 3 ((cs.toList.drop i).take 1)).map List.flatten := by
  subst hc
  conv => lhs; unfold Program.keyLits
  rw [Tryd.underlying114]
  simp only [Value.cells, coP, ciP, Array.length_toList, hs, if_true, Nat.mul_one]
set_option maxRecDepth 100000 in
theorem keyP_some (x : List Int) (h : okP x) : keyOf Tryd.prog 114 (encP x) = some (litP x) := by
  obtain ⟨h1, h2⟩ := h
  match x, h1 with
  | [a0, a1, a2], _ =>
    obtain ⟨d, hd⟩ := tsP
    unfold keyOf
    rw [Tryd.underlying114]
    simp only [ktP, encP, Value.formed, Tryd.underlying114, coP]
    rw [hd, litsP (d + 1) _ _ rfl (by simp)]
    have hw : ∀ y ∈ ([a0, a1, a2] : List Int), (Lit.int .i64 y).wf = true := h2
    simp only [List.mem_cons, List.not_mem_nil, or_false, forall_eq_or_imp, forall_eq] at hw
    simp [List.range, List.range.loop, cell1P, hw, litP]
set_option maxRecDepth 100000 in
theorem keyP_inv (v : Value) (l : Lit) (h : keyOf Tryd.prog 114 v = some l) : ∃ x, okP x ∧ v = encP x ∧ l = litP x := by
  obtain ⟨d, hd⟩ := tsP
  have h0 := h
  unfold keyOf at h
  rw [Tryd.underlying114] at h
  simp only [ktP, Bool.true_and] at h
  split at h
  · rename_i hf
    cases v with
    | agg cs =>
      simp only [Value.formed, Tryd.underlying114, coP, beq_iff_eq] at hf
      rw [hd, litsP (d + 1) _ cs rfl hf] at h
      obtain ⟨cs⟩ := cs
      match cs, hf with
      | [c0, c1, c2], _ =>
        have hc : ∀ c : Value, (∃ t, Tryd.prog.keyLits (d + 1) 3 [c] = some t) → ∃ y, c = .int .i64 y ∧ (Lit.int .i64 y).wf = true := by
          rintro c ⟨t, ht⟩
          rw [cell1P] at ht
          split at ht
          · rename_i n
            split at ht
            · rename_i hw; exact ⟨n, rfl, hw⟩
            · cases ht
          · cases ht
        simp [List.range, List.range.loop] at h
        obtain ⟨t0, e0⟩ : ∃ t, Tryd.prog.keyLits (d + 1) 3 [c0] = some t := by
          cases e : Tryd.prog.keyLits (d + 1) 3 [c0] with
          | none => simp [e] at h
          | some t => exact ⟨t, rfl⟩
        simp [e0] at h
        obtain ⟨y0, rfl, w0⟩ := hc c0 ⟨t0, e0⟩
        clear e0
        obtain ⟨t1, e1⟩ : ∃ t, Tryd.prog.keyLits (d + 1) 3 [c1] = some t := by
          cases e : Tryd.prog.keyLits (d + 1) 3 [c1] with
          | none => simp [e] at h
          | some t => exact ⟨t, rfl⟩
        simp [e1] at h
        obtain ⟨y1, rfl, w1⟩ := hc c1 ⟨t1, e1⟩
        clear e1
        obtain ⟨t2, e2⟩ : ∃ t, Tryd.prog.keyLits (d + 1) 3 [c2] = some t := by
          cases e : Tryd.prog.keyLits (d + 1) 3 [c2] with
          | none => simp [e] at h
          | some t => exact ⟨t, rfl⟩
        simp [e2] at h
        obtain ⟨y2, rfl, w2⟩ := hc c2 ⟨t2, e2⟩
        clear e2
        refine ⟨[y0, y1, y2], ⟨rfl, by simp [w0, w1, w2]⟩, rfl, ?_⟩
        have := keyP_some [y0, y1, y2] ⟨rfl, by simp [w0, w1, w2]⟩
        exact Option.some.inj (h0.symm.trans this)
    | _ => simp [Value.formed, Tryd.underlying114] at hf
  · cases h
theorem einjP (x y : List Int) (h : encP x = encP y) : x = y := by
  unfold encP at h
  injection h with h
  have h2 := congrArg Array.toList h
  simp only at h2
  exact (List.map_inj_right (fun a b e => by injection e)).1 h2
theorem keyRdP : KeyRd Tryd.prog 114 encP litP okP where
  law := lawP
  key := keyP_some
  inj x y hx hy h := by
    have h1 := keyP_some x hx
    have h2 := keyP_some y hy
    rw [← h] at h2
    exact einjP _ _ (lawP.inj h1 h2)
  einj := einjP
  inv := keyP_inv
end Go.Proofs.YtmeamgeojcbljaaDoor
