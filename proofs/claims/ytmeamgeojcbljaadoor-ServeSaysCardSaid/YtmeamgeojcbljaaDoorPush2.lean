/- append of one number that lies anywhere, at a step of a region that draws (as in Tenants). -/
import Derived.Test.YtmeamgeojcbljaaDoorInts
import Derived.Test.YtmeamgeojcbljaaDoorInfo
import Derived.Laws.OwnMore
import Derived.Shelf.RegionOpenPlain
import Derived.Deep.RegionLaw
import Derived.Deep.AppendLies
namespace Go.Proofs.YtmeamgeojcbljaaDoor
open Go.ChangeShapes Go.WideShapes Go.ChangeAt Go.RowKit

/-- append of one number that lies anywhere, at a step of a region that draws; where the new slice lies. -/
theorem step_push2N {P : Program} (w : World) {ops : Array Oper} {o : Oper} {a : Act} {K : Act → World → Prop} {Q : Exit → Act → World → Prop} {E : Prop} (hgd : o.guard = none) (s x : Operand) (t : TypeId)
    (ho : o.op = .call { callee := .builtin .append, args := #[s, x], argTypes := #[t, t] })
    (base : Nat) (e : TypeId) (z : Value) (bytes : Nat) (ht : P.underlying t = some (.slice e)) (hi : (P.info? e).map (fun i => (i.zero, i.size, i.bytes)) = some (some z, 1, bytes))
    (hzs : z.cells.size = 1) (hb8 : bytes ≤ 16)
    (A : Option Addr) (n c : Nat) (xs : List Value) (hs : a.eval s = .slice A n c) (hown : Row w base e (.slice A n c) n xs)
    (g : Nat) (y : Int) (hx : a.eval x = .slice (some ⟨g, 0, none⟩) 1 1) (hc : w.cell? ⟨g, 0, none⟩ = some (.int .i64 y))
    (hn : n ≤ 1048576) (hbase : base ≤ w.heap.size)
    (h : ∀ g' c' w', Row w' base e (.slice (some ⟨g', 0, none⟩) (n + 1) c') (n + 1) (xs ++ [.int .i64 y]) → w.grownBy w' (Value.slice A n c).ownBlock → Far w.heap.size (Value.slice A n c).ownBlock (some g') → K (a.put o.dst (.slice (some ⟨g', 0, none⟩) (n + 1) c')) w') :
    if Region.wanted o (yielded ops a.tmps) = true then Oper.wp P o a w K Q else E := by
  obtain ⟨i0, hi0, hz0, hz1, hz2⟩ := info_parts hi
  have hby : (n + 1) * bytes ≤ 140737488355328 := Nat.le_trans (Nat.mul_le_mul (show n + 1 ≤ 1048577 by omega) hb8) (by decide)
  refine step_append_lies _ hgd s x t ho base e i0 z 1 bytes ht hi0 hz0 hz1 hz2 hzs (by omega) (.slice A n c) n xs hs hown ⟨g, 0, none⟩ 1 1 [.int .i64 y] hx rfl ?_ ?_ (by omega) ?_ hby hbase _ rfl ?_
  · intro j u hu
    rcases j with _ | j
    · simp at hu
      subst hu
      rw [show (⟨g, 0, none⟩ : Addr).add 0 = ⟨g, 0, none⟩ from by simp [Addr.add]]
      exact hc
    · simp at hu
  · intro u hu
    simp at hu
    subst hu; rfl
  · simp only [maxLen]; omega
  · intro g' c' w' ho' hg' hl _
    refine h g' c' w' ho' hg' ?_
    rcases hl with hl | hl
    · exact .inl hl.symm
    · exact .inr ⟨g', rfl, by omega⟩
end Go.Proofs.YtmeamgeojcbljaaDoor
