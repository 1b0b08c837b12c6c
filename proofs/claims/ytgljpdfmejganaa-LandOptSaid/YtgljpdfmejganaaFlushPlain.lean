/- Plain laws of a store that lets go of all at once, and of phases; no program in sight. -/
import Derived.Test.YtgljpdfmejganaaSim
namespace Go.Proofs.Ytgljpdfmejganaa

def flushG (s : Nat) (held : List Int) (p : Int) : List Int := if p ∈ held then held else (if held.length = s then [] else held) ++ [p]
def flushRun (s : Nat) (l : List Int) : List Bool × List Int := simG (fun held p => hasB held p) (flushG s) [] l
theorem flush_snd (s : Nat) (l : List Int) : (flushRun s l).2 = l.foldl (flushG s) [] := simG_snd _ _ _ _
theorem flush_len (s : Nat) (l : List Int) : (flushRun s l).1.length = l.length := simG_len _ _ _ _
theorem flush_at (s : Nat) (l : List Int) (k : Nat) (y : Int) (h : l[k]? = some y) : (flushRun s l).1[k]? = some (hasB ((l.take k).foldl (flushG s) []) y) := simG_at _ _ _ l k y h
theorem simG_take_succ {σ : Type} (h : σ → Int → Bool) (g : σ → Int → σ) (s0 : σ) (l : List Int) (k : Nat) (y : Int) (hy : l[k]? = some y) :
    simG h g s0 (l.take (k + 1)) = ((simG h g s0 (l.take k)).1 ++ [h (simG h g s0 (l.take k)).2 y], g (simG h g s0 (l.take k)).2 y) := by
  rw [take_succ_of hy, simG_snoc]
end Go.Proofs.Ytgljpdfmejganaa
