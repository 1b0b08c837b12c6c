/- Plain words on a store that lets go of what came first; no program in sight. -/
import Derived.Test.YtgljpdfmejganaaLists
namespace Go.Proofs.Ytgljpdfmejganaa
def fifoStep (slots : Nat) (s : List Bool × List Int) (p : Int) : List Bool × List Int :=
  if p ∈ s.2 then (s.1 ++ [true], s.2) else (s.1 ++ [false], (if s.2.length = slots then s.2.drop 1 else s.2) ++ [p])
def fifoRun (slots : Nat) (l : List Int) : List Bool × List Int := l.foldl (fifoStep slots) ([], [])
theorem fifoRun_snoc (slots : Nat) (l : List Int) (y : Int) : fifoRun slots (l ++ [y]) = fifoStep slots (fifoRun slots l) y := by unfold fifoRun; rw [List.foldl_append]; rfl
end Go.Proofs.Ytgljpdfmejganaa
