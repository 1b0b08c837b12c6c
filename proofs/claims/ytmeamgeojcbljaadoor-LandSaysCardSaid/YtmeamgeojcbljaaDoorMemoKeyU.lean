/- Keys that are numbers without a sign. -/
import Derived.Test.YtmeamgeojcbljaaDoorMemoMap
import Derived.Test.YtmeamgeojcbljaaDoorInfo
namespace Go.Proofs.YtmeamgeojcbljaaDoor
open Go.RowKit Go.Maps

def encU (x : Int) : Value := .int .u64 x
def litU (x : Int) : Lit := .int .u64 x
def okU (x : Int) : Prop := (Lit.int .u64 x).wf = true
theorem keyRdU : KeyRd Tryd.prog 68 encU litU okU where
  law := int_keyed Tryd.underlying68
  key x hx := keyOf_int_mk Tryd.underlying68 hx
  inj x y _ _ h := by injection h
  einj x y h := by injection h
  inv v l h := by
    obtain ⟨x, rfl, rfl, hx⟩ := keyOf_int_inv Tryd.underlying68 h
    exact ⟨x, hx, rfl, rfl⟩
end Go.Proofs.YtmeamgeojcbljaaDoor
