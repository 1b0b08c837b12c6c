/- Keys that are numbers without a sign. -/
import Derived.Test.YtgljpdfmejganaaMemoMap
import Derived.Test.YtgljpdfmejganaaInfo
namespace Go.Proofs.Ytgljpdfmejganaa
open Go.RowKit Go.Maps

def encU (x : Int) : Value := .int .u64 x
def litU (x : Int) : Lit := .int .u64 x
def okU (x : Int) : Prop := (Lit.int .u64 x).wf = true
theorem keyRdU : KeyRd Try.prog 65 encU litU okU where
  law := int_keyed Try.underlying65
  key x hx := keyOf_int_mk Try.underlying65 hx
  inj x y _ _ h := by injection h
  einj x y h := by injection h
  inv v l h := by
    obtain ⟨x, rfl, rfl, hx⟩ := keyOf_int_inv Try.underlying65 h
    exact ⟨x, hx, rfl, rfl⟩
end Go.Proofs.Ytgljpdfmejganaa
