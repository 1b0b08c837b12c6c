/-
  No cell of these rows narrows 'for every input' (looked for: loops, veiled, ifaces, maps, wideKeys, modest, calm, conditions, laid).
  DERIVED. THE GIVEN ROWS OF THIS SEAT. 5 by the template 'for every input the law returns true; each argument reads behind the call as it read before'; 0 by the template 'total and deterministic' (their statements: YtdhbglkfhfimkaaTotals.lean).
  GIVEN WITH THE SEED: the statements are not yours to turn. If you find one false, say at which input.
  Laid BY PROGRAM, IN A SANDBOX (cutbox-rows.mjs): the forced cells as the released guide's own fill.sh prints them over the translation 3fb147f192361844… (all of the seat's roots in one cut). By AI agents, Wed Nov 11 2026. No macro, syntax, notation, axiom, sorry.
-/
import Derived.Test.YtdhbglkfhfimkaaChecked
import GoSem.Claim
import GoSem.ClaimJoined
import GoSem.ClaimMapViews
import Derived.JoinedTies
import Derived.KernelRfl
namespace Go.Proofs.Ytdhbglkfhfimkaa
/- THE CELL 'sum', in the pinned program and in every row, IS THE sha256 OF THE DUMP (.gsa) THAT YtdhbglkfhfimkaaProg.lean LOADS. Nothing in Lean hashes anything: it is a label: what it is worth is what the hold of that sum in a sandbox is worth. -/
noncomputable def Try.pinned : Pinned := { name := "ytdhbglkfhfimkaa", sum := "3fb147f192361844559b92d64d0608763c748aa68b7ebfcf09571f25b98bae0e", checked := Try.checked }
namespace Rows
def none {H : Type} : Left H := { results := [], args := [] }

/-- 'larderwicklaw1.PhaseParts': WHATEVER THE INPUT: true; the input reads as it did. -/
def phasePartsSpec : ChangeSpec := { name := "phaseParts", fn := fun _ => fun
  | [d1, d2] => { results := [.lit (.bool true)], args := [d1, d2] }
  | _ => none }
def phasePartsRow : OpenClaim := { program := "ytdhbglkfhfimkaa", sum := "3fb147f192361844559b92d64d0608763c748aa68b7ebfcf09571f25b98bae0e", func := "larderwick/larderwicklaw1.PhaseParts", spec := "phaseParts", apart := false }
def PhasePartsSaid : Prop := phasePartsRow.holds Try.pinned (OpenSpec.ofChange phasePartsSpec)

/-- ITS FALSE NEIGHBOUR: 'it returns false'. Refute it at one input. -/
def phasePartsWrong : ChangeSpec := { name := "phaseParts", fn := fun _ => fun
  | [d1, d2] => { results := [.lit (.bool false)], args := [d1, d2] }
  | _ => none }
def PhasePartsWrongFalsely : Prop := phasePartsRow.holds Try.pinned (OpenSpec.ofChange phasePartsWrong)

/-- 'larderwicktop.TopWindow': WHATEVER THE INPUT: true; the input reads as it did. -/
def topWindowSpec : ChangeSpec := { name := "topWindow", fn := fun _ => fun
  | [d1, d2] => { results := [.lit (.bool true)], args := [d1, d2] }
  | _ => none }
def topWindowRow : OpenClaim := { program := "ytdhbglkfhfimkaa", sum := "3fb147f192361844559b92d64d0608763c748aa68b7ebfcf09571f25b98bae0e", func := "larderwick/larderwicktop.TopWindow", spec := "topWindow", inPlace := ["slices.overlaps[int]"], apart := false }
def TopWindowSaid : Prop := topWindowRow.holds Try.pinned (OpenSpec.ofChange topWindowSpec)

/-- ITS FALSE NEIGHBOUR: 'it returns false'. Refute it at one input. -/
def topWindowWrong : ChangeSpec := { name := "topWindow", fn := fun _ => fun
  | [d1, d2] => { results := [.lit (.bool false)], args := [d1, d2] }
  | _ => none }
def TopWindowWrongFalsely : Prop := topWindowRow.holds Try.pinned (OpenSpec.ofChange topWindowWrong)

/-- 'larderwicklaw1.StackFalls': WHATEVER THE INPUT: true; the input reads as it did. -/
def stackFallsSpec : ChangeSpec := { name := "stackFalls", fn := fun _ => fun
  | [d] => { results := [.lit (.bool true)], args := [d] }
  | _ => none }
def stackFallsRow : OpenClaim := { program := "ytdhbglkfhfimkaa", sum := "3fb147f192361844559b92d64d0608763c748aa68b7ebfcf09571f25b98bae0e", func := "larderwick/larderwicklaw1.StackFalls", spec := "stackFalls", inPlace := ["slices.overlaps[int]"], apart := false }
def StackFallsSaid : Prop := stackFallsRow.holds Try.pinned (OpenSpec.ofChange stackFallsSpec)

/-- ITS FALSE NEIGHBOUR: 'it returns false'. Refute it at one input. -/
def stackFallsWrong : ChangeSpec := { name := "stackFalls", fn := fun _ => fun
  | [d] => { results := [.lit (.bool false)], args := [d] }
  | _ => none }
def StackFallsWrongFalsely : Prop := stackFallsRow.holds Try.pinned (OpenSpec.ofChange stackFallsWrong)

/-- 'larderwicklaw1.StackCurve': WHATEVER THE INPUT: true; the input reads as it did. -/
def stackCurveSpec : ChangeSpec := { name := "stackCurve", fn := fun _ => fun
  | [d1, d2] => { results := [.lit (.bool true)], args := [d1, d2] }
  | _ => none }
def stackCurveRow : OpenClaim := { program := "ytdhbglkfhfimkaa", sum := "3fb147f192361844559b92d64d0608763c748aa68b7ebfcf09571f25b98bae0e", func := "larderwick/larderwicklaw1.StackCurve", spec := "stackCurve", inPlace := ["slices.overlaps[int]"], apart := false }
def StackCurveSaid : Prop := stackCurveRow.holds Try.pinned (OpenSpec.ofChange stackCurveSpec)

/-- ITS FALSE NEIGHBOUR: 'it returns false'. Refute it at one input. -/
def stackCurveWrong : ChangeSpec := { name := "stackCurve", fn := fun _ => fun
  | [d1, d2] => { results := [.lit (.bool false)], args := [d1, d2] }
  | _ => none }
def StackCurveWrongFalsely : Prop := stackCurveRow.holds Try.pinned (OpenSpec.ofChange stackCurveWrong)

/-- 'larderwicklaw1.PhaseFew': WHATEVER THE INPUT: true; the input reads as it did. -/
def phaseFewSpec : ChangeSpec := { name := "phaseFew", fn := fun _ => fun
  | [d1, d2, d3] => { results := [.lit (.bool true)], args := [d1, d2, d3] }
  | _ => none }
def phaseFewRow : OpenClaim := { program := "ytdhbglkfhfimkaa", sum := "3fb147f192361844559b92d64d0608763c748aa68b7ebfcf09571f25b98bae0e", func := "larderwick/larderwicklaw1.PhaseFew", spec := "phaseFew", inPlace := ["slices.overlaps[int]"], unfollowed := true, recurses := true, apart := false }
def PhaseFewSaid : Prop := phaseFewRow.holds Try.pinned (OpenSpec.ofChange phaseFewSpec)

/-- ITS FALSE NEIGHBOUR: 'it returns false'. Refute it at one input. -/
def phaseFewWrong : ChangeSpec := { name := "phaseFew", fn := fun _ => fun
  | [d1, d2, d3] => { results := [.lit (.bool false)], args := [d1, d2, d3] }
  | _ => none }
def PhaseFewWrongFalsely : Prop := phaseFewRow.holds Try.pinned (OpenSpec.ofChange phaseFewWrong)

/- THE SECOND FORM. 'bulk': how many values and letters a reading holds, each counted each time it is reached (what is shared counts as often as it is met; a slice's spare places count too). A statement '..UptoSaid' is the law's where the arguments, and the package variables that the reading takes, are together of bulk at most 1048576: NARROWER than '..Said'. Prove '..Said' where nothing that the law and all that it calls make is longer than what came in: it says more and counts as full. Else prove '..UptoSaid'. A law counts once. -/
mutual
def uptoBulk {H : Type} : DataW H → Nat
  | .lit (.string bytes) => bytes.length + 1
  | .lit _ => 1
  | .nil => 1
  | .ptr d => uptoBulk d + 1
  | .slice elems spare => uptoBulkAll elems + uptoBulkAll spare + 1
  | .agg parts => uptoBulkAll parts + 1
  | .iface _ d => uptoBulk d + 1
  | .map entries => uptoBulkEntries entries + 1
  | .held _ => 1
def uptoBulkAll {H : Type} : List (DataW H) → Nat
  | [] => 0
  | d :: r => uptoBulk d + uptoBulkAll r
def uptoBulkEntries {H : Type} : List (Lit × DataW H) → Nat
  | [] => 0
  | x :: r => uptoBulkEntry x + uptoBulkEntries r
def uptoBulkEntry {H : Type} : Lit × DataW H → Nat
  | (.string bytes, d) => bytes.length + uptoBulk d + 1
  | (_, d) => uptoBulk d + 1
 end
def uptoSmall : (H : Type) → List (DataW H) → Bool := fun _ ds => decide (uptoBulkAll ds ≤ 1048576)
def OpenSpec.upto (s : _root_.Go.ChangeSpec) : _root_.Go.OpenSpec := { _root_.Go.OpenSpec.ofChange s with cond := some uptoSmall }

/-- 'larderwicklaw1.PhaseParts', WHERE WHAT IT READS IS OF BULK AT MOST 1048576: true; the input reads as it did. -/
def phasePartsUptoRow : OpenClaim := { program := "ytdhbglkfhfimkaa", sum := "3fb147f192361844559b92d64d0608763c748aa68b7ebfcf09571f25b98bae0e", func := "larderwick/larderwicklaw1.PhaseParts", spec := "phaseParts", apart := false, narrowed := true }
def PhasePartsUptoSaid : Prop := phasePartsUptoRow.holds Try.pinned (OpenSpec.upto phasePartsSpec)

/-- 'larderwicktop.TopWindow', WHERE WHAT IT READS IS OF BULK AT MOST 1048576: true; the input reads as it did. -/
def topWindowUptoRow : OpenClaim := { program := "ytdhbglkfhfimkaa", sum := "3fb147f192361844559b92d64d0608763c748aa68b7ebfcf09571f25b98bae0e", func := "larderwick/larderwicktop.TopWindow", spec := "topWindow", inPlace := ["slices.overlaps[int]"], apart := false, narrowed := true }
def TopWindowUptoSaid : Prop := topWindowUptoRow.holds Try.pinned (OpenSpec.upto topWindowSpec)

/-- 'larderwicklaw1.StackFalls', WHERE WHAT IT READS IS OF BULK AT MOST 1048576: true; the input reads as it did. -/
def stackFallsUptoRow : OpenClaim := { program := "ytdhbglkfhfimkaa", sum := "3fb147f192361844559b92d64d0608763c748aa68b7ebfcf09571f25b98bae0e", func := "larderwick/larderwicklaw1.StackFalls", spec := "stackFalls", inPlace := ["slices.overlaps[int]"], apart := false, narrowed := true }
def StackFallsUptoSaid : Prop := stackFallsUptoRow.holds Try.pinned (OpenSpec.upto stackFallsSpec)

/-- 'larderwicklaw1.StackCurve', WHERE WHAT IT READS IS OF BULK AT MOST 1048576: true; the input reads as it did. -/
def stackCurveUptoRow : OpenClaim := { program := "ytdhbglkfhfimkaa", sum := "3fb147f192361844559b92d64d0608763c748aa68b7ebfcf09571f25b98bae0e", func := "larderwick/larderwicklaw1.StackCurve", spec := "stackCurve", inPlace := ["slices.overlaps[int]"], apart := false, narrowed := true }
def StackCurveUptoSaid : Prop := stackCurveUptoRow.holds Try.pinned (OpenSpec.upto stackCurveSpec)

/-- 'larderwicklaw1.PhaseFew', WHERE WHAT IT READS IS OF BULK AT MOST 1048576: true; the input reads as it did. -/
def phaseFewUptoRow : OpenClaim := { program := "ytdhbglkfhfimkaa", sum := "3fb147f192361844559b92d64d0608763c748aa68b7ebfcf09571f25b98bae0e", func := "larderwick/larderwicklaw1.PhaseFew", spec := "phaseFew", inPlace := ["slices.overlaps[int]"], unfollowed := true, recurses := true, apart := false, narrowed := true }
def PhaseFewUptoSaid : Prop := phaseFewUptoRow.holds Try.pinned (OpenSpec.upto phaseFewSpec)

end Rows
end Go.Proofs.Ytdhbglkfhfimkaa
