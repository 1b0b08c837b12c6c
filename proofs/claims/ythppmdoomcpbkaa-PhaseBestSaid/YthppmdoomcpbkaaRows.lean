/-
  No cell of these rows narrows 'for every input' (looked for: loops, veiled, ifaces, maps, wideKeys, modest, calm, conditions, laid).
  DERIVED. THE GIVEN ROWS OF THIS SEAT. 4 by the template 'for every input the law returns true; each argument reads behind the call as it read before'; 0 by the template 'total and deterministic' (their statements: YthppmdoomcpbkaaTotals.lean).
  GIVEN WITH THE SEED: the statements are not yours to turn. If you find one false, say at which input.
  Laid BY PROGRAM, IN A SANDBOX (cutbox-rows.mjs): the forced cells as the released guide's own fill.sh prints them over the translation f1cf7df6847203a1… (all of the seat's roots in one cut). By AI agents, Wed Nov 11 2026. No macro, syntax, notation, axiom, sorry.
-/
import Derived.Test.YthppmdoomcpbkaaChecked
import GoSem.Claim
import GoSem.ClaimJoined
import GoSem.ClaimMapViews
import Derived.JoinedTies
import Derived.KernelRfl
namespace Go.Proofs.Ythppmdoomcpbkaa
/- THE CELL 'sum', in the pinned program and in every row, IS THE sha256 OF THE DUMP (.gsa) THAT YthppmdoomcpbkaaProg.lean LOADS. Nothing in Lean hashes anything: it is a label: what it is worth is what the hold of that sum in a sandbox is worth. -/
noncomputable def Try.pinned : Pinned := { name := "ythppmdoomcpbkaa", sum := "f1cf7df6847203a139f3a959b90c9fc4eab1137b071df0da7144e14d8995bfd2", checked := Try.checked }
namespace Rows
def none {H : Type} : Left H := { results := [], args := [] }

/-- 'larderwicktop.TopCurve': WHATEVER THE INPUT: true; the input reads as it did. -/
def topCurveSpec : ChangeSpec := { name := "topCurve", fn := fun _ => fun
  | [d1, d2] => { results := [.lit (.bool true)], args := [d1, d2] }
  | _ => none }
def topCurveRow : OpenClaim := { program := "ythppmdoomcpbkaa", sum := "f1cf7df6847203a139f3a959b90c9fc4eab1137b071df0da7144e14d8995bfd2", func := "larderwick/larderwicktop.TopCurve", spec := "topCurve", inPlace := ["slices.overlaps[int]"], unfollowed := true, recurses := true, apart := false }
def TopCurveSaid : Prop := topCurveRow.holds Try.pinned (OpenSpec.ofChange topCurveSpec)

/-- ITS FALSE NEIGHBOUR: 'it returns false'. Refute it at one input. -/
def topCurveWrong : ChangeSpec := { name := "topCurve", fn := fun _ => fun
  | [d1, d2] => { results := [.lit (.bool false)], args := [d1, d2] }
  | _ => none }
def TopCurveWrongFalsely : Prop := topCurveRow.holds Try.pinned (OpenSpec.ofChange topCurveWrong)

/-- 'larderwicklaw1.FifoOne': WHATEVER THE INPUT: true; the input reads as it did. -/
def fifoOneSpec : ChangeSpec := { name := "fifoOne", fn := fun _ => fun
  | [d] => { results := [.lit (.bool true)], args := [d] }
  | _ => none }
def fifoOneRow : OpenClaim := { program := "ythppmdoomcpbkaa", sum := "f1cf7df6847203a139f3a959b90c9fc4eab1137b071df0da7144e14d8995bfd2", func := "larderwick/larderwicklaw1.FifoOne", spec := "fifoOne", inPlace := ["slices.overlaps[int]"], unfollowed := true, recurses := true, apart := false }
def FifoOneSaid : Prop := fifoOneRow.holds Try.pinned (OpenSpec.ofChange fifoOneSpec)

/-- ITS FALSE NEIGHBOUR: 'it returns false'. Refute it at one input. -/
def fifoOneWrong : ChangeSpec := { name := "fifoOne", fn := fun _ => fun
  | [d] => { results := [.lit (.bool false)], args := [d] }
  | _ => none }
def FifoOneWrongFalsely : Prop := fifoOneRow.holds Try.pinned (OpenSpec.ofChange fifoOneWrong)

/-- 'larderwicklaw1.PhaseBest': WHATEVER THE INPUT: true; the input reads as it did. -/
def phaseBestSpec : ChangeSpec := { name := "phaseBest", fn := fun _ => fun
  | [d1, d2, d3, d4] => { results := [.lit (.bool true)], args := [d1, d2, d3, d4] }
  | _ => none }
def phaseBestRow : OpenClaim := { program := "ythppmdoomcpbkaa", sum := "f1cf7df6847203a139f3a959b90c9fc4eab1137b071df0da7144e14d8995bfd2", func := "larderwick/larderwicklaw1.PhaseBest", spec := "phaseBest", inPlace := ["slices.overlaps[int]"], unfollowed := true, recurses := true, apart := false }
def PhaseBestSaid : Prop := phaseBestRow.holds Try.pinned (OpenSpec.ofChange phaseBestSpec)

/-- ITS FALSE NEIGHBOUR: 'it returns false'. Refute it at one input. -/
def phaseBestWrong : ChangeSpec := { name := "phaseBest", fn := fun _ => fun
  | [d1, d2, d3, d4] => { results := [.lit (.bool false)], args := [d1, d2, d3, d4] }
  | _ => none }
def PhaseBestWrongFalsely : Prop := phaseBestRow.holds Try.pinned (OpenSpec.ofChange phaseBestWrong)

/-- 'larderwicktop.TopPhases': WHATEVER THE INPUT: true; the input reads as it did. -/
def topPhasesSpec : ChangeSpec := { name := "topPhases", fn := fun _ => fun
  | [d1, d2] => { results := [.lit (.bool true)], args := [d1, d2] }
  | _ => none }
def topPhasesRow : OpenClaim := { program := "ythppmdoomcpbkaa", sum := "f1cf7df6847203a139f3a959b90c9fc4eab1137b071df0da7144e14d8995bfd2", func := "larderwick/larderwicktop.TopPhases", spec := "topPhases", inPlace := ["slices.overlaps[int]"], unfollowed := true, recurses := true, apart := false }
def TopPhasesSaid : Prop := topPhasesRow.holds Try.pinned (OpenSpec.ofChange topPhasesSpec)

/-- ITS FALSE NEIGHBOUR: 'it returns false'. Refute it at one input. -/
def topPhasesWrong : ChangeSpec := { name := "topPhases", fn := fun _ => fun
  | [d1, d2] => { results := [.lit (.bool false)], args := [d1, d2] }
  | _ => none }
def TopPhasesWrongFalsely : Prop := topPhasesRow.holds Try.pinned (OpenSpec.ofChange topPhasesWrong)

/- THE SECOND FORM. 'bulk': how many values and letters a reading holds, each counted each time it is reached (what is shared counts as often as it is met; a slice's spare places count too). A statement '..UptoSaid' is the law's where the arguments, and the package variables that the reading takes, are together of bulk at most 1048576: NARROWER than '..Said'. Prove '..Said' where nothing that the law and all that it calls make is longer than what came in: it says more and counts as full. Else prove '..UptoSaid'. A law counts once. -/
mutual
def uptoBulk {H : Type} : DataW H → Nat
  | .lit (.string bytes) => bytes.length + 1
  | .lit _ => 1
  | .nil => 1
  | .ptr d => uptoBulk d + 1
  | .slice elems spare => uptoBulkAll elems + uptoBulkAll spare + 1
  | .agg parts => uptoBulkAll parts + 1
  | .iface _ d => uptoBulk d + 1
  | .map entries => uptoBulkEntries entries + 1
  | .held _ => 1
def uptoBulkAll {H : Type} : List (DataW H) → Nat
  | [] => 0
  | d :: r => uptoBulk d + uptoBulkAll r
def uptoBulkEntries {H : Type} : List (Lit × DataW H) → Nat
  | [] => 0
  | x :: r => uptoBulkEntry x + uptoBulkEntries r
def uptoBulkEntry {H : Type} : Lit × DataW H → Nat
  | (.string bytes, d) => bytes.length + uptoBulk d + 1
  | (_, d) => uptoBulk d + 1
 end
def uptoSmall : (H : Type) → List (DataW H) → Bool := fun _ ds => decide (uptoBulkAll ds ≤ 1048576)
def OpenSpec.upto (s : _root_.Go.ChangeSpec) : _root_.Go.OpenSpec := { _root_.Go.OpenSpec.ofChange s with cond := some uptoSmall }

/-- 'larderwicktop.TopCurve', WHERE WHAT IT READS IS OF BULK AT MOST 1048576: true; the input reads as it did. -/
def topCurveUptoRow : OpenClaim := { program := "ythppmdoomcpbkaa", sum := "f1cf7df6847203a139f3a959b90c9fc4eab1137b071df0da7144e14d8995bfd2", func := "larderwick/larderwicktop.TopCurve", spec := "topCurve", inPlace := ["slices.overlaps[int]"], unfollowed := true, recurses := true, apart := false, narrowed := true }
def TopCurveUptoSaid : Prop := topCurveUptoRow.holds Try.pinned (OpenSpec.upto topCurveSpec)

/-- 'larderwicklaw1.FifoOne', WHERE WHAT IT READS IS OF BULK AT MOST 1048576: true; the input reads as it did. -/
def fifoOneUptoRow : OpenClaim := { program := "ythppmdoomcpbkaa", sum := "f1cf7df6847203a139f3a959b90c9fc4eab1137b071df0da7144e14d8995bfd2", func := "larderwick/larderwicklaw1.FifoOne", spec := "fifoOne", inPlace := ["slices.overlaps[int]"], unfollowed := true, recurses := true, apart := false, narrowed := true }
def FifoOneUptoSaid : Prop := fifoOneUptoRow.holds Try.pinned (OpenSpec.upto fifoOneSpec)

/-- 'larderwicklaw1.PhaseBest', WHERE WHAT IT READS IS OF BULK AT MOST 1048576: true; the input reads as it did. -/
def phaseBestUptoRow : OpenClaim := { program := "ythppmdoomcpbkaa", sum := "f1cf7df6847203a139f3a959b90c9fc4eab1137b071df0da7144e14d8995bfd2", func := "larderwick/larderwicklaw1.PhaseBest", spec := "phaseBest", inPlace := ["slices.overlaps[int]"], unfollowed := true, recurses := true, apart := false, narrowed := true }
def PhaseBestUptoSaid : Prop := phaseBestUptoRow.holds Try.pinned (OpenSpec.upto phaseBestSpec)

/-- 'larderwicktop.TopPhases', WHERE WHAT IT READS IS OF BULK AT MOST 1048576: true; the input reads as it did. -/
def topPhasesUptoRow : OpenClaim := { program := "ythppmdoomcpbkaa", sum := "f1cf7df6847203a139f3a959b90c9fc4eab1137b071df0da7144e14d8995bfd2", func := "larderwick/larderwicktop.TopPhases", spec := "topPhases", inPlace := ["slices.overlaps[int]"], unfollowed := true, recurses := true, apart := false, narrowed := true }
def TopPhasesUptoSaid : Prop := topPhasesUptoRow.holds Try.pinned (OpenSpec.upto topPhasesSpec)

end Rows
end Go.Proofs.Ythppmdoomcpbkaa
