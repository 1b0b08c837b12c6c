/-
  No cell of these rows narrows 'for every input' (looked for: loops, veiled, ifaces, maps, wideKeys, modest, calm, conditions, laid).
  DERIVED. THE GIVEN ROWS OF THIS SEAT. 3 by the template 'for every input the law returns true; each argument reads behind the call as it read before'; 0 by the template 'total and deterministic' (their statements: YtjonbbmgjiegcaaTotals.lean).
  GIVEN WITH THE SEED: the statements are not yours to turn. If you find one false, say at which input.
  Laid BY PROGRAM, IN A SANDBOX (cutbox-rows.mjs): the forced cells as the released guide's own fill.sh prints them over the translation edaa50815549901a… (all of the seat's roots in one cut). By AI agents, Wed Nov 11 2026. No macro, syntax, notation, axiom, sorry.
-/
import Derived.Test.YtjonbbmgjiegcaaChecked
import GoSem.Claim
import GoSem.ClaimJoined
import GoSem.ClaimMapViews
import Derived.JoinedTies
import Derived.KernelRfl
namespace Go.Proofs.Ytjonbbmgjiegcaa
/- THE CELL 'sum', in the pinned program and in every row, IS THE sha256 OF THE DUMP (.gsa) THAT YtjonbbmgjiegcaaProg.lean LOADS. Nothing in Lean hashes anything: it is a label: what it is worth is what the hold of that sum in a sandbox is worth. -/
noncomputable def Try.pinned : Pinned := { name := "ytjonbbmgjiegcaa", sum := "edaa50815549901ae8ddf4c70e14e4c5131b5d02eef9ca2c6a6940f271387a92", checked := Try.checked }
namespace Rows
def none {H : Type} : Left H := { results := [], args := [] }

/-- 'larderwicklaw2.WsetGrows': WHATEVER THE INPUT: true; the input reads as it did. -/
def wsetGrowsSpec : ChangeSpec := { name := "wsetGrows", fn := fun _ => fun
  | [d1, d2] => { results := [.lit (.bool true)], args := [d1, d2] }
  | _ => none }
def wsetGrowsRow : OpenClaim := { program := "ytjonbbmgjiegcaa", sum := "edaa50815549901ae8ddf4c70e14e4c5131b5d02eef9ca2c6a6940f271387a92", func := "larderwick/larderwicklaw2.WsetGrows", spec := "wsetGrows", apart := false }
def WsetGrowsSaid : Prop := wsetGrowsRow.holds Try.pinned (OpenSpec.ofChange wsetGrowsSpec)

/-- ITS FALSE NEIGHBOUR: 'it returns false'. Refute it at one input. -/
def wsetGrowsWrong : ChangeSpec := { name := "wsetGrows", fn := fun _ => fun
  | [d1, d2] => { results := [.lit (.bool false)], args := [d1, d2] }
  | _ => none }
def WsetGrowsWrongFalsely : Prop := wsetGrowsRow.holds Try.pinned (OpenSpec.ofChange wsetGrowsWrong)

/-- 'larderwicklaw2.WsetSlope': WHATEVER THE INPUT: true; the input reads as it did. -/
def wsetSlopeSpec : ChangeSpec := { name := "wsetSlope", fn := fun _ => fun
  | [d1, d2] => { results := [.lit (.bool true)], args := [d1, d2] }
  | _ => none }
def wsetSlopeRow : OpenClaim := { program := "ytjonbbmgjiegcaa", sum := "edaa50815549901ae8ddf4c70e14e4c5131b5d02eef9ca2c6a6940f271387a92", func := "larderwick/larderwicklaw2.WsetSlope", spec := "wsetSlope", apart := false }
def WsetSlopeSaid : Prop := wsetSlopeRow.holds Try.pinned (OpenSpec.ofChange wsetSlopeSpec)

/-- ITS FALSE NEIGHBOUR: 'it returns false'. Refute it at one input. -/
def wsetSlopeWrong : ChangeSpec := { name := "wsetSlope", fn := fun _ => fun
  | [d1, d2] => { results := [.lit (.bool false)], args := [d1, d2] }
  | _ => none }
def WsetSlopeWrongFalsely : Prop := wsetSlopeRow.holds Try.pinned (OpenSpec.ofChange wsetSlopeWrong)

/-- 'larderwicklaw2.WsetWhole': WHATEVER THE INPUT: true; the input reads as it did. -/
def wsetWholeSpec : ChangeSpec := { name := "wsetWhole", fn := fun _ => fun
  | [d] => { results := [.lit (.bool true)], args := [d] }
  | _ => none }
def wsetWholeRow : OpenClaim := { program := "ytjonbbmgjiegcaa", sum := "edaa50815549901ae8ddf4c70e14e4c5131b5d02eef9ca2c6a6940f271387a92", func := "larderwick/larderwicklaw2.WsetWhole", spec := "wsetWhole", apart := false }
def WsetWholeSaid : Prop := wsetWholeRow.holds Try.pinned (OpenSpec.ofChange wsetWholeSpec)

/-- ITS FALSE NEIGHBOUR: 'it returns false'. Refute it at one input. -/
def wsetWholeWrong : ChangeSpec := { name := "wsetWhole", fn := fun _ => fun
  | [d] => { results := [.lit (.bool false)], args := [d] }
  | _ => none }
def WsetWholeWrongFalsely : Prop := wsetWholeRow.holds Try.pinned (OpenSpec.ofChange wsetWholeWrong)

/- THE SECOND FORM. 'bulk': how many values and letters a reading holds, each counted each time it is reached (what is shared counts as often as it is met; a slice's spare places count too). A statement '..UptoSaid' is the law's where the arguments, and the package variables that the reading takes, are together of bulk at most 1048576: NARROWER than '..Said'. Prove '..Said' where nothing that the law and all that it calls make is longer than what came in: it says more and counts as full. Else prove '..UptoSaid'. A law counts once. -/
mutual
def uptoBulk {H : Type} : DataW H → Nat
  | .lit (.string bytes) => bytes.length + 1
  | .lit _ => 1
  | .nil => 1
  | .ptr d => uptoBulk d + 1
  | .slice elems spare => uptoBulkAll elems + uptoBulkAll spare + 1
  | .agg parts => uptoBulkAll parts + 1
  | .iface _ d => uptoBulk d + 1
  | .map entries => uptoBulkEntries entries + 1
  | .held _ => 1
def uptoBulkAll {H : Type} : List (DataW H) → Nat
  | [] => 0
  | d :: r => uptoBulk d + uptoBulkAll r
def uptoBulkEntries {H : Type} : List (Lit × DataW H) → Nat
  | [] => 0
  | x :: r => uptoBulkEntry x + uptoBulkEntries r
def uptoBulkEntry {H : Type} : Lit × DataW H → Nat
  | (.string bytes, d) => bytes.length + uptoBulk d + 1
  | (_, d) => uptoBulk d + 1
 end
def uptoSmall : (H : Type) → List (DataW H) → Bool := fun _ ds => decide (uptoBulkAll ds ≤ 1048576)
def OpenSpec.upto (s : _root_.Go.ChangeSpec) : _root_.Go.OpenSpec := { _root_.Go.OpenSpec.ofChange s with cond := some uptoSmall }

/-- 'larderwicklaw2.WsetGrows', WHERE WHAT IT READS IS OF BULK AT MOST 1048576: true; the input reads as it did. -/
def wsetGrowsUptoRow : OpenClaim := { program := "ytjonbbmgjiegcaa", sum := "edaa50815549901ae8ddf4c70e14e4c5131b5d02eef9ca2c6a6940f271387a92", func := "larderwick/larderwicklaw2.WsetGrows", spec := "wsetGrows", apart := false, narrowed := true }
def WsetGrowsUptoSaid : Prop := wsetGrowsUptoRow.holds Try.pinned (OpenSpec.upto wsetGrowsSpec)

/-- 'larderwicklaw2.WsetSlope', WHERE WHAT IT READS IS OF BULK AT MOST 1048576: true; the input reads as it did. -/
def wsetSlopeUptoRow : OpenClaim := { program := "ytjonbbmgjiegcaa", sum := "edaa50815549901ae8ddf4c70e14e4c5131b5d02eef9ca2c6a6940f271387a92", func := "larderwick/larderwicklaw2.WsetSlope", spec := "wsetSlope", apart := false, narrowed := true }
def WsetSlopeUptoSaid : Prop := wsetSlopeUptoRow.holds Try.pinned (OpenSpec.upto wsetSlopeSpec)

/-- 'larderwicklaw2.WsetWhole', WHERE WHAT IT READS IS OF BULK AT MOST 1048576: true; the input reads as it did. -/
def wsetWholeUptoRow : OpenClaim := { program := "ytjonbbmgjiegcaa", sum := "edaa50815549901ae8ddf4c70e14e4c5131b5d02eef9ca2c6a6940f271387a92", func := "larderwick/larderwicklaw2.WsetWhole", spec := "wsetWhole", apart := false, narrowed := true }
def WsetWholeUptoSaid : Prop := wsetWholeUptoRow.holds Try.pinned (OpenSpec.upto wsetWholeSpec)

end Rows
end Go.Proofs.Ytjonbbmgjiegcaa
