/-
  No cell of these rows narrows 'for every input' (looked for: loops, veiled, ifaces, maps, wideKeys, modest, calm, conditions, laid).
  DERIVED. THE GIVEN ROWS OF THIS SEAT. 4 by the template 'for every input the law returns true; each argument reads behind the call as it read before'; 0 by the template 'total and deterministic' (their statements: YtkgojehbdjkmcaaTotals.lean).
  GIVEN WITH THE SEED: the statements are not yours to turn. If you find one false, say at which input.
  Laid BY PROGRAM, IN A SANDBOX (cutbox-rows.mjs): the forced cells as the released guide's own fill.sh prints them over the translation 9badb94445a43f3e… (all of the seat's roots in one cut). By AI agents, Wed Nov 11 2026. No macro, syntax, notation, axiom, sorry.
-/
import Derived.Test.YtkgojehbdjkmcaaChecked
import GoSem.Claim
import GoSem.ClaimJoined
import GoSem.ClaimMapViews
import Derived.JoinedTies
import Derived.KernelRfl
namespace Go.Proofs.Ytkgojehbdjkmcaa
/- THE CELL 'sum', in the pinned program and in every row, IS THE sha256 OF THE DUMP (.gsa) THAT YtkgojehbdjkmcaaProg.lean LOADS. Nothing in Lean hashes anything: it is a label: what it is worth is what the hold of that sum in a sandbox is worth. -/
noncomputable def Try.pinned : Pinned := { name := "ytkgojehbdjkmcaa", sum := "9badb94445a43f3e1b6d2e1583f485f363f79d4efc3ce438920dae1319a44c3c", checked := Try.checked }
namespace Rows
def none {H : Type} : Left H := { results := [], args := [] }

/-- 'larderwicklaw2.LandYoung': WHATEVER THE INPUT: true; the input reads as it did. -/
def landYoungSpec : ChangeSpec := { name := "landYoung", fn := fun _ => fun
  | [d1, d2, d3, d4] => { results := [.lit (.bool true)], args := [d1, d2, d3, d4] }
  | _ => none }
def landYoungRow : OpenClaim := { program := "ytkgojehbdjkmcaa", sum := "9badb94445a43f3e1b6d2e1583f485f363f79d4efc3ce438920dae1319a44c3c", func := "larderwick/larderwicklaw2.LandYoung", spec := "landYoung", unfollowed := true, recurses := true, apart := false }
def LandYoungSaid : Prop := landYoungRow.holds Try.pinned (OpenSpec.ofChange landYoungSpec)

/-- ITS FALSE NEIGHBOUR: 'it returns false'. Refute it at one input. -/
def landYoungWrong : ChangeSpec := { name := "landYoung", fn := fun _ => fun
  | [d1, d2, d3, d4] => { results := [.lit (.bool false)], args := [d1, d2, d3, d4] }
  | _ => none }
def LandYoungWrongFalsely : Prop := landYoungRow.holds Try.pinned (OpenSpec.ofChange landYoungWrong)

/-- 'larderwicklaw2.LandLeast': WHATEVER THE INPUT: true; the input reads as it did. -/
def landLeastSpec : ChangeSpec := { name := "landLeast", fn := fun _ => fun
  | [d1, d2, d3] => { results := [.lit (.bool true)], args := [d1, d2, d3] }
  | _ => none }
def landLeastRow : OpenClaim := { program := "ytkgojehbdjkmcaa", sum := "9badb94445a43f3e1b6d2e1583f485f363f79d4efc3ce438920dae1319a44c3c", func := "larderwick/larderwicklaw2.LandLeast", spec := "landLeast", unfollowed := true, recurses := true, apart := false }
def LandLeastSaid : Prop := landLeastRow.holds Try.pinned (OpenSpec.ofChange landLeastSpec)

/-- ITS FALSE NEIGHBOUR: 'it returns false'. Refute it at one input. -/
def landLeastWrong : ChangeSpec := { name := "landLeast", fn := fun _ => fun
  | [d1, d2, d3] => { results := [.lit (.bool false)], args := [d1, d2, d3] }
  | _ => none }
def LandLeastWrongFalsely : Prop := landLeastRow.holds Try.pinned (OpenSpec.ofChange landLeastWrong)

/-- 'larderwicklaw2.LandScale': WHATEVER THE INPUT: true; the input reads as it did. -/
def landScaleSpec : ChangeSpec := { name := "landScale", fn := fun _ => fun
  | [d1, d2, d3, d4] => { results := [.lit (.bool true)], args := [d1, d2, d3, d4] }
  | _ => none }
def landScaleRow : OpenClaim := { program := "ytkgojehbdjkmcaa", sum := "9badb94445a43f3e1b6d2e1583f485f363f79d4efc3ce438920dae1319a44c3c", func := "larderwick/larderwicklaw2.LandScale", spec := "landScale", unfollowed := true, recurses := true, apart := false }
def LandScaleSaid : Prop := landScaleRow.holds Try.pinned (OpenSpec.ofChange landScaleSpec)

/-- ITS FALSE NEIGHBOUR: 'it returns false'. Refute it at one input. -/
def landScaleWrong : ChangeSpec := { name := "landScale", fn := fun _ => fun
  | [d1, d2, d3, d4] => { results := [.lit (.bool false)], args := [d1, d2, d3, d4] }
  | _ => none }
def LandScaleWrongFalsely : Prop := landScaleRow.holds Try.pinned (OpenSpec.ofChange landScaleWrong)

/-- 'larderwicklaw2.LandCredits': WHATEVER THE INPUT: true; the input reads as it did. -/
def landCreditsSpec : ChangeSpec := { name := "landCredits", fn := fun _ => fun
  | [d1, d2, d3] => { results := [.lit (.bool true)], args := [d1, d2, d3] }
  | _ => none }
def landCreditsRow : OpenClaim := { program := "ytkgojehbdjkmcaa", sum := "9badb94445a43f3e1b6d2e1583f485f363f79d4efc3ce438920dae1319a44c3c", func := "larderwick/larderwicklaw2.LandCredits", spec := "landCredits", unfollowed := true, recurses := true, apart := false }
def LandCreditsSaid : Prop := landCreditsRow.holds Try.pinned (OpenSpec.ofChange landCreditsSpec)

/-- ITS FALSE NEIGHBOUR: 'it returns false'. Refute it at one input. -/
def landCreditsWrong : ChangeSpec := { name := "landCredits", fn := fun _ => fun
  | [d1, d2, d3] => { results := [.lit (.bool false)], args := [d1, d2, d3] }
  | _ => none }
def LandCreditsWrongFalsely : Prop := landCreditsRow.holds Try.pinned (OpenSpec.ofChange landCreditsWrong)

/- THE SECOND FORM. 'bulk': how many values and letters a reading holds, each counted each time it is reached (what is shared counts as often as it is met; a slice's spare places count too). A statement '..UptoSaid' is the law's where the arguments, and the package variables that the reading takes, are together of bulk at most 1048576: NARROWER than '..Said'. Prove '..Said' where nothing that the law and all that it calls make is longer than what came in: it says more and counts as full. Else prove '..UptoSaid'. A law counts once. -/
mutual
def uptoBulk {H : Type} : DataW H → Nat
  | .lit (.string bytes) => bytes.length + 1
  | .lit _ => 1
  | .nil => 1
  | .ptr d => uptoBulk d + 1
  | .slice elems spare => uptoBulkAll elems + uptoBulkAll spare + 1
  | .agg parts => uptoBulkAll parts + 1
  | .iface _ d => uptoBulk d + 1
  | .map entries => uptoBulkEntries entries + 1
  | .held _ => 1
def uptoBulkAll {H : Type} : List (DataW H) → Nat
  | [] => 0
  | d :: r => uptoBulk d + uptoBulkAll r
def uptoBulkEntries {H : Type} : List (Lit × DataW H) → Nat
  | [] => 0
  | x :: r => uptoBulkEntry x + uptoBulkEntries r
def uptoBulkEntry {H : Type} : Lit × DataW H → Nat
  | (.string bytes, d) => bytes.length + uptoBulk d + 1
  | (_, d) => uptoBulk d + 1
 end
def uptoSmall : (H : Type) → List (DataW H) → Bool := fun _ ds => decide (uptoBulkAll ds ≤ 1048576)
def OpenSpec.upto (s : _root_.Go.ChangeSpec) : _root_.Go.OpenSpec := { _root_.Go.OpenSpec.ofChange s with cond := some uptoSmall }

/-- 'larderwicklaw2.LandYoung', WHERE WHAT IT READS IS OF BULK AT MOST 1048576: true; the input reads as it did. -/
def landYoungUptoRow : OpenClaim := { program := "ytkgojehbdjkmcaa", sum := "9badb94445a43f3e1b6d2e1583f485f363f79d4efc3ce438920dae1319a44c3c", func := "larderwick/larderwicklaw2.LandYoung", spec := "landYoung", unfollowed := true, recurses := true, apart := false, narrowed := true }
def LandYoungUptoSaid : Prop := landYoungUptoRow.holds Try.pinned (OpenSpec.upto landYoungSpec)

/-- 'larderwicklaw2.LandLeast', WHERE WHAT IT READS IS OF BULK AT MOST 1048576: true; the input reads as it did. -/
def landLeastUptoRow : OpenClaim := { program := "ytkgojehbdjkmcaa", sum := "9badb94445a43f3e1b6d2e1583f485f363f79d4efc3ce438920dae1319a44c3c", func := "larderwick/larderwicklaw2.LandLeast", spec := "landLeast", unfollowed := true, recurses := true, apart := false, narrowed := true }
def LandLeastUptoSaid : Prop := landLeastUptoRow.holds Try.pinned (OpenSpec.upto landLeastSpec)

/-- 'larderwicklaw2.LandScale', WHERE WHAT IT READS IS OF BULK AT MOST 1048576: true; the input reads as it did. -/
def landScaleUptoRow : OpenClaim := { program := "ytkgojehbdjkmcaa", sum := "9badb94445a43f3e1b6d2e1583f485f363f79d4efc3ce438920dae1319a44c3c", func := "larderwick/larderwicklaw2.LandScale", spec := "landScale", unfollowed := true, recurses := true, apart := false, narrowed := true }
def LandScaleUptoSaid : Prop := landScaleUptoRow.holds Try.pinned (OpenSpec.upto landScaleSpec)

/-- 'larderwicklaw2.LandCredits', WHERE WHAT IT READS IS OF BULK AT MOST 1048576: true; the input reads as it did. -/
def landCreditsUptoRow : OpenClaim := { program := "ytkgojehbdjkmcaa", sum := "9badb94445a43f3e1b6d2e1583f485f363f79d4efc3ce438920dae1319a44c3c", func := "larderwick/larderwicklaw2.LandCredits", spec := "landCredits", unfollowed := true, recurses := true, apart := false, narrowed := true }
def LandCreditsUptoSaid : Prop := landCreditsUptoRow.holds Try.pinned (OpenSpec.upto landCreditsSpec)

end Rows
end Go.Proofs.Ytkgojehbdjkmcaa
