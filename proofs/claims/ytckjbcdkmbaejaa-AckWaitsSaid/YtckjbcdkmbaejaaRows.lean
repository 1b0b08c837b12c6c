/-
  No cell of these rows narrows 'for every input' (looked for: loops, veiled, ifaces, maps, wideKeys, modest, calm, conditions, laid).
  DERIVED. THE GIVEN ROWS OF THIS SEAT. 4 by the template 'for every input the law returns true; each argument reads behind the call as it read before'; 0 by the template 'total and deterministic' (their statements: YtckjbcdkmbaejaaTotals.lean).
  GIVEN WITH THE SEED: the statements are not yours to turn. If you find one false, say at which input.
  Laid BY PROGRAM, IN A SANDBOX (cutbox-rows.mjs): the forced cells as the released guide's own fill.sh prints them over the translation e51f730ffebc4c5e… (all of the seat's roots in one cut). By AI agents, Wed Nov 11 2026. No macro, syntax, notation, axiom, sorry.
-/
import Derived.Test.YtckjbcdkmbaejaaChecked
import GoSem.Claim
import GoSem.ClaimJoined
import GoSem.ClaimMapViews
import Derived.JoinedTies
import Derived.KernelRfl
namespace Go.Proofs.Ytckjbcdkmbaejaa
/- THE CELL 'sum', in the pinned program and in every row, IS THE sha256 OF THE DUMP (.gsa) THAT YtckjbcdkmbaejaaProg.lean LOADS. Nothing in Lean hashes anything: it is a label: what it is worth is what the hold of that sum in a sandbox is worth. -/
noncomputable def Try.pinned : Pinned := { name := "ytckjbcdkmbaejaa", sum := "e51f730ffebc4c5e5fcd00f22f3bf7ee883ddb5b817f3339e81850003fef639c", checked := Try.checked }
namespace Rows
def none {H : Type} : Left H := { results := [], args := [] }

/-- 'larderwicklaw2.AckTwice': WHATEVER THE INPUT: true; the input reads as it did. -/
def ackTwiceSpec : ChangeSpec := { name := "ackTwice", fn := fun _ => fun
  | [d1, d2] => { results := [.lit (.bool true)], args := [d1, d2] }
  | _ => none }
def ackTwiceRow : OpenClaim := { program := "ytckjbcdkmbaejaa", sum := "e51f730ffebc4c5e5fcd00f22f3bf7ee883ddb5b817f3339e81850003fef639c", func := "larderwick/larderwicklaw2.AckTwice", spec := "ackTwice", apart := false }
def AckTwiceSaid : Prop := ackTwiceRow.holds Try.pinned (OpenSpec.ofChange ackTwiceSpec)

/-- ITS FALSE NEIGHBOUR: 'it returns false'. Refute it at one input. -/
def ackTwiceWrong : ChangeSpec := { name := "ackTwice", fn := fun _ => fun
  | [d1, d2] => { results := [.lit (.bool false)], args := [d1, d2] }
  | _ => none }
def AckTwiceWrongFalsely : Prop := ackTwiceRow.holds Try.pinned (OpenSpec.ofChange ackTwiceWrong)

/-- 'larderwicklaw2.AckAny': WHATEVER THE INPUT: true; the input reads as it did. -/
def ackAnySpec : ChangeSpec := { name := "ackAny", fn := fun _ => fun
  | [d1, d2, d3] => { results := [.lit (.bool true)], args := [d1, d2, d3] }
  | _ => none }
def ackAnyRow : OpenClaim := { program := "ytckjbcdkmbaejaa", sum := "e51f730ffebc4c5e5fcd00f22f3bf7ee883ddb5b817f3339e81850003fef639c", func := "larderwick/larderwicklaw2.AckAny", spec := "ackAny", apart := false }
def AckAnySaid : Prop := ackAnyRow.holds Try.pinned (OpenSpec.ofChange ackAnySpec)

/-- ITS FALSE NEIGHBOUR: 'it returns false'. Refute it at one input. -/
def ackAnyWrong : ChangeSpec := { name := "ackAny", fn := fun _ => fun
  | [d1, d2, d3] => { results := [.lit (.bool false)], args := [d1, d2, d3] }
  | _ => none }
def AckAnyWrongFalsely : Prop := ackAnyRow.holds Try.pinned (OpenSpec.ofChange ackAnyWrong)

/-- 'larderwicklaw2.AckLater': WHATEVER THE INPUT: true; the input reads as it did. -/
def ackLaterSpec : ChangeSpec := { name := "ackLater", fn := fun _ => fun
  | [d1, d2, d3] => { results := [.lit (.bool true)], args := [d1, d2, d3] }
  | _ => none }
def ackLaterRow : OpenClaim := { program := "ytckjbcdkmbaejaa", sum := "e51f730ffebc4c5e5fcd00f22f3bf7ee883ddb5b817f3339e81850003fef639c", func := "larderwick/larderwicklaw2.AckLater", spec := "ackLater", apart := false }
def AckLaterSaid : Prop := ackLaterRow.holds Try.pinned (OpenSpec.ofChange ackLaterSpec)

/-- ITS FALSE NEIGHBOUR: 'it returns false'. Refute it at one input. -/
def ackLaterWrong : ChangeSpec := { name := "ackLater", fn := fun _ => fun
  | [d1, d2, d3] => { results := [.lit (.bool false)], args := [d1, d2, d3] }
  | _ => none }
def AckLaterWrongFalsely : Prop := ackLaterRow.holds Try.pinned (OpenSpec.ofChange ackLaterWrong)

/-- 'larderwicklaw2.AckWaits': WHATEVER THE INPUT: true; the input reads as it did. -/
def ackWaitsSpec : ChangeSpec := { name := "ackWaits", fn := fun _ => fun
  | [d1, d2] => { results := [.lit (.bool true)], args := [d1, d2] }
  | _ => none }
def ackWaitsRow : OpenClaim := { program := "ytckjbcdkmbaejaa", sum := "e51f730ffebc4c5e5fcd00f22f3bf7ee883ddb5b817f3339e81850003fef639c", func := "larderwick/larderwicklaw2.AckWaits", spec := "ackWaits", apart := false }
def AckWaitsSaid : Prop := ackWaitsRow.holds Try.pinned (OpenSpec.ofChange ackWaitsSpec)

/-- ITS FALSE NEIGHBOUR: 'it returns false'. Refute it at one input. -/
def ackWaitsWrong : ChangeSpec := { name := "ackWaits", fn := fun _ => fun
  | [d1, d2] => { results := [.lit (.bool false)], args := [d1, d2] }
  | _ => none }
def AckWaitsWrongFalsely : Prop := ackWaitsRow.holds Try.pinned (OpenSpec.ofChange ackWaitsWrong)

/- THE SECOND FORM. 'bulk': how many values and letters a reading holds, each counted each time it is reached (what is shared counts as often as it is met; a slice's spare places count too). A statement '..UptoSaid' is the law's where the arguments, and the package variables that the reading takes, are together of bulk at most 1048576: NARROWER than '..Said'. Prove '..Said' where nothing that the law and all that it calls make is longer than what came in: it says more and counts as full. Else prove '..UptoSaid'. A law counts once. -/
mutual
def uptoBulk {H : Type} : DataW H → Nat
  | .lit (.string bytes) => bytes.length + 1
  | .lit _ => 1
  | .nil => 1
  | .ptr d => uptoBulk d + 1
  | .slice elems spare => uptoBulkAll elems + uptoBulkAll spare + 1
  | .agg parts => uptoBulkAll parts + 1
  | .iface _ d => uptoBulk d + 1
  | .map entries => uptoBulkEntries entries + 1
  | .held _ => 1
def uptoBulkAll {H : Type} : List (DataW H) → Nat
  | [] => 0
  | d :: r => uptoBulk d + uptoBulkAll r
def uptoBulkEntries {H : Type} : List (Lit × DataW H) → Nat
  | [] => 0
  | x :: r => uptoBulkEntry x + uptoBulkEntries r
def uptoBulkEntry {H : Type} : Lit × DataW H → Nat
  | (.string bytes, d) => bytes.length + uptoBulk d + 1
  | (_, d) => uptoBulk d + 1
 end
def uptoSmall : (H : Type) → List (DataW H) → Bool := fun _ ds => decide (uptoBulkAll ds ≤ 1048576)
def OpenSpec.upto (s : _root_.Go.ChangeSpec) : _root_.Go.OpenSpec := { _root_.Go.OpenSpec.ofChange s with cond := some uptoSmall }

/-- 'larderwicklaw2.AckTwice', WHERE WHAT IT READS IS OF BULK AT MOST 1048576: true; the input reads as it did. -/
def ackTwiceUptoRow : OpenClaim := { program := "ytckjbcdkmbaejaa", sum := "e51f730ffebc4c5e5fcd00f22f3bf7ee883ddb5b817f3339e81850003fef639c", func := "larderwick/larderwicklaw2.AckTwice", spec := "ackTwice", apart := false, narrowed := true }
def AckTwiceUptoSaid : Prop := ackTwiceUptoRow.holds Try.pinned (OpenSpec.upto ackTwiceSpec)

/-- 'larderwicklaw2.AckAny', WHERE WHAT IT READS IS OF BULK AT MOST 1048576: true; the input reads as it did. -/
def ackAnyUptoRow : OpenClaim := { program := "ytckjbcdkmbaejaa", sum := "e51f730ffebc4c5e5fcd00f22f3bf7ee883ddb5b817f3339e81850003fef639c", func := "larderwick/larderwicklaw2.AckAny", spec := "ackAny", apart := false, narrowed := true }
def AckAnyUptoSaid : Prop := ackAnyUptoRow.holds Try.pinned (OpenSpec.upto ackAnySpec)

/-- 'larderwicklaw2.AckLater', WHERE WHAT IT READS IS OF BULK AT MOST 1048576: true; the input reads as it did. -/
def ackLaterUptoRow : OpenClaim := { program := "ytckjbcdkmbaejaa", sum := "e51f730ffebc4c5e5fcd00f22f3bf7ee883ddb5b817f3339e81850003fef639c", func := "larderwick/larderwicklaw2.AckLater", spec := "ackLater", apart := false, narrowed := true }
def AckLaterUptoSaid : Prop := ackLaterUptoRow.holds Try.pinned (OpenSpec.upto ackLaterSpec)

/-- 'larderwicklaw2.AckWaits', WHERE WHAT IT READS IS OF BULK AT MOST 1048576: true; the input reads as it did. -/
def ackWaitsUptoRow : OpenClaim := { program := "ytckjbcdkmbaejaa", sum := "e51f730ffebc4c5e5fcd00f22f3bf7ee883ddb5b817f3339e81850003fef639c", func := "larderwick/larderwicklaw2.AckWaits", spec := "ackWaits", apart := false, narrowed := true }
def AckWaitsUptoSaid : Prop := ackWaitsUptoRow.holds Try.pinned (OpenSpec.upto ackWaitsSpec)

end Rows
end Go.Proofs.Ytckjbcdkmbaejaa
