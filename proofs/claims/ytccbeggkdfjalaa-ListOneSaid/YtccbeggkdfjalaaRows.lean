/-
  No cell of these rows narrows 'for every input' (looked for: loops, veiled, ifaces, maps, wideKeys, modest, calm, conditions, laid).
  DERIVED. THE GIVEN ROWS OF THIS SEAT. 4 by the template 'for every input the law returns true; each argument reads behind the call as it read before'; 0 by the template 'total and deterministic' (their statements: YtccbeggkdfjalaaTotals.lean).
  GIVEN WITH THE SEED: the statements are not yours to turn. If you find one false, say at which input.
  Laid BY PROGRAM, IN A SANDBOX (cutbox-rows.mjs): the forced cells as the released guide's own fill.sh prints them over the translation 55eccce2a7211e91… (all of the seat's roots in one cut). By AI agents, Wed Nov 11 2026. No macro, syntax, notation, axiom, sorry.
-/
import Derived.Test.YtccbeggkdfjalaaChecked
import GoSem.Claim
import GoSem.ClaimJoined
import GoSem.ClaimMapViews
import Derived.JoinedTies
import Derived.KernelRfl
namespace Go.Proofs.Ytccbeggkdfjalaa
/- THE CELL 'sum', in the pinned program and in every row, IS THE sha256 OF THE DUMP (.gsa) THAT YtccbeggkdfjalaaProg.lean LOADS. Nothing in Lean hashes anything: it is a label: what it is worth is what the hold of that sum in a sandbox is worth. -/
noncomputable def Try.pinned : Pinned := { name := "ytccbeggkdfjalaa", sum := "55eccce2a7211e9121d9fe390f0a4193cce23017e08c09e31250c3eab569b31a", checked := Try.checked }
namespace Rows
def none {H : Type} : Left H := { results := [], args := [] }

/-- 'larderwicklaw2.ListTwice': WHATEVER THE INPUT: true; the input reads as it did. -/
def listTwiceSpec : ChangeSpec := { name := "listTwice", fn := fun _ => fun
  | [d1, d2] => { results := [.lit (.bool true)], args := [d1, d2] }
  | _ => none }
def listTwiceRow : OpenClaim := { program := "ytccbeggkdfjalaa", sum := "55eccce2a7211e9121d9fe390f0a4193cce23017e08c09e31250c3eab569b31a", func := "larderwick/larderwicklaw2.ListTwice", spec := "listTwice", inPlace := ["slices.overlaps[int]"], unfollowed := true, recurses := true, plainKeys := false, apart := false }
def ListTwiceSaid : Prop := listTwiceRow.holds Try.pinned (OpenSpec.ofChange listTwiceSpec)

/-- ITS FALSE NEIGHBOUR: 'it returns false'. Refute it at one input. -/
def listTwiceWrong : ChangeSpec := { name := "listTwice", fn := fun _ => fun
  | [d1, d2] => { results := [.lit (.bool false)], args := [d1, d2] }
  | _ => none }
def ListTwiceWrongFalsely : Prop := listTwiceRow.holds Try.pinned (OpenSpec.ofChange listTwiceWrong)

/-- 'larderwicklaw2.ListFront': WHATEVER THE INPUT: true; the input reads as it did. -/
def listFrontSpec : ChangeSpec := { name := "listFront", fn := fun _ => fun
  | [d1, d2] => { results := [.lit (.bool true)], args := [d1, d2] }
  | _ => none }
def listFrontRow : OpenClaim := { program := "ytccbeggkdfjalaa", sum := "55eccce2a7211e9121d9fe390f0a4193cce23017e08c09e31250c3eab569b31a", func := "larderwick/larderwicklaw2.ListFront", spec := "listFront", inPlace := ["slices.overlaps[int]"], unfollowed := true, recurses := true, plainKeys := false, apart := false }
def ListFrontSaid : Prop := listFrontRow.holds Try.pinned (OpenSpec.ofChange listFrontSpec)

/-- ITS FALSE NEIGHBOUR: 'it returns false'. Refute it at one input. -/
def listFrontWrong : ChangeSpec := { name := "listFront", fn := fun _ => fun
  | [d1, d2] => { results := [.lit (.bool false)], args := [d1, d2] }
  | _ => none }
def ListFrontWrongFalsely : Prop := listFrontRow.holds Try.pinned (OpenSpec.ofChange listFrontWrong)

/-- 'larderwicklaw2.ListOne': WHATEVER THE INPUT: true; the input reads as it did. -/
def listOneSpec : ChangeSpec := { name := "listOne", fn := fun _ => fun
  | [d1, d2, d3] => { results := [.lit (.bool true)], args := [d1, d2, d3] }
  | _ => none }
def listOneRow : OpenClaim := { program := "ytccbeggkdfjalaa", sum := "55eccce2a7211e9121d9fe390f0a4193cce23017e08c09e31250c3eab569b31a", func := "larderwick/larderwicklaw2.ListOne", spec := "listOne", inPlace := ["slices.overlaps[int]"], unfollowed := true, recurses := true, plainKeys := false, apart := false }
def ListOneSaid : Prop := listOneRow.holds Try.pinned (OpenSpec.ofChange listOneSpec)

/-- ITS FALSE NEIGHBOUR: 'it returns false'. Refute it at one input. -/
def listOneWrong : ChangeSpec := { name := "listOne", fn := fun _ => fun
  | [d1, d2, d3] => { results := [.lit (.bool false)], args := [d1, d2, d3] }
  | _ => none }
def ListOneWrongFalsely : Prop := listOneRow.holds Try.pinned (OpenSpec.ofChange listOneWrong)

/-- 'larderwicklaw2.ListLeast': WHATEVER THE INPUT: true; the input reads as it did. -/
def listLeastSpec : ChangeSpec := { name := "listLeast", fn := fun _ => fun
  | [d1, d2] => { results := [.lit (.bool true)], args := [d1, d2] }
  | _ => none }
def listLeastRow : OpenClaim := { program := "ytccbeggkdfjalaa", sum := "55eccce2a7211e9121d9fe390f0a4193cce23017e08c09e31250c3eab569b31a", func := "larderwick/larderwicklaw2.ListLeast", spec := "listLeast", inPlace := ["slices.overlaps[int]"], unfollowed := true, recurses := true, plainKeys := false, apart := false }
def ListLeastSaid : Prop := listLeastRow.holds Try.pinned (OpenSpec.ofChange listLeastSpec)

/-- ITS FALSE NEIGHBOUR: 'it returns false'. Refute it at one input. -/
def listLeastWrong : ChangeSpec := { name := "listLeast", fn := fun _ => fun
  | [d1, d2] => { results := [.lit (.bool false)], args := [d1, d2] }
  | _ => none }
def ListLeastWrongFalsely : Prop := listLeastRow.holds Try.pinned (OpenSpec.ofChange listLeastWrong)

/- THE SECOND FORM. 'bulk': how many values and letters a reading holds, each counted each time it is reached (what is shared counts as often as it is met; a slice's spare places count too). A statement '..UptoSaid' is the law's where the arguments, and the package variables that the reading takes, are together of bulk at most 1048576: NARROWER than '..Said'. Prove '..Said' where nothing that the law and all that it calls make is longer than what came in: it says more and counts as full. Else prove '..UptoSaid'. A law counts once. -/
mutual
def uptoBulk {H : Type} : DataW H → Nat
  | .lit (.string bytes) => bytes.length + 1
  | .lit _ => 1
  | .nil => 1
  | .ptr d => uptoBulk d + 1
  | .slice elems spare => uptoBulkAll elems + uptoBulkAll spare + 1
  | .agg parts => uptoBulkAll parts + 1
  | .iface _ d => uptoBulk d + 1
  | .map entries => uptoBulkEntries entries + 1
  | .held _ => 1
def uptoBulkAll {H : Type} : List (DataW H) → Nat
  | [] => 0
  | d :: r => uptoBulk d + uptoBulkAll r
def uptoBulkEntries {H : Type} : List (Lit × DataW H) → Nat
  | [] => 0
  | x :: r => uptoBulkEntry x + uptoBulkEntries r
def uptoBulkEntry {H : Type} : Lit × DataW H → Nat
  | (.string bytes, d) => bytes.length + uptoBulk d + 1
  | (_, d) => uptoBulk d + 1
 end
def uptoSmall : (H : Type) → List (DataW H) → Bool := fun _ ds => decide (uptoBulkAll ds ≤ 1048576)
def OpenSpec.upto (s : _root_.Go.ChangeSpec) : _root_.Go.OpenSpec := { _root_.Go.OpenSpec.ofChange s with cond := some uptoSmall }

/-- 'larderwicklaw2.ListTwice', WHERE WHAT IT READS IS OF BULK AT MOST 1048576: true; the input reads as it did. -/
def listTwiceUptoRow : OpenClaim := { program := "ytccbeggkdfjalaa", sum := "55eccce2a7211e9121d9fe390f0a4193cce23017e08c09e31250c3eab569b31a", func := "larderwick/larderwicklaw2.ListTwice", spec := "listTwice", inPlace := ["slices.overlaps[int]"], unfollowed := true, recurses := true, plainKeys := false, apart := false, narrowed := true }
def ListTwiceUptoSaid : Prop := listTwiceUptoRow.holds Try.pinned (OpenSpec.upto listTwiceSpec)

/-- 'larderwicklaw2.ListFront', WHERE WHAT IT READS IS OF BULK AT MOST 1048576: true; the input reads as it did. -/
def listFrontUptoRow : OpenClaim := { program := "ytccbeggkdfjalaa", sum := "55eccce2a7211e9121d9fe390f0a4193cce23017e08c09e31250c3eab569b31a", func := "larderwick/larderwicklaw2.ListFront", spec := "listFront", inPlace := ["slices.overlaps[int]"], unfollowed := true, recurses := true, plainKeys := false, apart := false, narrowed := true }
def ListFrontUptoSaid : Prop := listFrontUptoRow.holds Try.pinned (OpenSpec.upto listFrontSpec)

/-- 'larderwicklaw2.ListOne', WHERE WHAT IT READS IS OF BULK AT MOST 1048576: true; the input reads as it did. -/
def listOneUptoRow : OpenClaim := { program := "ytccbeggkdfjalaa", sum := "55eccce2a7211e9121d9fe390f0a4193cce23017e08c09e31250c3eab569b31a", func := "larderwick/larderwicklaw2.ListOne", spec := "listOne", inPlace := ["slices.overlaps[int]"], unfollowed := true, recurses := true, plainKeys := false, apart := false, narrowed := true }
def ListOneUptoSaid : Prop := listOneUptoRow.holds Try.pinned (OpenSpec.upto listOneSpec)

/-- 'larderwicklaw2.ListLeast', WHERE WHAT IT READS IS OF BULK AT MOST 1048576: true; the input reads as it did. -/
def listLeastUptoRow : OpenClaim := { program := "ytccbeggkdfjalaa", sum := "55eccce2a7211e9121d9fe390f0a4193cce23017e08c09e31250c3eab569b31a", func := "larderwick/larderwicklaw2.ListLeast", spec := "listLeast", inPlace := ["slices.overlaps[int]"], unfollowed := true, recurses := true, plainKeys := false, apart := false, narrowed := true }
def ListLeastUptoSaid : Prop := listLeastUptoRow.holds Try.pinned (OpenSpec.upto listLeastSpec)

end Rows
end Go.Proofs.Ytccbeggkdfjalaa
