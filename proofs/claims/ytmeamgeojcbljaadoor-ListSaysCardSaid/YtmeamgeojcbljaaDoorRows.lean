/-
  NARROWER THAN 'FOR EVERY INPUT', by the rows' own cells (each row's printed sentence says how): AckSays: laid · WsetSays: laid · LandSays: laid · ListSays: laid · ServeSays: laid.
  DERIVED. THE GIVEN ROWS OF THIS SEAT. 5 by the template 'for every input the law returns true; each argument reads behind the call as it read before'; 0 by the template 'total and deterministic' (their statements: YtmeamgeojcbljaaDoorTotals.lean).
  GIVEN WITH THE SEED: the statements are not yours to turn. If you find one false, say at which input.
  Laid BY PROGRAM, IN A SANDBOX (cutbox-rows.mjs): the forced cells as the released guide's own fill.sh prints them over the translation 59040f9936a392b0… (all of the seat's roots in one cut). By AI agents, Wed Nov 11 2026. No macro, syntax, notation, axiom, sorry.
-/
import Derived.Test.YtmeamgeojcbljaaDoorChecked
import GoSem.Claim
import GoSem.ClaimJoined
import GoSem.ClaimMapViews
import Derived.JoinedTies
import Derived.KernelRfl
namespace Go.Proofs.YtmeamgeojcbljaaDoor
/- THE CELL 'sum', in the pinned program and in every row, IS THE sha256 OF THE DUMP (.gsa) THAT YtmeamgeojcbljaaDoorProg.lean LOADS. Nothing in Lean hashes anything: it is a label: what it is worth is what the hold of that sum in a sandbox is worth. -/
noncomputable def Tryd.pinned : Pinned := { name := "ytmeamgeojcbljaadoor", sum := "59040f9936a392b04ea83c79f7988f6c2e7c4f153a6ed97e7b2145582632a784", checked := Tryd.checked }
namespace Rows
def none {H : Type} : Left H := { results := [], args := [] }

/- WHAT THE LISTED PACKAGE-LEVEL VARIABLES READ AS WHEN THE CALL BEGINS. Each datum BY PROGRAM (the guide's laid-datum.mjs) off the statement by which the dump's own 'gosem.cut.vars' lays the variable. In a bare row this is a premise. The card (YtmeamgeojcbljaaDoorCards.lean) ties it to the program's text. -/
def laid_errors_errorType {H : Type} : DataW H := .iface "internal/reflectlite.rtype" (.agg [.ptr (.lit (.string [101, 114, 114, 111, 114]))])

/-- 'larderwicklaw2.AckSays': WHATEVER THE INPUT: true; the input reads as it did. -/
def ackSaysSpec : ChangeSpec := { name := "ackSays", fn := fun _ => fun
  | [d1, d2] => { results := [.lit (.bool true)], args := [d1, d2] }
  | _ => none }
def ackSaysRow : OpenClaim := { program := "ytmeamgeojcbljaadoor", sum := "59040f9936a392b04ea83c79f7988f6c2e7c4f153a6ed97e7b2145582632a784", func := "larderwick/larderwicklaw2.AckSays", spec := "ackSays", inPlace := ["internal/reflectlite.ValueOf", "(internal/reflectlite.Value).Type", "(internal/reflectlite.Value).IsNil", "internal/reflectlite.TypeOf", "(internal/reflectlite.Value).Elem", "(internal/reflectlite.Value).Set"], unfollowed := true, recurses := true, named := ["errors.errorType"], plainKeys := false, apart := false, laid := [("errors.errorType", laid_errors_errorType)] }
def AckSaysSaid : Prop := ackSaysRow.holds Tryd.pinned (OpenSpec.ofChange ackSaysSpec)

/-- ITS FALSE NEIGHBOUR: 'it returns false'. Refute it at one input. -/
def ackSaysWrong : ChangeSpec := { name := "ackSays", fn := fun _ => fun
  | [d1, d2] => { results := [.lit (.bool false)], args := [d1, d2] }
  | _ => none }
def AckSaysWrongFalsely : Prop := ackSaysRow.holds Tryd.pinned (OpenSpec.ofChange ackSaysWrong)

/-- 'larderwicklaw2.WsetSays': WHATEVER THE INPUT: true; the input reads as it did. -/
def wsetSaysSpec : ChangeSpec := { name := "wsetSays", fn := fun _ => fun
  | [d1, d2] => { results := [.lit (.bool true)], args := [d1, d2] }
  | _ => none }
def wsetSaysRow : OpenClaim := { program := "ytmeamgeojcbljaadoor", sum := "59040f9936a392b04ea83c79f7988f6c2e7c4f153a6ed97e7b2145582632a784", func := "larderwick/larderwicklaw2.WsetSays", spec := "wsetSays", inPlace := ["internal/reflectlite.ValueOf", "(internal/reflectlite.Value).Type", "(internal/reflectlite.Value).IsNil", "internal/reflectlite.TypeOf", "(internal/reflectlite.Value).Elem", "(internal/reflectlite.Value).Set"], unfollowed := true, recurses := true, named := ["errors.errorType"], plainKeys := false, apart := false, laid := [("errors.errorType", laid_errors_errorType)] }
def WsetSaysSaid : Prop := wsetSaysRow.holds Tryd.pinned (OpenSpec.ofChange wsetSaysSpec)

/-- ITS FALSE NEIGHBOUR: 'it returns false'. Refute it at one input. -/
def wsetSaysWrong : ChangeSpec := { name := "wsetSays", fn := fun _ => fun
  | [d1, d2] => { results := [.lit (.bool false)], args := [d1, d2] }
  | _ => none }
def WsetSaysWrongFalsely : Prop := wsetSaysRow.holds Tryd.pinned (OpenSpec.ofChange wsetSaysWrong)

/-- 'larderwicklaw2.LandSays': WHATEVER THE INPUT: true; the input reads as it did. -/
def landSaysSpec : ChangeSpec := { name := "landSays", fn := fun _ => fun
  | [d1, d2, d3] => { results := [.lit (.bool true)], args := [d1, d2, d3] }
  | _ => none }
def landSaysRow : OpenClaim := { program := "ytmeamgeojcbljaadoor", sum := "59040f9936a392b04ea83c79f7988f6c2e7c4f153a6ed97e7b2145582632a784", func := "larderwick/larderwicklaw2.LandSays", spec := "landSays", inPlace := ["internal/reflectlite.ValueOf", "(internal/reflectlite.Value).Type", "(internal/reflectlite.Value).IsNil", "internal/reflectlite.TypeOf", "(internal/reflectlite.Value).Elem", "(internal/reflectlite.Value).Set"], unfollowed := true, recurses := true, named := ["errors.errorType"], plainKeys := false, apart := false, laid := [("errors.errorType", laid_errors_errorType)] }
def LandSaysSaid : Prop := landSaysRow.holds Tryd.pinned (OpenSpec.ofChange landSaysSpec)

/-- ITS FALSE NEIGHBOUR: 'it returns false'. Refute it at one input. -/
def landSaysWrong : ChangeSpec := { name := "landSays", fn := fun _ => fun
  | [d1, d2, d3] => { results := [.lit (.bool false)], args := [d1, d2, d3] }
  | _ => none }
def LandSaysWrongFalsely : Prop := landSaysRow.holds Tryd.pinned (OpenSpec.ofChange landSaysWrong)

/-- 'larderwicklaw2.ListSays': WHATEVER THE INPUT: true; the input reads as it did. -/
def listSaysSpec : ChangeSpec := { name := "listSays", fn := fun _ => fun
  | [d1, d2] => { results := [.lit (.bool true)], args := [d1, d2] }
  | _ => none }
def listSaysRow : OpenClaim := { program := "ytmeamgeojcbljaadoor", sum := "59040f9936a392b04ea83c79f7988f6c2e7c4f153a6ed97e7b2145582632a784", func := "larderwick/larderwicklaw2.ListSays", spec := "listSays", inPlace := ["internal/reflectlite.ValueOf", "(internal/reflectlite.Value).Type", "(internal/reflectlite.Value).IsNil", "internal/reflectlite.TypeOf", "(internal/reflectlite.Value).Elem", "(internal/reflectlite.Value).Set", "slices.overlaps[int]"], unfollowed := true, recurses := true, named := ["errors.errorType"], plainKeys := false, apart := false, laid := [("errors.errorType", laid_errors_errorType)] }
def ListSaysSaid : Prop := listSaysRow.holds Tryd.pinned (OpenSpec.ofChange listSaysSpec)

/-- ITS FALSE NEIGHBOUR: 'it returns false'. Refute it at one input. -/
def listSaysWrong : ChangeSpec := { name := "listSays", fn := fun _ => fun
  | [d1, d2] => { results := [.lit (.bool false)], args := [d1, d2] }
  | _ => none }
def ListSaysWrongFalsely : Prop := listSaysRow.holds Tryd.pinned (OpenSpec.ofChange listSaysWrong)

/-- 'larderwicklaw2.ServeSays': WHATEVER THE INPUT: true; the input reads as it did. -/
def serveSaysSpec : ChangeSpec := { name := "serveSays", fn := fun _ => fun
  | [d1, d2] => { results := [.lit (.bool true)], args := [d1, d2] }
  | _ => none }
def serveSaysRow : OpenClaim := { program := "ytmeamgeojcbljaadoor", sum := "59040f9936a392b04ea83c79f7988f6c2e7c4f153a6ed97e7b2145582632a784", func := "larderwick/larderwicklaw2.ServeSays", spec := "serveSays", inPlace := ["internal/reflectlite.ValueOf", "(internal/reflectlite.Value).Type", "(internal/reflectlite.Value).IsNil", "internal/reflectlite.TypeOf", "(internal/reflectlite.Value).Elem", "(internal/reflectlite.Value).Set"], unfollowed := true, recurses := true, named := ["errors.errorType"], plainKeys := false, apart := false, laid := [("errors.errorType", laid_errors_errorType)] }
def ServeSaysSaid : Prop := serveSaysRow.holds Tryd.pinned (OpenSpec.ofChange serveSaysSpec)

/-- ITS FALSE NEIGHBOUR: 'it returns false'. Refute it at one input. -/
def serveSaysWrong : ChangeSpec := { name := "serveSays", fn := fun _ => fun
  | [d1, d2] => { results := [.lit (.bool false)], args := [d1, d2] }
  | _ => none }
def ServeSaysWrongFalsely : Prop := serveSaysRow.holds Tryd.pinned (OpenSpec.ofChange serveSaysWrong)

/- THE SECOND FORM. 'bulk': how many values and letters a reading holds, each counted each time it is reached (what is shared counts as often as it is met; a slice's spare places count too). A statement '..UptoSaid' is the law's where the arguments, and the package variables that the reading takes, are together of bulk at most 1048576: NARROWER than '..Said'. Prove '..Said' where nothing that the law and all that it calls make is longer than what came in: it says more and counts as full. Else prove '..UptoSaid'. A law counts once. -/
mutual
def uptoBulk {H : Type} : DataW H → Nat
  | .lit (.string bytes) => bytes.length + 1
  | .lit _ => 1
  | .nil => 1
  | .ptr d => uptoBulk d + 1
  | .slice elems spare => uptoBulkAll elems + uptoBulkAll spare + 1
  | .agg parts => uptoBulkAll parts + 1
  | .iface _ d => uptoBulk d + 1
  | .map entries => uptoBulkEntries entries + 1
  | .held _ => 1
def uptoBulkAll {H : Type} : List (DataW H) → Nat
  | [] => 0
  | d :: r => uptoBulk d + uptoBulkAll r
def uptoBulkEntries {H : Type} : List (Lit × DataW H) → Nat
  | [] => 0
  | x :: r => uptoBulkEntry x + uptoBulkEntries r
def uptoBulkEntry {H : Type} : Lit × DataW H → Nat
  | (.string bytes, d) => bytes.length + uptoBulk d + 1
  | (_, d) => uptoBulk d + 1
 end
def uptoSmall : (H : Type) → List (DataW H) → Bool := fun _ ds => decide (uptoBulkAll ds ≤ 1048576)
def OpenSpec.upto (s : _root_.Go.ChangeSpec) : _root_.Go.OpenSpec := { _root_.Go.OpenSpec.ofChange s with cond := some uptoSmall }

/-- 'larderwicklaw2.AckSays', WHERE WHAT IT READS IS OF BULK AT MOST 1048576: true; the input reads as it did. -/
def ackSaysUptoRow : OpenClaim := { program := "ytmeamgeojcbljaadoor", sum := "59040f9936a392b04ea83c79f7988f6c2e7c4f153a6ed97e7b2145582632a784", func := "larderwick/larderwicklaw2.AckSays", spec := "ackSays", inPlace := ["internal/reflectlite.ValueOf", "(internal/reflectlite.Value).Type", "(internal/reflectlite.Value).IsNil", "internal/reflectlite.TypeOf", "(internal/reflectlite.Value).Elem", "(internal/reflectlite.Value).Set"], unfollowed := true, recurses := true, named := ["errors.errorType"], plainKeys := false, apart := false, laid := [("errors.errorType", laid_errors_errorType)], narrowed := true }
def AckSaysUptoSaid : Prop := ackSaysUptoRow.holds Tryd.pinned (OpenSpec.upto ackSaysSpec)

/-- 'larderwicklaw2.WsetSays', WHERE WHAT IT READS IS OF BULK AT MOST 1048576: true; the input reads as it did. -/
def wsetSaysUptoRow : OpenClaim := { program := "ytmeamgeojcbljaadoor", sum := "59040f9936a392b04ea83c79f7988f6c2e7c4f153a6ed97e7b2145582632a784", func := "larderwick/larderwicklaw2.WsetSays", spec := "wsetSays", inPlace := ["internal/reflectlite.ValueOf", "(internal/reflectlite.Value).Type", "(internal/reflectlite.Value).IsNil", "internal/reflectlite.TypeOf", "(internal/reflectlite.Value).Elem", "(internal/reflectlite.Value).Set"], unfollowed := true, recurses := true, named := ["errors.errorType"], plainKeys := false, apart := false, laid := [("errors.errorType", laid_errors_errorType)], narrowed := true }
def WsetSaysUptoSaid : Prop := wsetSaysUptoRow.holds Tryd.pinned (OpenSpec.upto wsetSaysSpec)

/-- 'larderwicklaw2.LandSays', WHERE WHAT IT READS IS OF BULK AT MOST 1048576: true; the input reads as it did. -/
def landSaysUptoRow : OpenClaim := { program := "ytmeamgeojcbljaadoor", sum := "59040f9936a392b04ea83c79f7988f6c2e7c4f153a6ed97e7b2145582632a784", func := "larderwick/larderwicklaw2.LandSays", spec := "landSays", inPlace := ["internal/reflectlite.ValueOf", "(internal/reflectlite.Value).Type", "(internal/reflectlite.Value).IsNil", "internal/reflectlite.TypeOf", "(internal/reflectlite.Value).Elem", "(internal/reflectlite.Value).Set"], unfollowed := true, recurses := true, named := ["errors.errorType"], plainKeys := false, apart := false, laid := [("errors.errorType", laid_errors_errorType)], narrowed := true }
def LandSaysUptoSaid : Prop := landSaysUptoRow.holds Tryd.pinned (OpenSpec.upto landSaysSpec)

/-- 'larderwicklaw2.ListSays', WHERE WHAT IT READS IS OF BULK AT MOST 1048576: true; the input reads as it did. -/
def listSaysUptoRow : OpenClaim := { program := "ytmeamgeojcbljaadoor", sum := "59040f9936a392b04ea83c79f7988f6c2e7c4f153a6ed97e7b2145582632a784", func := "larderwick/larderwicklaw2.ListSays", spec := "listSays", inPlace := ["internal/reflectlite.ValueOf", "(internal/reflectlite.Value).Type", "(internal/reflectlite.Value).IsNil", "internal/reflectlite.TypeOf", "(internal/reflectlite.Value).Elem", "(internal/reflectlite.Value).Set", "slices.overlaps[int]"], unfollowed := true, recurses := true, named := ["errors.errorType"], plainKeys := false, apart := false, laid := [("errors.errorType", laid_errors_errorType)], narrowed := true }
def ListSaysUptoSaid : Prop := listSaysUptoRow.holds Tryd.pinned (OpenSpec.upto listSaysSpec)

/-- 'larderwicklaw2.ServeSays', WHERE WHAT IT READS IS OF BULK AT MOST 1048576: true; the input reads as it did. -/
def serveSaysUptoRow : OpenClaim := { program := "ytmeamgeojcbljaadoor", sum := "59040f9936a392b04ea83c79f7988f6c2e7c4f153a6ed97e7b2145582632a784", func := "larderwick/larderwicklaw2.ServeSays", spec := "serveSays", inPlace := ["internal/reflectlite.ValueOf", "(internal/reflectlite.Value).Type", "(internal/reflectlite.Value).IsNil", "internal/reflectlite.TypeOf", "(internal/reflectlite.Value).Elem", "(internal/reflectlite.Value).Set"], unfollowed := true, recurses := true, named := ["errors.errorType"], plainKeys := false, apart := false, laid := [("errors.errorType", laid_errors_errorType)], narrowed := true }
def ServeSaysUptoSaid : Prop := serveSaysUptoRow.holds Tryd.pinned (OpenSpec.upto serveSaysSpec)

end Rows
end Go.Proofs.YtmeamgeojcbljaaDoor
