/-
  No cell of these rows narrows 'for every input' (looked for: loops, veiled, ifaces, maps, wideKeys, modest, calm, conditions, laid).
  DERIVED. THE GIVEN ROWS OF THIS SEAT. 5 by the template 'for every input the law returns true; each argument reads behind the call as it read before'; 0 by the template 'total and deterministic' (their statements: YtibefbboilpfmaaTotals.lean).
  GIVEN WITH THE SEED: the statements are not yours to turn. If you find one false, say at which input.
  Laid BY PROGRAM, IN A SANDBOX (cutbox-rows.mjs): the forced cells as the released guide's own fill.sh prints them over the translation 044d05cf4d4b9cd0… (all of the seat's roots in one cut). By AI agents, Wed Nov 11 2026. No macro, syntax, notation, axiom, sorry.
-/
import Derived.Test.YtibefbboilpfmaaChecked
import GoSem.Claim
import GoSem.ClaimJoined
import GoSem.ClaimMapViews
import Derived.JoinedTies
import Derived.KernelRfl
namespace Go.Proofs.Ytibefbboilpfmaa
/- THE CELL 'sum', in the pinned program and in every row, IS THE sha256 OF THE DUMP (.gsa) THAT YtibefbboilpfmaaProg.lean LOADS. Nothing in Lean hashes anything: it is a label: what it is worth is what the hold of that sum in a sandbox is worth. -/
noncomputable def Try.pinned : Pinned := { name := "ytibefbboilpfmaa", sum := "044d05cf4d4b9cd0482d978f981738377ed84f05fb9f4cc1ce9913cd72f89432", checked := Try.checked }
namespace Rows
def none {H : Type} : Left H := { results := [], args := [] }

/-- 'larderwicklaw2.ServeDouble': WHATEVER THE INPUT: true; the input reads as it did. -/
def serveDoubleSpec : ChangeSpec := { name := "serveDouble", fn := fun _ => fun
  | [d1, d2] => { results := [.lit (.bool true)], args := [d1, d2] }
  | _ => none }
def serveDoubleRow : OpenClaim := { program := "ytibefbboilpfmaa", sum := "044d05cf4d4b9cd0482d978f981738377ed84f05fb9f4cc1ce9913cd72f89432", func := "larderwick/larderwicklaw2.ServeDouble", spec := "serveDouble", unfollowed := true, recurses := true, plainKeys := false, apart := false }
def ServeDoubleSaid : Prop := serveDoubleRow.holds Try.pinned (OpenSpec.ofChange serveDoubleSpec)

/-- ITS FALSE NEIGHBOUR: 'it returns false'. Refute it at one input. -/
def serveDoubleWrong : ChangeSpec := { name := "serveDouble", fn := fun _ => fun
  | [d1, d2] => { results := [.lit (.bool false)], args := [d1, d2] }
  | _ => none }
def ServeDoubleWrongFalsely : Prop := serveDoubleRow.holds Try.pinned (OpenSpec.ofChange serveDoubleWrong)

/-- 'larderwicklaw2.ServeMirror': WHATEVER THE INPUT: true; the input reads as it did. -/
def serveMirrorSpec : ChangeSpec := { name := "serveMirror", fn := fun _ => fun
  | [d1, d2] => { results := [.lit (.bool true)], args := [d1, d2] }
  | _ => none }
def serveMirrorRow : OpenClaim := { program := "ytibefbboilpfmaa", sum := "044d05cf4d4b9cd0482d978f981738377ed84f05fb9f4cc1ce9913cd72f89432", func := "larderwick/larderwicklaw2.ServeMirror", spec := "serveMirror", unfollowed := true, recurses := true, plainKeys := false, apart := false }
def ServeMirrorSaid : Prop := serveMirrorRow.holds Try.pinned (OpenSpec.ofChange serveMirrorSpec)

/-- ITS FALSE NEIGHBOUR: 'it returns false'. Refute it at one input. -/
def serveMirrorWrong : ChangeSpec := { name := "serveMirror", fn := fun _ => fun
  | [d1, d2] => { results := [.lit (.bool false)], args := [d1, d2] }
  | _ => none }
def ServeMirrorWrongFalsely : Prop := serveMirrorRow.holds Try.pinned (OpenSpec.ofChange serveMirrorWrong)

/-- 'larderwicklaw2.ServeLeast': WHATEVER THE INPUT: true; the input reads as it did. -/
def serveLeastSpec : ChangeSpec := { name := "serveLeast", fn := fun _ => fun
  | [d1, d2, d3] => { results := [.lit (.bool true)], args := [d1, d2, d3] }
  | _ => none }
def serveLeastRow : OpenClaim := { program := "ytibefbboilpfmaa", sum := "044d05cf4d4b9cd0482d978f981738377ed84f05fb9f4cc1ce9913cd72f89432", func := "larderwick/larderwicklaw2.ServeLeast", spec := "serveLeast", unfollowed := true, recurses := true, plainKeys := false, apart := false }
def ServeLeastSaid : Prop := serveLeastRow.holds Try.pinned (OpenSpec.ofChange serveLeastSpec)

/-- ITS FALSE NEIGHBOUR: 'it returns false'. Refute it at one input. -/
def serveLeastWrong : ChangeSpec := { name := "serveLeast", fn := fun _ => fun
  | [d1, d2, d3] => { results := [.lit (.bool false)], args := [d1, d2, d3] }
  | _ => none }
def ServeLeastWrongFalsely : Prop := serveLeastRow.holds Try.pinned (OpenSpec.ofChange serveLeastWrong)

/-- 'larderwicklaw2.ServeThere': WHATEVER THE INPUT: true; the input reads as it did. -/
def serveThereSpec : ChangeSpec := { name := "serveThere", fn := fun _ => fun
  | [d1, d2] => { results := [.lit (.bool true)], args := [d1, d2] }
  | _ => none }
def serveThereRow : OpenClaim := { program := "ytibefbboilpfmaa", sum := "044d05cf4d4b9cd0482d978f981738377ed84f05fb9f4cc1ce9913cd72f89432", func := "larderwick/larderwicklaw2.ServeThere", spec := "serveThere", unfollowed := true, recurses := true, plainKeys := false, apart := false }
def ServeThereSaid : Prop := serveThereRow.holds Try.pinned (OpenSpec.ofChange serveThereSpec)

/-- ITS FALSE NEIGHBOUR: 'it returns false'. Refute it at one input. -/
def serveThereWrong : ChangeSpec := { name := "serveThere", fn := fun _ => fun
  | [d1, d2] => { results := [.lit (.bool false)], args := [d1, d2] }
  | _ => none }
def ServeThereWrongFalsely : Prop := serveThereRow.holds Try.pinned (OpenSpec.ofChange serveThereWrong)

/-- 'larderwicklaw2.ServeOne': WHATEVER THE INPUT: true; the input reads as it did. -/
def serveOneSpec : ChangeSpec := { name := "serveOne", fn := fun _ => fun
  | [d1, d2] => { results := [.lit (.bool true)], args := [d1, d2] }
  | _ => none }
def serveOneRow : OpenClaim := { program := "ytibefbboilpfmaa", sum := "044d05cf4d4b9cd0482d978f981738377ed84f05fb9f4cc1ce9913cd72f89432", func := "larderwick/larderwicklaw2.ServeOne", spec := "serveOne", unfollowed := true, recurses := true, plainKeys := false, apart := false }
def ServeOneSaid : Prop := serveOneRow.holds Try.pinned (OpenSpec.ofChange serveOneSpec)

/-- ITS FALSE NEIGHBOUR: 'it returns false'. Refute it at one input. -/
def serveOneWrong : ChangeSpec := { name := "serveOne", fn := fun _ => fun
  | [d1, d2] => { results := [.lit (.bool false)], args := [d1, d2] }
  | _ => none }
def ServeOneWrongFalsely : Prop := serveOneRow.holds Try.pinned (OpenSpec.ofChange serveOneWrong)

/- THE SECOND FORM. 'bulk': how many values and letters a reading holds, each counted each time it is reached (what is shared counts as often as it is met; a slice's spare places count too). A statement '..UptoSaid' is the law's where the arguments, and the package variables that the reading takes, are together of bulk at most 1048576: NARROWER than '..Said'. Prove '..Said' where nothing that the law and all that it calls make is longer than what came in: it says more and counts as full. Else prove '..UptoSaid'. A law counts once. -/
mutual
def uptoBulk {H : Type} : DataW H → Nat
  | .lit (.string bytes) => bytes.length + 1
  | .lit _ => 1
  | .nil => 1
  | .ptr d => uptoBulk d + 1
  | .slice elems spare => uptoBulkAll elems + uptoBulkAll spare + 1
  | .agg parts => uptoBulkAll parts + 1
  | .iface _ d => uptoBulk d + 1
  | .map entries => uptoBulkEntries entries + 1
  | .held _ => 1
def uptoBulkAll {H : Type} : List (DataW H) → Nat
  | [] => 0
  | d :: r => uptoBulk d + uptoBulkAll r
def uptoBulkEntries {H : Type} : List (Lit × DataW H) → Nat
  | [] => 0
  | x :: r => uptoBulkEntry x + uptoBulkEntries r
def uptoBulkEntry {H : Type} : Lit × DataW H → Nat
  | (.string bytes, d) => bytes.length + uptoBulk d + 1
  | (_, d) => uptoBulk d + 1
 end
def uptoSmall : (H : Type) → List (DataW H) → Bool := fun _ ds => decide (uptoBulkAll ds ≤ 1048576)
def OpenSpec.upto (s : _root_.Go.ChangeSpec) : _root_.Go.OpenSpec := { _root_.Go.OpenSpec.ofChange s with cond := some uptoSmall }

/-- 'larderwicklaw2.ServeDouble', WHERE WHAT IT READS IS OF BULK AT MOST 1048576: true; the input reads as it did. -/
def serveDoubleUptoRow : OpenClaim := { program := "ytibefbboilpfmaa", sum := "044d05cf4d4b9cd0482d978f981738377ed84f05fb9f4cc1ce9913cd72f89432", func := "larderwick/larderwicklaw2.ServeDouble", spec := "serveDouble", unfollowed := true, recurses := true, plainKeys := false, apart := false, narrowed := true }
def ServeDoubleUptoSaid : Prop := serveDoubleUptoRow.holds Try.pinned (OpenSpec.upto serveDoubleSpec)

/-- 'larderwicklaw2.ServeMirror', WHERE WHAT IT READS IS OF BULK AT MOST 1048576: true; the input reads as it did. -/
def serveMirrorUptoRow : OpenClaim := { program := "ytibefbboilpfmaa", sum := "044d05cf4d4b9cd0482d978f981738377ed84f05fb9f4cc1ce9913cd72f89432", func := "larderwick/larderwicklaw2.ServeMirror", spec := "serveMirror", unfollowed := true, recurses := true, plainKeys := false, apart := false, narrowed := true }
def ServeMirrorUptoSaid : Prop := serveMirrorUptoRow.holds Try.pinned (OpenSpec.upto serveMirrorSpec)

/-- 'larderwicklaw2.ServeLeast', WHERE WHAT IT READS IS OF BULK AT MOST 1048576: true; the input reads as it did. -/
def serveLeastUptoRow : OpenClaim := { program := "ytibefbboilpfmaa", sum := "044d05cf4d4b9cd0482d978f981738377ed84f05fb9f4cc1ce9913cd72f89432", func := "larderwick/larderwicklaw2.ServeLeast", spec := "serveLeast", unfollowed := true, recurses := true, plainKeys := false, apart := false, narrowed := true }
def ServeLeastUptoSaid : Prop := serveLeastUptoRow.holds Try.pinned (OpenSpec.upto serveLeastSpec)

/-- 'larderwicklaw2.ServeThere', WHERE WHAT IT READS IS OF BULK AT MOST 1048576: true; the input reads as it did. -/
def serveThereUptoRow : OpenClaim := { program := "ytibefbboilpfmaa", sum := "044d05cf4d4b9cd0482d978f981738377ed84f05fb9f4cc1ce9913cd72f89432", func := "larderwick/larderwicklaw2.ServeThere", spec := "serveThere", unfollowed := true, recurses := true, plainKeys := false, apart := false, narrowed := true }
def ServeThereUptoSaid : Prop := serveThereUptoRow.holds Try.pinned (OpenSpec.upto serveThereSpec)

/-- 'larderwicklaw2.ServeOne', WHERE WHAT IT READS IS OF BULK AT MOST 1048576: true; the input reads as it did. -/
def serveOneUptoRow : OpenClaim := { program := "ytibefbboilpfmaa", sum := "044d05cf4d4b9cd0482d978f981738377ed84f05fb9f4cc1ce9913cd72f89432", func := "larderwick/larderwicklaw2.ServeOne", spec := "serveOne", unfollowed := true, recurses := true, plainKeys := false, apart := false, narrowed := true }
def ServeOneUptoSaid : Prop := serveOneUptoRow.holds Try.pinned (OpenSpec.upto serveOneSpec)

end Rows
end Go.Proofs.Ytibefbboilpfmaa
