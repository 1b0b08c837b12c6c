/-
  No cell of these rows narrows 'for every input' (looked for: loops, veiled, ifaces, maps, wideKeys, modest, calm, conditions, laid).
  DERIVED. THE GIVEN ROWS OF THIS SEAT. 6 by the template 'for every input the law returns true; each argument reads behind the call as it read before'; 0 by the template 'total and deterministic' (their statements: YtdlfinaklnegkaaTotals.lean).
  GIVEN WITH THE SEED: the statements are not yours to turn. If you find one false, say at which input.
  Laid BY PROGRAM, IN A SANDBOX (cutbox-rows.mjs): the forced cells as the released guide's own fill.sh prints them over the translation a08dccf8923a1e1b… (all of the seat's roots in one cut). By AI agents, Wed Nov 11 2026. No macro, syntax, notation, axiom, sorry.
-/
import Derived.Test.YtdlfinaklnegkaaChecked
import GoSem.Claim
import GoSem.ClaimJoined
import GoSem.ClaimMapViews
import Derived.JoinedTies
import Derived.KernelRfl
namespace Go.Proofs.Ytdlfinaklnegkaa
/- THE CELL 'sum', in the pinned program and in every row, IS THE sha256 OF THE DUMP (.gsa) THAT YtdlfinaklnegkaaProg.lean LOADS. Nothing in Lean hashes anything: it is a label: what it is worth is what the hold of that sum in a sandbox is worth. -/
noncomputable def Try.pinned : Pinned := { name := "ytdlfinaklnegkaa", sum := "a08dccf8923a1e1b7a43c3d4931928a827b97836f60ca42c49c05e7f5a27fe58", checked := Try.checked }
namespace Rows
def none {H : Type} : Left H := { results := [], args := [] }

/-- 'larderwicklaw1.PlayMany': WHATEVER THE INPUT: true; the input reads as it did. -/
def playManySpec : ChangeSpec := { name := "playMany", fn := fun _ => fun
  | [d1, d2, d3] => { results := [.lit (.bool true)], args := [d1, d2, d3] }
  | _ => none }
def playManyRow : OpenClaim := { program := "ytdlfinaklnegkaa", sum := "a08dccf8923a1e1b7a43c3d4931928a827b97836f60ca42c49c05e7f5a27fe58", func := "larderwick/larderwicklaw1.PlayMany", spec := "playMany", recurses := true, apart := false }
def PlayManySaid : Prop := playManyRow.holds Try.pinned (OpenSpec.ofChange playManySpec)

/-- ITS FALSE NEIGHBOUR: 'it returns false'. Refute it at one input. -/
def playManyWrong : ChangeSpec := { name := "playMany", fn := fun _ => fun
  | [d1, d2, d3] => { results := [.lit (.bool false)], args := [d1, d2, d3] }
  | _ => none }
def PlayManyWrongFalsely : Prop := playManyRow.holds Try.pinned (OpenSpec.ofChange playManyWrong)

/-- 'larderwicklaw1.OptMore': WHATEVER THE INPUT: true; the input reads as it did. -/
def optMoreSpec : ChangeSpec := { name := "optMore", fn := fun _ => fun
  | [d1, d2] => { results := [.lit (.bool true)], args := [d1, d2] }
  | _ => none }
def optMoreRow : OpenClaim := { program := "ytdlfinaklnegkaa", sum := "a08dccf8923a1e1b7a43c3d4931928a827b97836f60ca42c49c05e7f5a27fe58", func := "larderwick/larderwicklaw1.OptMore", spec := "optMore", unfollowed := true, recurses := true, apart := false }
def OptMoreSaid : Prop := optMoreRow.holds Try.pinned (OpenSpec.ofChange optMoreSpec)

/-- ITS FALSE NEIGHBOUR: 'it returns false'. Refute it at one input. -/
def optMoreWrong : ChangeSpec := { name := "optMore", fn := fun _ => fun
  | [d1, d2] => { results := [.lit (.bool false)], args := [d1, d2] }
  | _ => none }
def OptMoreWrongFalsely : Prop := optMoreRow.holds Try.pinned (OpenSpec.ofChange optMoreWrong)

/-- 'larderwicklaw1.OptTurned': WHATEVER THE INPUT: true; the input reads as it did. -/
def optTurnedSpec : ChangeSpec := { name := "optTurned", fn := fun _ => fun
  | [d1, d2] => { results := [.lit (.bool true)], args := [d1, d2] }
  | _ => none }
def optTurnedRow : OpenClaim := { program := "ytdlfinaklnegkaa", sum := "a08dccf8923a1e1b7a43c3d4931928a827b97836f60ca42c49c05e7f5a27fe58", func := "larderwick/larderwicklaw1.OptTurned", spec := "optTurned", unfollowed := true, recurses := true, apart := false }
def OptTurnedSaid : Prop := optTurnedRow.holds Try.pinned (OpenSpec.ofChange optTurnedSpec)

/-- ITS FALSE NEIGHBOUR: 'it returns false'. Refute it at one input. -/
def optTurnedWrong : ChangeSpec := { name := "optTurned", fn := fun _ => fun
  | [d1, d2] => { results := [.lit (.bool false)], args := [d1, d2] }
  | _ => none }
def OptTurnedWrongFalsely : Prop := optTurnedRow.holds Try.pinned (OpenSpec.ofChange optTurnedWrong)

/-- 'larderwicklaw1.OptBegin': WHATEVER THE INPUT: true; the input reads as it did. -/
def optBeginSpec : ChangeSpec := { name := "optBegin", fn := fun _ => fun
  | [d1, d2, d3] => { results := [.lit (.bool true)], args := [d1, d2, d3] }
  | _ => none }
def optBeginRow : OpenClaim := { program := "ytdlfinaklnegkaa", sum := "a08dccf8923a1e1b7a43c3d4931928a827b97836f60ca42c49c05e7f5a27fe58", func := "larderwick/larderwicklaw1.OptBegin", spec := "optBegin", unfollowed := true, recurses := true, apart := false }
def OptBeginSaid : Prop := optBeginRow.holds Try.pinned (OpenSpec.ofChange optBeginSpec)

/-- ITS FALSE NEIGHBOUR: 'it returns false'. Refute it at one input. -/
def optBeginWrong : ChangeSpec := { name := "optBegin", fn := fun _ => fun
  | [d1, d2, d3] => { results := [.lit (.bool false)], args := [d1, d2, d3] }
  | _ => none }
def OptBeginWrongFalsely : Prop := optBeginRow.holds Try.pinned (OpenSpec.ofChange optBeginWrong)

/-- 'larderwicklaw1.OptPlays': WHATEVER THE INPUT: true; the input reads as it did. -/
def optPlaysSpec : ChangeSpec := { name := "optPlays", fn := fun _ => fun
  | [d1, d2] => { results := [.lit (.bool true)], args := [d1, d2] }
  | _ => none }
def optPlaysRow : OpenClaim := { program := "ytdlfinaklnegkaa", sum := "a08dccf8923a1e1b7a43c3d4931928a827b97836f60ca42c49c05e7f5a27fe58", func := "larderwick/larderwicklaw1.OptPlays", spec := "optPlays", unfollowed := true, recurses := true, apart := false }
def OptPlaysSaid : Prop := optPlaysRow.holds Try.pinned (OpenSpec.ofChange optPlaysSpec)

/-- ITS FALSE NEIGHBOUR: 'it returns false'. Refute it at one input. -/
def optPlaysWrong : ChangeSpec := { name := "optPlays", fn := fun _ => fun
  | [d1, d2] => { results := [.lit (.bool false)], args := [d1, d2] }
  | _ => none }
def OptPlaysWrongFalsely : Prop := optPlaysRow.holds Try.pinned (OpenSpec.ofChange optPlaysWrong)

/-- 'larderwicklaw1.OptLeast': WHATEVER THE INPUT: true; the input reads as it did. -/
def optLeastSpec : ChangeSpec := { name := "optLeast", fn := fun _ => fun
  | [d1, d2, d3] => { results := [.lit (.bool true)], args := [d1, d2, d3] }
  | _ => none }
def optLeastRow : OpenClaim := { program := "ytdlfinaklnegkaa", sum := "a08dccf8923a1e1b7a43c3d4931928a827b97836f60ca42c49c05e7f5a27fe58", func := "larderwick/larderwicklaw1.OptLeast", spec := "optLeast", inPlace := ["slices.overlaps[int]"], unfollowed := true, recurses := true, apart := false }
def OptLeastSaid : Prop := optLeastRow.holds Try.pinned (OpenSpec.ofChange optLeastSpec)

/-- ITS FALSE NEIGHBOUR: 'it returns false'. Refute it at one input. -/
def optLeastWrong : ChangeSpec := { name := "optLeast", fn := fun _ => fun
  | [d1, d2, d3] => { results := [.lit (.bool false)], args := [d1, d2, d3] }
  | _ => none }
def OptLeastWrongFalsely : Prop := optLeastRow.holds Try.pinned (OpenSpec.ofChange optLeastWrong)

/- THE SECOND FORM. 'bulk': how many values and letters a reading holds, each counted each time it is reached (what is shared counts as often as it is met; a slice's spare places count too). A statement '..UptoSaid' is the law's where the arguments, and the package variables that the reading takes, are together of bulk at most 1048576: NARROWER than '..Said'. Prove '..Said' where nothing that the law and all that it calls make is longer than what came in: it says more and counts as full. Else prove '..UptoSaid'. A law counts once. -/
mutual
def uptoBulk {H : Type} : DataW H → Nat
  | .lit (.string bytes) => bytes.length + 1
  | .lit _ => 1
  | .nil => 1
  | .ptr d => uptoBulk d + 1
  | .slice elems spare => uptoBulkAll elems + uptoBulkAll spare + 1
  | .agg parts => uptoBulkAll parts + 1
  | .iface _ d => uptoBulk d + 1
  | .map entries => uptoBulkEntries entries + 1
  | .held _ => 1
def uptoBulkAll {H : Type} : List (DataW H) → Nat
  | [] => 0
  | d :: r => uptoBulk d + uptoBulkAll r
def uptoBulkEntries {H : Type} : List (Lit × DataW H) → Nat
  | [] => 0
  | x :: r => uptoBulkEntry x + uptoBulkEntries r
def uptoBulkEntry {H : Type} : Lit × DataW H → Nat
  | (.string bytes, d) => bytes.length + uptoBulk d + 1
  | (_, d) => uptoBulk d + 1
 end
def uptoSmall : (H : Type) → List (DataW H) → Bool := fun _ ds => decide (uptoBulkAll ds ≤ 1048576)
def OpenSpec.upto (s : _root_.Go.ChangeSpec) : _root_.Go.OpenSpec := { _root_.Go.OpenSpec.ofChange s with cond := some uptoSmall }

/-- 'larderwicklaw1.PlayMany', WHERE WHAT IT READS IS OF BULK AT MOST 1048576: true; the input reads as it did. -/
def playManyUptoRow : OpenClaim := { program := "ytdlfinaklnegkaa", sum := "a08dccf8923a1e1b7a43c3d4931928a827b97836f60ca42c49c05e7f5a27fe58", func := "larderwick/larderwicklaw1.PlayMany", spec := "playMany", recurses := true, apart := false, narrowed := true }
def PlayManyUptoSaid : Prop := playManyUptoRow.holds Try.pinned (OpenSpec.upto playManySpec)

/-- 'larderwicklaw1.OptMore', WHERE WHAT IT READS IS OF BULK AT MOST 1048576: true; the input reads as it did. -/
def optMoreUptoRow : OpenClaim := { program := "ytdlfinaklnegkaa", sum := "a08dccf8923a1e1b7a43c3d4931928a827b97836f60ca42c49c05e7f5a27fe58", func := "larderwick/larderwicklaw1.OptMore", spec := "optMore", unfollowed := true, recurses := true, apart := false, narrowed := true }
def OptMoreUptoSaid : Prop := optMoreUptoRow.holds Try.pinned (OpenSpec.upto optMoreSpec)

/-- 'larderwicklaw1.OptTurned', WHERE WHAT IT READS IS OF BULK AT MOST 1048576: true; the input reads as it did. -/
def optTurnedUptoRow : OpenClaim := { program := "ytdlfinaklnegkaa", sum := "a08dccf8923a1e1b7a43c3d4931928a827b97836f60ca42c49c05e7f5a27fe58", func := "larderwick/larderwicklaw1.OptTurned", spec := "optTurned", unfollowed := true, recurses := true, apart := false, narrowed := true }
def OptTurnedUptoSaid : Prop := optTurnedUptoRow.holds Try.pinned (OpenSpec.upto optTurnedSpec)

/-- 'larderwicklaw1.OptBegin', WHERE WHAT IT READS IS OF BULK AT MOST 1048576: true; the input reads as it did. -/
def optBeginUptoRow : OpenClaim := { program := "ytdlfinaklnegkaa", sum := "a08dccf8923a1e1b7a43c3d4931928a827b97836f60ca42c49c05e7f5a27fe58", func := "larderwick/larderwicklaw1.OptBegin", spec := "optBegin", unfollowed := true, recurses := true, apart := false, narrowed := true }
def OptBeginUptoSaid : Prop := optBeginUptoRow.holds Try.pinned (OpenSpec.upto optBeginSpec)

/-- 'larderwicklaw1.OptPlays', WHERE WHAT IT READS IS OF BULK AT MOST 1048576: true; the input reads as it did. -/
def optPlaysUptoRow : OpenClaim := { program := "ytdlfinaklnegkaa", sum := "a08dccf8923a1e1b7a43c3d4931928a827b97836f60ca42c49c05e7f5a27fe58", func := "larderwick/larderwicklaw1.OptPlays", spec := "optPlays", unfollowed := true, recurses := true, apart := false, narrowed := true }
def OptPlaysUptoSaid : Prop := optPlaysUptoRow.holds Try.pinned (OpenSpec.upto optPlaysSpec)

/-- 'larderwicklaw1.OptLeast', WHERE WHAT IT READS IS OF BULK AT MOST 1048576: true; the input reads as it did. -/
def optLeastUptoRow : OpenClaim := { program := "ytdlfinaklnegkaa", sum := "a08dccf8923a1e1b7a43c3d4931928a827b97836f60ca42c49c05e7f5a27fe58", func := "larderwick/larderwicklaw1.OptLeast", spec := "optLeast", inPlace := ["slices.overlaps[int]"], unfollowed := true, recurses := true, apart := false, narrowed := true }
def OptLeastUptoSaid : Prop := optLeastUptoRow.holds Try.pinned (OpenSpec.upto optLeastSpec)

end Rows
end Go.Proofs.Ytdlfinaklnegkaa
