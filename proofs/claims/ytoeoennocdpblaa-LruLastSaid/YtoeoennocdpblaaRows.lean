/-
  No cell of these rows narrows 'for every input' (looked for: loops, veiled, ifaces, maps, wideKeys, modest, calm, conditions, laid).
  DERIVED. THE GIVEN ROWS OF THIS SEAT. 8 by the template 'for every input the law returns true; each argument reads behind the call as it read before'; 0 by the template 'total and deterministic' (their statements: YtoeoennocdpblaaTotals.lean).
  GIVEN WITH THE SEED: the statements are not yours to turn. If you find one false, say at which input.
  Laid BY PROGRAM, IN A SANDBOX (cutbox-rows.mjs): the forced cells as the released guide's own fill.sh prints them over the translation 376c8fd11ae4771e… (all of the seat's roots in one cut). By AI agents, Wed Nov 11 2026. No macro, syntax, notation, axiom, sorry.
-/
import Derived.Test.YtoeoennocdpblaaChecked
import GoSem.Claim
import GoSem.ClaimJoined
import GoSem.ClaimMapViews
import Derived.JoinedTies
import Derived.KernelRfl
namespace Go.Proofs.Ytoeoennocdpblaa
/- THE CELL 'sum', in the pinned program and in every row, IS THE sha256 OF THE DUMP (.gsa) THAT YtoeoennocdpblaaProg.lean LOADS. Nothing in Lean hashes anything: it is a label: what it is worth is what the hold of that sum in a sandbox is worth. -/
noncomputable def Try.pinned : Pinned := { name := "ytoeoennocdpblaa", sum := "376c8fd11ae4771ea5ee6af05c5887b006e986d3903dce64995dcba931e7f508", checked := Try.checked }
namespace Rows
def none {H : Type} : Left H := { results := [], args := [] }

/-- 'larderwicklaw1.FifoLast': WHATEVER THE INPUT: true; the input reads as it did. -/
def fifoLastSpec : ChangeSpec := { name := "fifoLast", fn := fun _ => fun
  | [d1, d2] => { results := [.lit (.bool true)], args := [d1, d2] }
  | _ => none }
def fifoLastRow : OpenClaim := { program := "ytoeoennocdpblaa", sum := "376c8fd11ae4771ea5ee6af05c5887b006e986d3903dce64995dcba931e7f508", func := "larderwick/larderwicklaw1.FifoLast", spec := "fifoLast", apart := false }
def FifoLastSaid : Prop := fifoLastRow.holds Try.pinned (OpenSpec.ofChange fifoLastSpec)

/-- ITS FALSE NEIGHBOUR: 'it returns false'. Refute it at one input. -/
def fifoLastWrong : ChangeSpec := { name := "fifoLast", fn := fun _ => fun
  | [d1, d2] => { results := [.lit (.bool false)], args := [d1, d2] }
  | _ => none }
def FifoLastWrongFalsely : Prop := fifoLastRow.holds Try.pinned (OpenSpec.ofChange fifoLastWrong)

/-- 'larderwicklaw1.ClockFifo': WHATEVER THE INPUT: true; the input reads as it did. -/
def clockFifoSpec : ChangeSpec := { name := "clockFifo", fn := fun _ => fun
  | [d1, d2] => { results := [.lit (.bool true)], args := [d1, d2] }
  | _ => none }
def clockFifoRow : OpenClaim := { program := "ytoeoennocdpblaa", sum := "376c8fd11ae4771ea5ee6af05c5887b006e986d3903dce64995dcba931e7f508", func := "larderwick/larderwicklaw1.ClockFifo", spec := "clockFifo", unfollowed := true, recurses := true, apart := false }
def ClockFifoSaid : Prop := clockFifoRow.holds Try.pinned (OpenSpec.ofChange clockFifoSpec)

/-- ITS FALSE NEIGHBOUR: 'it returns false'. Refute it at one input. -/
def clockFifoWrong : ChangeSpec := { name := "clockFifo", fn := fun _ => fun
  | [d1, d2] => { results := [.lit (.bool false)], args := [d1, d2] }
  | _ => none }
def ClockFifoWrongFalsely : Prop := clockFifoRow.holds Try.pinned (OpenSpec.ofChange clockFifoWrong)

/-- 'larderwicklaw1.FlushPhase': WHATEVER THE INPUT: true; the input reads as it did. -/
def flushPhaseSpec : ChangeSpec := { name := "flushPhase", fn := fun _ => fun
  | [d1, d2] => { results := [.lit (.bool true)], args := [d1, d2] }
  | _ => none }
def flushPhaseRow : OpenClaim := { program := "ytoeoennocdpblaa", sum := "376c8fd11ae4771ea5ee6af05c5887b006e986d3903dce64995dcba931e7f508", func := "larderwick/larderwicklaw1.FlushPhase", spec := "flushPhase", apart := false }
def FlushPhaseSaid : Prop := flushPhaseRow.holds Try.pinned (OpenSpec.ofChange flushPhaseSpec)

/-- ITS FALSE NEIGHBOUR: 'it returns false'. Refute it at one input. -/
def flushPhaseWrong : ChangeSpec := { name := "flushPhase", fn := fun _ => fun
  | [d1, d2] => { results := [.lit (.bool false)], args := [d1, d2] }
  | _ => none }
def FlushPhaseWrongFalsely : Prop := flushPhaseRow.holds Try.pinned (OpenSpec.ofChange flushPhaseWrong)

/-- 'larderwicklaw1.LruNested': WHATEVER THE INPUT: true; the input reads as it did. -/
def lruNestedSpec : ChangeSpec := { name := "lruNested", fn := fun _ => fun
  | [d1, d2] => { results := [.lit (.bool true)], args := [d1, d2] }
  | _ => none }
def lruNestedRow : OpenClaim := { program := "ytoeoennocdpblaa", sum := "376c8fd11ae4771ea5ee6af05c5887b006e986d3903dce64995dcba931e7f508", func := "larderwick/larderwicklaw1.LruNested", spec := "lruNested", inPlace := ["slices.overlaps[int]"], apart := false }
def LruNestedSaid : Prop := lruNestedRow.holds Try.pinned (OpenSpec.ofChange lruNestedSpec)

/-- ITS FALSE NEIGHBOUR: 'it returns false'. Refute it at one input. -/
def lruNestedWrong : ChangeSpec := { name := "lruNested", fn := fun _ => fun
  | [d1, d2] => { results := [.lit (.bool false)], args := [d1, d2] }
  | _ => none }
def LruNestedWrongFalsely : Prop := lruNestedRow.holds Try.pinned (OpenSpec.ofChange lruNestedWrong)

/-- 'larderwicklaw1.LruAgain': WHATEVER THE INPUT: true; the input reads as it did. -/
def lruAgainSpec : ChangeSpec := { name := "lruAgain", fn := fun _ => fun
  | [d1, d2, d3] => { results := [.lit (.bool true)], args := [d1, d2, d3] }
  | _ => none }
def lruAgainRow : OpenClaim := { program := "ytoeoennocdpblaa", sum := "376c8fd11ae4771ea5ee6af05c5887b006e986d3903dce64995dcba931e7f508", func := "larderwick/larderwicklaw1.LruAgain", spec := "lruAgain", inPlace := ["slices.overlaps[int]"], apart := false }
def LruAgainSaid : Prop := lruAgainRow.holds Try.pinned (OpenSpec.ofChange lruAgainSpec)

/-- ITS FALSE NEIGHBOUR: 'it returns false'. Refute it at one input. -/
def lruAgainWrong : ChangeSpec := { name := "lruAgain", fn := fun _ => fun
  | [d1, d2, d3] => { results := [.lit (.bool false)], args := [d1, d2, d3] }
  | _ => none }
def LruAgainWrongFalsely : Prop := lruAgainRow.holds Try.pinned (OpenSpec.ofChange lruAgainWrong)

/-- 'larderwicklaw1.LruLast': WHATEVER THE INPUT: true; the input reads as it did. -/
def lruLastSpec : ChangeSpec := { name := "lruLast", fn := fun _ => fun
  | [d1, d2] => { results := [.lit (.bool true)], args := [d1, d2] }
  | _ => none }
def lruLastRow : OpenClaim := { program := "ytoeoennocdpblaa", sum := "376c8fd11ae4771ea5ee6af05c5887b006e986d3903dce64995dcba931e7f508", func := "larderwick/larderwicklaw1.LruLast", spec := "lruLast", inPlace := ["slices.overlaps[int]"], apart := false }
def LruLastSaid : Prop := lruLastRow.holds Try.pinned (OpenSpec.ofChange lruLastSpec)

/-- ITS FALSE NEIGHBOUR: 'it returns false'. Refute it at one input. -/
def lruLastWrong : ChangeSpec := { name := "lruLast", fn := fun _ => fun
  | [d1, d2] => { results := [.lit (.bool false)], args := [d1, d2] }
  | _ => none }
def LruLastWrongFalsely : Prop := lruLastRow.holds Try.pinned (OpenSpec.ofChange lruLastWrong)

/-- 'larderwicklaw1.FlushLru': WHATEVER THE INPUT: true; the input reads as it did. -/
def flushLruSpec : ChangeSpec := { name := "flushLru", fn := fun _ => fun
  | [d1, d2] => { results := [.lit (.bool true)], args := [d1, d2] }
  | _ => none }
def flushLruRow : OpenClaim := { program := "ytoeoennocdpblaa", sum := "376c8fd11ae4771ea5ee6af05c5887b006e986d3903dce64995dcba931e7f508", func := "larderwick/larderwicklaw1.FlushLru", spec := "flushLru", inPlace := ["slices.overlaps[int]"], apart := false }
def FlushLruSaid : Prop := flushLruRow.holds Try.pinned (OpenSpec.ofChange flushLruSpec)

/-- ITS FALSE NEIGHBOUR: 'it returns false'. Refute it at one input. -/
def flushLruWrong : ChangeSpec := { name := "flushLru", fn := fun _ => fun
  | [d1, d2] => { results := [.lit (.bool false)], args := [d1, d2] }
  | _ => none }
def FlushLruWrongFalsely : Prop := flushLruRow.holds Try.pinned (OpenSpec.ofChange flushLruWrong)

/-- 'larderwicklaw1.ClockAll': WHATEVER THE INPUT: true; the input reads as it did. -/
def clockAllSpec : ChangeSpec := { name := "clockAll", fn := fun _ => fun
  | [d1, d2] => { results := [.lit (.bool true)], args := [d1, d2] }
  | _ => none }
def clockAllRow : OpenClaim := { program := "ytoeoennocdpblaa", sum := "376c8fd11ae4771ea5ee6af05c5887b006e986d3903dce64995dcba931e7f508", func := "larderwick/larderwicklaw1.ClockAll", spec := "clockAll", inPlace := ["slices.overlaps[int]"], unfollowed := true, recurses := true, apart := false }
def ClockAllSaid : Prop := clockAllRow.holds Try.pinned (OpenSpec.ofChange clockAllSpec)

/-- ITS FALSE NEIGHBOUR: 'it returns false'. Refute it at one input. -/
def clockAllWrong : ChangeSpec := { name := "clockAll", fn := fun _ => fun
  | [d1, d2] => { results := [.lit (.bool false)], args := [d1, d2] }
  | _ => none }
def ClockAllWrongFalsely : Prop := clockAllRow.holds Try.pinned (OpenSpec.ofChange clockAllWrong)

/- THE SECOND FORM. 'bulk': how many values and letters a reading holds, each counted each time it is reached (what is shared counts as often as it is met; a slice's spare places count too). A statement '..UptoSaid' is the law's where the arguments, and the package variables that the reading takes, are together of bulk at most 1048576: NARROWER than '..Said'. Prove '..Said' where nothing that the law and all that it calls make is longer than what came in: it says more and counts as full. Else prove '..UptoSaid'. A law counts once. -/
mutual
def uptoBulk {H : Type} : DataW H → Nat
  | .lit (.string bytes) => bytes.length + 1
  | .lit _ => 1
  | .nil => 1
  | .ptr d => uptoBulk d + 1
  | .slice elems spare => uptoBulkAll elems + uptoBulkAll spare + 1
  | .agg parts => uptoBulkAll parts + 1
  | .iface _ d => uptoBulk d + 1
  | .map entries => uptoBulkEntries entries + 1
  | .held _ => 1
def uptoBulkAll {H : Type} : List (DataW H) → Nat
  | [] => 0
  | d :: r => uptoBulk d + uptoBulkAll r
def uptoBulkEntries {H : Type} : List (Lit × DataW H) → Nat
  | [] => 0
  | x :: r => uptoBulkEntry x + uptoBulkEntries r
def uptoBulkEntry {H : Type} : Lit × DataW H → Nat
  | (.string bytes, d) => bytes.length + uptoBulk d + 1
  | (_, d) => uptoBulk d + 1
 end
def uptoSmall : (H : Type) → List (DataW H) → Bool := fun _ ds => decide (uptoBulkAll ds ≤ 1048576)
def OpenSpec.upto (s : _root_.Go.ChangeSpec) : _root_.Go.OpenSpec := { _root_.Go.OpenSpec.ofChange s with cond := some uptoSmall }

/-- 'larderwicklaw1.FifoLast', WHERE WHAT IT READS IS OF BULK AT MOST 1048576: true; the input reads as it did. -/
def fifoLastUptoRow : OpenClaim := { program := "ytoeoennocdpblaa", sum := "376c8fd11ae4771ea5ee6af05c5887b006e986d3903dce64995dcba931e7f508", func := "larderwick/larderwicklaw1.FifoLast", spec := "fifoLast", apart := false, narrowed := true }
def FifoLastUptoSaid : Prop := fifoLastUptoRow.holds Try.pinned (OpenSpec.upto fifoLastSpec)

/-- 'larderwicklaw1.ClockFifo', WHERE WHAT IT READS IS OF BULK AT MOST 1048576: true; the input reads as it did. -/
def clockFifoUptoRow : OpenClaim := { program := "ytoeoennocdpblaa", sum := "376c8fd11ae4771ea5ee6af05c5887b006e986d3903dce64995dcba931e7f508", func := "larderwick/larderwicklaw1.ClockFifo", spec := "clockFifo", unfollowed := true, recurses := true, apart := false, narrowed := true }
def ClockFifoUptoSaid : Prop := clockFifoUptoRow.holds Try.pinned (OpenSpec.upto clockFifoSpec)

/-- 'larderwicklaw1.FlushPhase', WHERE WHAT IT READS IS OF BULK AT MOST 1048576: true; the input reads as it did. -/
def flushPhaseUptoRow : OpenClaim := { program := "ytoeoennocdpblaa", sum := "376c8fd11ae4771ea5ee6af05c5887b006e986d3903dce64995dcba931e7f508", func := "larderwick/larderwicklaw1.FlushPhase", spec := "flushPhase", apart := false, narrowed := true }
def FlushPhaseUptoSaid : Prop := flushPhaseUptoRow.holds Try.pinned (OpenSpec.upto flushPhaseSpec)

/-- 'larderwicklaw1.LruNested', WHERE WHAT IT READS IS OF BULK AT MOST 1048576: true; the input reads as it did. -/
def lruNestedUptoRow : OpenClaim := { program := "ytoeoennocdpblaa", sum := "376c8fd11ae4771ea5ee6af05c5887b006e986d3903dce64995dcba931e7f508", func := "larderwick/larderwicklaw1.LruNested", spec := "lruNested", inPlace := ["slices.overlaps[int]"], apart := false, narrowed := true }
def LruNestedUptoSaid : Prop := lruNestedUptoRow.holds Try.pinned (OpenSpec.upto lruNestedSpec)

/-- 'larderwicklaw1.LruAgain', WHERE WHAT IT READS IS OF BULK AT MOST 1048576: true; the input reads as it did. -/
def lruAgainUptoRow : OpenClaim := { program := "ytoeoennocdpblaa", sum := "376c8fd11ae4771ea5ee6af05c5887b006e986d3903dce64995dcba931e7f508", func := "larderwick/larderwicklaw1.LruAgain", spec := "lruAgain", inPlace := ["slices.overlaps[int]"], apart := false, narrowed := true }
def LruAgainUptoSaid : Prop := lruAgainUptoRow.holds Try.pinned (OpenSpec.upto lruAgainSpec)

/-- 'larderwicklaw1.LruLast', WHERE WHAT IT READS IS OF BULK AT MOST 1048576: true; the input reads as it did. -/
def lruLastUptoRow : OpenClaim := { program := "ytoeoennocdpblaa", sum := "376c8fd11ae4771ea5ee6af05c5887b006e986d3903dce64995dcba931e7f508", func := "larderwick/larderwicklaw1.LruLast", spec := "lruLast", inPlace := ["slices.overlaps[int]"], apart := false, narrowed := true }
def LruLastUptoSaid : Prop := lruLastUptoRow.holds Try.pinned (OpenSpec.upto lruLastSpec)

/-- 'larderwicklaw1.FlushLru', WHERE WHAT IT READS IS OF BULK AT MOST 1048576: true; the input reads as it did. -/
def flushLruUptoRow : OpenClaim := { program := "ytoeoennocdpblaa", sum := "376c8fd11ae4771ea5ee6af05c5887b006e986d3903dce64995dcba931e7f508", func := "larderwick/larderwicklaw1.FlushLru", spec := "flushLru", inPlace := ["slices.overlaps[int]"], apart := false, narrowed := true }
def FlushLruUptoSaid : Prop := flushLruUptoRow.holds Try.pinned (OpenSpec.upto flushLruSpec)

/-- 'larderwicklaw1.ClockAll', WHERE WHAT IT READS IS OF BULK AT MOST 1048576: true; the input reads as it did. -/
def clockAllUptoRow : OpenClaim := { program := "ytoeoennocdpblaa", sum := "376c8fd11ae4771ea5ee6af05c5887b006e986d3903dce64995dcba931e7f508", func := "larderwick/larderwicklaw1.ClockAll", spec := "clockAll", inPlace := ["slices.overlaps[int]"], unfollowed := true, recurses := true, apart := false, narrowed := true }
def ClockAllUptoSaid : Prop := clockAllUptoRow.holds Try.pinned (OpenSpec.upto clockAllSpec)

end Rows
end Go.Proofs.Ytoeoennocdpblaa
