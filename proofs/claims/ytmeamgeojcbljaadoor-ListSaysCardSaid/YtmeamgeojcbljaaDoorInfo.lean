/- Facts on the element types of rows, and what a call that hands back two rows says. -/
import Derived.Test.YtmeamgeojcbljaaDoorRows
import Derived.Test.YtmeamgeojcbljaaDoorWords
import Derived.Test.YtmeamgeojcbljaaDoorLists
namespace Go.Proofs.YtmeamgeojcbljaaDoor
open Go.ChangeShapes Go.WideShapes Go.ChangeAt Go.RowKit
theorem infoI : (Tryd.prog.info? 3).map (fun i => (i.zero, i.size, i.bytes)) = some (some (.int .i64 0), 1, 8) := by kernel_rfl
theorem infoB : (Tryd.prog.info? 4).map (fun i => (i.zero, i.size, i.bytes)) = some (some (.bool false), 1, 1) := by kernel_rfl


/-- Two rows and no error, in new memory. -/
def Res2 (w w' : World) (e : Ending) (n : Nat) (hits : List Bool) (held : List Int) : Prop :=
  ∃ A1 c1 A2 n2 c2, e = .returned (.tuple #[.slice A1 n c1, .slice A2 n2 c2, .nilIface]) ∧ Row w' w.heap.size 4 (.slice A1 n c1) n (hits.map Value.bool) ∧
    Row w' w.heap.size 3 (.slice A2 n2 c2) n2 (held.map (Value.int .i64)) ∧ n2 ≤ 1048576 ∧ Below w.heap.size w w'
/-- Nothing, and an error. -/
def No2 (w w' : World) (e : Ending) : Prop := ∃ x, e = .returned (.tuple #[.slice none 0 0, .slice none 0 0, .iface 65 (.int .i64 x)]) ∧ w = w'

end Go.Proofs.YtmeamgeojcbljaaDoor
