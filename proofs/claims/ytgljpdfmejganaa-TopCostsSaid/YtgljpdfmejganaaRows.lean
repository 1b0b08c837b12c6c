/-
  No cell of these rows narrows 'for every input' (looked for: loops, veiled, ifaces, maps, wideKeys, modest, calm, conditions, laid).
  DERIVED. THE GIVEN ROWS OF THIS SEAT. 3 by the template 'for every input the law returns true; each argument reads behind the call as it read before'; 0 by the template 'total and deterministic' (their statements: YtgljpdfmejganaaTotals.lean).
  GIVEN WITH THE SEED: the statements are not yours to turn. If you find one false, say at which input.
  Laid BY PROGRAM, IN A SANDBOX (cutbox-rows.mjs): the forced cells as the released guide's own fill.sh prints them over the translation 6df744af1edea6be… (all of the seat's roots in one cut). By AI agents, Wed Nov 11 2026. No macro, syntax, notation, axiom, sorry.
-/
import Derived.Test.YtgljpdfmejganaaChecked
import GoSem.Claim
import GoSem.ClaimJoined
import GoSem.ClaimMapViews
import Derived.JoinedTies
import Derived.KernelRfl
namespace Go.Proofs.Ytgljpdfmejganaa
/- THE CELL 'sum', in the pinned program and in every row, IS THE sha256 OF THE DUMP (.gsa) THAT YtgljpdfmejganaaProg.lean LOADS. Nothing in Lean hashes anything: it is a label: what it is worth is what the hold of that sum in a sandbox is worth. -/
noncomputable def Try.pinned : Pinned := { name := "ytgljpdfmejganaa", sum := "6df744af1edea6be95828a1965bcc1e54faf7ed6ae51b656ce738444e6cc785a", checked := Try.checked }
namespace Rows
def none {H : Type} : Left H := { results := [], args := [] }

/-- 'larderwicktop.TopRent': WHATEVER THE INPUT: true; the input reads as it did. -/
def topRentSpec : ChangeSpec := { name := "topRent", fn := fun _ => fun
  | [d1, d2, d3, d4] => { results := [.lit (.bool true)], args := [d1, d2, d3, d4] }
  | _ => none }
def topRentRow : OpenClaim := { program := "ytgljpdfmejganaa", sum := "6df744af1edea6be95828a1965bcc1e54faf7ed6ae51b656ce738444e6cc785a", func := "larderwick/larderwicktop.TopRent", spec := "topRent", unfollowed := true, recurses := true, plainKeys := false, apart := false }
def TopRentSaid : Prop := topRentRow.holds Try.pinned (OpenSpec.ofChange topRentSpec)

/-- ITS FALSE NEIGHBOUR: 'it returns false'. Refute it at one input. -/
def topRentWrong : ChangeSpec := { name := "topRent", fn := fun _ => fun
  | [d1, d2, d3, d4] => { results := [.lit (.bool false)], args := [d1, d2, d3, d4] }
  | _ => none }
def TopRentWrongFalsely : Prop := topRentRow.holds Try.pinned (OpenSpec.ofChange topRentWrong)

/-- 'larderwicklaw2.LandOpt': WHATEVER THE INPUT: true; the input reads as it did. -/
def landOptSpec : ChangeSpec := { name := "landOpt", fn := fun _ => fun
  | [d1, d2, d3, d4] => { results := [.lit (.bool true)], args := [d1, d2, d3, d4] }
  | _ => none }
def landOptRow : OpenClaim := { program := "ytgljpdfmejganaa", sum := "6df744af1edea6be95828a1965bcc1e54faf7ed6ae51b656ce738444e6cc785a", func := "larderwick/larderwicklaw2.LandOpt", spec := "landOpt", unfollowed := true, recurses := true, plainKeys := false, apart := false }
def LandOptSaid : Prop := landOptRow.holds Try.pinned (OpenSpec.ofChange landOptSpec)

/-- ITS FALSE NEIGHBOUR: 'it returns false'. Refute it at one input. -/
def landOptWrong : ChangeSpec := { name := "landOpt", fn := fun _ => fun
  | [d1, d2, d3, d4] => { results := [.lit (.bool false)], args := [d1, d2, d3, d4] }
  | _ => none }
def LandOptWrongFalsely : Prop := landOptRow.holds Try.pinned (OpenSpec.ofChange landOptWrong)

/-- 'larderwicktop.TopCosts': WHATEVER THE INPUT: true; the input reads as it did. -/
def topCostsSpec : ChangeSpec := { name := "topCosts", fn := fun _ => fun
  | [d1, d2, d3, d4, d5, d6, d7] => { results := [.lit (.bool true)], args := [d1, d2, d3, d4, d5, d6, d7] }
  | _ => none }
def topCostsRow : OpenClaim := { program := "ytgljpdfmejganaa", sum := "6df744af1edea6be95828a1965bcc1e54faf7ed6ae51b656ce738444e6cc785a", func := "larderwick/larderwicktop.TopCosts", spec := "topCosts", inPlace := ["slices.overlaps[int]"], unfollowed := true, recurses := true, plainKeys := false, apart := false }
def TopCostsSaid : Prop := topCostsRow.holds Try.pinned (OpenSpec.ofChange topCostsSpec)

/-- ITS FALSE NEIGHBOUR: 'it returns false'. Refute it at one input. -/
def topCostsWrong : ChangeSpec := { name := "topCosts", fn := fun _ => fun
  | [d1, d2, d3, d4, d5, d6, d7] => { results := [.lit (.bool false)], args := [d1, d2, d3, d4, d5, d6, d7] }
  | _ => none }
def TopCostsWrongFalsely : Prop := topCostsRow.holds Try.pinned (OpenSpec.ofChange topCostsWrong)

/- THE SECOND FORM. 'bulk': how many values and letters a reading holds, each counted each time it is reached (what is shared counts as often as it is met; a slice's spare places count too). A statement '..UptoSaid' is the law's where the arguments, and the package variables that the reading takes, are together of bulk at most 1048576: NARROWER than '..Said'. Prove '..Said' where nothing that the law and all that it calls make is longer than what came in: it says more and counts as full. Else prove '..UptoSaid'. A law counts once. -/
mutual
def uptoBulk {H : Type} : DataW H → Nat
  | .lit (.string bytes) => bytes.length + 1
  | .lit _ => 1
  | .nil => 1
  | .ptr d => uptoBulk d + 1
  | .slice elems spare => uptoBulkAll elems + uptoBulkAll spare + 1
  | .agg parts => uptoBulkAll parts + 1
  | .iface _ d => uptoBulk d + 1
  | .map entries => uptoBulkEntries entries + 1
  | .held _ => 1
def uptoBulkAll {H : Type} : List (DataW H) → Nat
  | [] => 0
  | d :: r => uptoBulk d + uptoBulkAll r
def uptoBulkEntries {H : Type} : List (Lit × DataW H) → Nat
  | [] => 0
  | x :: r => uptoBulkEntry x + uptoBulkEntries r
def uptoBulkEntry {H : Type} : Lit × DataW H → Nat
  | (.string bytes, d) => bytes.length + uptoBulk d + 1
  | (_, d) => uptoBulk d + 1
 end
def uptoSmall : (H : Type) → List (DataW H) → Bool := fun _ ds => decide (uptoBulkAll ds ≤ 1048576)
def OpenSpec.upto (s : _root_.Go.ChangeSpec) : _root_.Go.OpenSpec := { _root_.Go.OpenSpec.ofChange s with cond := some uptoSmall }

/-- 'larderwicktop.TopRent', WHERE WHAT IT READS IS OF BULK AT MOST 1048576: true; the input reads as it did. -/
def topRentUptoRow : OpenClaim := { program := "ytgljpdfmejganaa", sum := "6df744af1edea6be95828a1965bcc1e54faf7ed6ae51b656ce738444e6cc785a", func := "larderwick/larderwicktop.TopRent", spec := "topRent", unfollowed := true, recurses := true, plainKeys := false, apart := false, narrowed := true }
def TopRentUptoSaid : Prop := topRentUptoRow.holds Try.pinned (OpenSpec.upto topRentSpec)

/-- 'larderwicklaw2.LandOpt', WHERE WHAT IT READS IS OF BULK AT MOST 1048576: true; the input reads as it did. -/
def landOptUptoRow : OpenClaim := { program := "ytgljpdfmejganaa", sum := "6df744af1edea6be95828a1965bcc1e54faf7ed6ae51b656ce738444e6cc785a", func := "larderwick/larderwicklaw2.LandOpt", spec := "landOpt", unfollowed := true, recurses := true, plainKeys := false, apart := false, narrowed := true }
def LandOptUptoSaid : Prop := landOptUptoRow.holds Try.pinned (OpenSpec.upto landOptSpec)

/-- 'larderwicktop.TopCosts', WHERE WHAT IT READS IS OF BULK AT MOST 1048576: true; the input reads as it did. -/
def topCostsUptoRow : OpenClaim := { program := "ytgljpdfmejganaa", sum := "6df744af1edea6be95828a1965bcc1e54faf7ed6ae51b656ce738444e6cc785a", func := "larderwick/larderwicktop.TopCosts", spec := "topCosts", inPlace := ["slices.overlaps[int]"], unfollowed := true, recurses := true, plainKeys := false, apart := false, narrowed := true }
def TopCostsUptoSaid : Prop := topCostsUptoRow.holds Try.pinned (OpenSpec.upto topCostsSpec)

end Rows
end Go.Proofs.Ytgljpdfmejganaa
