/-
  DERIVED. GIVEN WITH THE SEED: THE CARDS: each row of YtjflmcglnofooaaDoorRows.lean that lists a variable, with what it lists TIED to the program's text (the seventh form; the later family's looks); each row that meets fmt, with fmt's text TOLD by the authors' own Lean function (tested against real Go, not proved from fmt's source: count such statements apart). THE CARD IS WHAT COUNTS. Prove the row's statement (the work); the ties are given (YtjflmcglnofooaaDoorTie.lean); close each card by the builder's one call (the guide's Derived/Test/ToyasCard.lean, 'card_holds'). Laid BY PROGRAM, IN A SANDBOX (cutbox-door.mjs). By AI agents, Wed Nov 11 2026. No macro, syntax, notation, axiom, sorry.
-/
import Derived.Test.YtjflmcglnofooaaDoorRows
import GoSem.ClaimSeven
namespace Go.Proofs.YtjflmcglnofooaaDoor
namespace Rows

/-- THE TIED CARD OF 'larderwicklaw2.SkiSays'. -/
def skiSaysCard : Claim7 := { stood := { row := skiSaysRow, standIns := [], harness := (true, "9bfb13da02578c22738ae76538620dcecea477fc49656c3517e9561b7e49f284"), looks := true }, kinds := [], alts := [], laidByText := true, laidKinds := [.handle], laidTests := true, laidLooks := .later }
def SkiSaysCardSaid : Prop := Claim7.holds Tryd.pinned (.plain (OpenSpec.ofChange skiSaysSpec)) skiSaysCard

/-- THE SECOND FORM's CARD OF 'larderwicklaw2.SkiSays'. -/
def skiSaysUptoCard : Claim7 := { stood := { row := skiSaysUptoRow, standIns := [], harness := (true, "9bfb13da02578c22738ae76538620dcecea477fc49656c3517e9561b7e49f284"), looks := true }, kinds := [], alts := [], laidByText := true, laidKinds := [.handle], laidTests := true, laidLooks := .later }
def SkiSaysUptoCardSaid : Prop := Claim7.holds Tryd.pinned (.plain (OpenSpec.upto skiSaysSpec)) skiSaysUptoCard
end Rows
end Go.Proofs.YtjflmcglnofooaaDoor
