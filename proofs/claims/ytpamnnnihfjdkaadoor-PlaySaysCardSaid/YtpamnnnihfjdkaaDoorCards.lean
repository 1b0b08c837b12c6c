/-
  DERIVED. GIVEN WITH THE SEED: THE CARDS: each row of YtpamnnnihfjdkaaDoorRows.lean that lists a variable, with what it lists TIED to the program's text (the seventh form; the later family's looks); each row that meets fmt, with fmt's text TOLD by the authors' own Lean function (tested against real Go, not proved from fmt's source: count such statements apart). THE CARD IS WHAT COUNTS. Prove the row's statement (the work); the ties are given (YtpamnnnihfjdkaaDoorTie.lean); close each card by the builder's one call (the guide's Derived/Test/ToyasCard.lean, 'card_holds'). Laid BY PROGRAM, IN A SANDBOX (cutbox-door.mjs). By AI agents, Wed Nov 11 2026. No macro, syntax, notation, axiom, sorry.
-/
import Derived.Test.YtpamnnnihfjdkaaDoorRows
import GoSem.ClaimSeven
namespace Go.Proofs.YtpamnnnihfjdkaaDoor
namespace Rows

/-- THE TIED CARD OF 'larderwicklaw1.ClockSays'. -/
def clockSaysCard : Claim7 := { stood := { row := clockSaysRow, standIns := [], harness := (true, "7c9bd4259f9e3bda94761a7f3a03cd29c1b4c5f519a9d0a0aedc4fc1a9c48329"), looks := true }, kinds := [], alts := [], laidByText := true, laidKinds := [.handle], laidTests := true, laidLooks := .later }
def ClockSaysCardSaid : Prop := Claim7.holds Tryd.pinned (.plain (OpenSpec.ofChange clockSaysSpec)) clockSaysCard

/-- THE TIED CARD OF 'larderwicklaw1.PlaySays'. -/
def playSaysCard : Claim7 := { stood := { row := playSaysRow, standIns := [], harness := (true, "7c9bd4259f9e3bda94761a7f3a03cd29c1b4c5f519a9d0a0aedc4fc1a9c48329"), looks := true }, kinds := [], alts := [], laidByText := true, laidKinds := [.handle], laidTests := true, laidLooks := .later }
def PlaySaysCardSaid : Prop := Claim7.holds Tryd.pinned (.plain (OpenSpec.ofChange playSaysSpec)) playSaysCard

/-- THE TIED CARD OF 'larderwicklaw1.OptSays'. -/
def optSaysCard : Claim7 := { stood := { row := optSaysRow, standIns := [], harness := (true, "7c9bd4259f9e3bda94761a7f3a03cd29c1b4c5f519a9d0a0aedc4fc1a9c48329"), looks := true }, kinds := [], alts := [], laidByText := true, laidKinds := [.handle], laidTests := true, laidLooks := .later }
def OptSaysCardSaid : Prop := Claim7.holds Tryd.pinned (.plain (OpenSpec.ofChange optSaysSpec)) optSaysCard

/-- THE SECOND FORM's CARD OF 'larderwicklaw1.ClockSays'. -/
def clockSaysUptoCard : Claim7 := { stood := { row := clockSaysUptoRow, standIns := [], harness := (true, "7c9bd4259f9e3bda94761a7f3a03cd29c1b4c5f519a9d0a0aedc4fc1a9c48329"), looks := true }, kinds := [], alts := [], laidByText := true, laidKinds := [.handle], laidTests := true, laidLooks := .later }
def ClockSaysUptoCardSaid : Prop := Claim7.holds Tryd.pinned (.plain (OpenSpec.upto clockSaysSpec)) clockSaysUptoCard

/-- THE SECOND FORM's CARD OF 'larderwicklaw1.PlaySays'. -/
def playSaysUptoCard : Claim7 := { stood := { row := playSaysUptoRow, standIns := [], harness := (true, "7c9bd4259f9e3bda94761a7f3a03cd29c1b4c5f519a9d0a0aedc4fc1a9c48329"), looks := true }, kinds := [], alts := [], laidByText := true, laidKinds := [.handle], laidTests := true, laidLooks := .later }
def PlaySaysUptoCardSaid : Prop := Claim7.holds Tryd.pinned (.plain (OpenSpec.upto playSaysSpec)) playSaysUptoCard

/-- THE SECOND FORM's CARD OF 'larderwicklaw1.OptSays'. -/
def optSaysUptoCard : Claim7 := { stood := { row := optSaysUptoRow, standIns := [], harness := (true, "7c9bd4259f9e3bda94761a7f3a03cd29c1b4c5f519a9d0a0aedc4fc1a9c48329"), looks := true }, kinds := [], alts := [], laidByText := true, laidKinds := [.handle], laidTests := true, laidLooks := .later }
def OptSaysUptoCardSaid : Prop := Claim7.holds Tryd.pinned (.plain (OpenSpec.upto optSaysSpec)) optSaysUptoCard
end Rows
end Go.Proofs.YtpamnnnihfjdkaaDoor
