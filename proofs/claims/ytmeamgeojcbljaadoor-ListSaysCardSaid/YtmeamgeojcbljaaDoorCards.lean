/-
  DERIVED. GIVEN WITH THE SEED: THE CARDS: each row of YtmeamgeojcbljaaDoorRows.lean that lists a variable, with what it lists TIED to the program's text (the seventh form; the later family's looks); each row that meets fmt, with fmt's text TOLD by the authors' own Lean function (tested against real Go, not proved from fmt's source: count such statements apart). THE CARD IS WHAT COUNTS. Prove the row's statement (the work); the ties are given (YtmeamgeojcbljaaDoorTie.lean); close each card by the builder's one call (the guide's Derived/Test/ToyasCard.lean, 'card_holds'). Laid BY PROGRAM, IN A SANDBOX (cutbox-door.mjs). By AI agents, Wed Nov 11 2026. No macro, syntax, notation, axiom, sorry.
-/
import Derived.Test.YtmeamgeojcbljaaDoorRows
import GoSem.ClaimSeven
namespace Go.Proofs.YtmeamgeojcbljaaDoor
namespace Rows

/-- THE TIED CARD OF 'larderwicklaw2.AckSays'. -/
def ackSaysCard : Claim7 := { stood := { row := ackSaysRow, standIns := [], harness := (true, "549b20e30828a5871444c5a42c11ce02913a2515d17dc1d7e5b682220a5c9ed7"), looks := true }, kinds := [], alts := [], laidByText := true, laidKinds := [.handle], laidTests := true, laidLooks := .later }
def AckSaysCardSaid : Prop := Claim7.holds Tryd.pinned (.plain (OpenSpec.ofChange ackSaysSpec)) ackSaysCard

/-- THE TIED CARD OF 'larderwicklaw2.WsetSays'. -/
def wsetSaysCard : Claim7 := { stood := { row := wsetSaysRow, standIns := [], harness := (true, "549b20e30828a5871444c5a42c11ce02913a2515d17dc1d7e5b682220a5c9ed7"), looks := true }, kinds := [], alts := [], laidByText := true, laidKinds := [.handle], laidTests := true, laidLooks := .later }
def WsetSaysCardSaid : Prop := Claim7.holds Tryd.pinned (.plain (OpenSpec.ofChange wsetSaysSpec)) wsetSaysCard

/-- THE TIED CARD OF 'larderwicklaw2.LandSays'. -/
def landSaysCard : Claim7 := { stood := { row := landSaysRow, standIns := [], harness := (true, "549b20e30828a5871444c5a42c11ce02913a2515d17dc1d7e5b682220a5c9ed7"), looks := true }, kinds := [], alts := [], laidByText := true, laidKinds := [.handle], laidTests := true, laidLooks := .later }
def LandSaysCardSaid : Prop := Claim7.holds Tryd.pinned (.plain (OpenSpec.ofChange landSaysSpec)) landSaysCard

/-- THE TIED CARD OF 'larderwicklaw2.ListSays'. -/
def listSaysCard : Claim7 := { stood := { row := listSaysRow, standIns := [], harness := (true, "549b20e30828a5871444c5a42c11ce02913a2515d17dc1d7e5b682220a5c9ed7"), looks := true }, kinds := [], alts := [], laidByText := true, laidKinds := [.handle], laidTests := true, laidLooks := .later }
def ListSaysCardSaid : Prop := Claim7.holds Tryd.pinned (.plain (OpenSpec.ofChange listSaysSpec)) listSaysCard

/-- THE TIED CARD OF 'larderwicklaw2.ServeSays'. -/
def serveSaysCard : Claim7 := { stood := { row := serveSaysRow, standIns := [], harness := (true, "549b20e30828a5871444c5a42c11ce02913a2515d17dc1d7e5b682220a5c9ed7"), looks := true }, kinds := [], alts := [], laidByText := true, laidKinds := [.handle], laidTests := true, laidLooks := .later }
def ServeSaysCardSaid : Prop := Claim7.holds Tryd.pinned (.plain (OpenSpec.ofChange serveSaysSpec)) serveSaysCard

/-- THE SECOND FORM's CARD OF 'larderwicklaw2.AckSays'. -/
def ackSaysUptoCard : Claim7 := { stood := { row := ackSaysUptoRow, standIns := [], harness := (true, "549b20e30828a5871444c5a42c11ce02913a2515d17dc1d7e5b682220a5c9ed7"), looks := true }, kinds := [], alts := [], laidByText := true, laidKinds := [.handle], laidTests := true, laidLooks := .later }
def AckSaysUptoCardSaid : Prop := Claim7.holds Tryd.pinned (.plain (OpenSpec.upto ackSaysSpec)) ackSaysUptoCard

/-- THE SECOND FORM's CARD OF 'larderwicklaw2.WsetSays'. -/
def wsetSaysUptoCard : Claim7 := { stood := { row := wsetSaysUptoRow, standIns := [], harness := (true, "549b20e30828a5871444c5a42c11ce02913a2515d17dc1d7e5b682220a5c9ed7"), looks := true }, kinds := [], alts := [], laidByText := true, laidKinds := [.handle], laidTests := true, laidLooks := .later }
def WsetSaysUptoCardSaid : Prop := Claim7.holds Tryd.pinned (.plain (OpenSpec.upto wsetSaysSpec)) wsetSaysUptoCard

/-- THE SECOND FORM's CARD OF 'larderwicklaw2.LandSays'. -/
def landSaysUptoCard : Claim7 := { stood := { row := landSaysUptoRow, standIns := [], harness := (true, "549b20e30828a5871444c5a42c11ce02913a2515d17dc1d7e5b682220a5c9ed7"), looks := true }, kinds := [], alts := [], laidByText := true, laidKinds := [.handle], laidTests := true, laidLooks := .later }
def LandSaysUptoCardSaid : Prop := Claim7.holds Tryd.pinned (.plain (OpenSpec.upto landSaysSpec)) landSaysUptoCard

/-- THE SECOND FORM's CARD OF 'larderwicklaw2.ListSays'. -/
def listSaysUptoCard : Claim7 := { stood := { row := listSaysUptoRow, standIns := [], harness := (true, "549b20e30828a5871444c5a42c11ce02913a2515d17dc1d7e5b682220a5c9ed7"), looks := true }, kinds := [], alts := [], laidByText := true, laidKinds := [.handle], laidTests := true, laidLooks := .later }
def ListSaysUptoCardSaid : Prop := Claim7.holds Tryd.pinned (.plain (OpenSpec.upto listSaysSpec)) listSaysUptoCard

/-- THE SECOND FORM's CARD OF 'larderwicklaw2.ServeSays'. -/
def serveSaysUptoCard : Claim7 := { stood := { row := serveSaysUptoRow, standIns := [], harness := (true, "549b20e30828a5871444c5a42c11ce02913a2515d17dc1d7e5b682220a5c9ed7"), looks := true }, kinds := [], alts := [], laidByText := true, laidKinds := [.handle], laidTests := true, laidLooks := .later }
def ServeSaysUptoCardSaid : Prop := Claim7.holds Tryd.pinned (.plain (OpenSpec.upto serveSaysSpec)) serveSaysUptoCard
end Rows
end Go.Proofs.YtmeamgeojcbljaaDoor
