/-
  DERIVED. GIVEN WITH THE SEED: THE CARDS: each row of YtcobmiodgfonaaaDoorRows.lean that lists a variable, with what it lists TIED to the program's text (the seventh form; the later family's looks); each row that meets fmt, with fmt's text TOLD by the authors' own Lean function (tested against real Go, not proved from fmt's source: count such statements apart). THE CARD IS WHAT COUNTS. Prove the row's statement (the work); the ties are given (YtcobmiodgfonaaaDoorTie.lean); close each card by the builder's one call (the guide's Derived/Test/ToyasCard.lean, 'card_holds'). Laid BY PROGRAM, IN A SANDBOX (cutbox-door.mjs). By AI agents, Wed Nov 11 2026. No macro, syntax, notation, axiom, sorry.
-/
import Derived.Test.YtcobmiodgfonaaaDoorRows
import GoSem.ClaimSeven
namespace Go.Proofs.YtcobmiodgfonaaaDoor
namespace Rows

/-- THE TIED CARD OF 'larderwicklaw1.FlushSays'. -/
def flushSaysCard : Claim7 := { stood := { row := flushSaysRow, standIns := [], harness := (true, "931afe6548b899db73b7547c5276aacc25d0f8d7c3b8acd82c6d6a096ce13a49"), looks := true }, kinds := [], alts := [], laidByText := true, laidKinds := [.handle], laidTests := true, laidLooks := .later }
def FlushSaysCardSaid : Prop := Claim7.holds Tryd.pinned (.plain (OpenSpec.ofChange flushSaysSpec)) flushSaysCard

/-- THE TIED CARD OF 'larderwicklaw1.ClockSays'. -/
def clockSaysCard : Claim7 := { stood := { row := clockSaysRow, standIns := [], harness := (true, "931afe6548b899db73b7547c5276aacc25d0f8d7c3b8acd82c6d6a096ce13a49"), looks := true }, kinds := [], alts := [], laidByText := true, laidKinds := [.handle], laidTests := true, laidLooks := .later }
def ClockSaysCardSaid : Prop := Claim7.holds Tryd.pinned (.plain (OpenSpec.ofChange clockSaysSpec)) clockSaysCard

/-- THE TIED CARD OF 'larderwicklaw1.FifoSays'. -/
def fifoSaysCard : Claim7 := { stood := { row := fifoSaysRow, standIns := [], harness := (true, "931afe6548b899db73b7547c5276aacc25d0f8d7c3b8acd82c6d6a096ce13a49"), looks := true }, kinds := [], alts := [], laidByText := true, laidKinds := [.handle], laidTests := true, laidLooks := .later }
def FifoSaysCardSaid : Prop := Claim7.holds Tryd.pinned (.plain (OpenSpec.ofChange fifoSaysSpec)) fifoSaysCard

/-- THE TIED CARD OF 'larderwicklaw1.PhaseSays'. -/
def phaseSaysCard : Claim7 := { stood := { row := phaseSaysRow, standIns := [], harness := (true, "931afe6548b899db73b7547c5276aacc25d0f8d7c3b8acd82c6d6a096ce13a49"), looks := true }, kinds := [], alts := [], laidByText := true, laidKinds := [.handle], laidTests := true, laidLooks := .later }
def PhaseSaysCardSaid : Prop := Claim7.holds Tryd.pinned (.plain (OpenSpec.ofChange phaseSaysSpec)) phaseSaysCard

/-- THE TIED CARD OF 'larderwicklaw1.LruSays'. -/
def lruSaysCard : Claim7 := { stood := { row := lruSaysRow, standIns := [], harness := (true, "931afe6548b899db73b7547c5276aacc25d0f8d7c3b8acd82c6d6a096ce13a49"), looks := true }, kinds := [], alts := [], laidByText := true, laidKinds := [.handle], laidTests := true, laidLooks := .later }
def LruSaysCardSaid : Prop := Claim7.holds Tryd.pinned (.plain (OpenSpec.ofChange lruSaysSpec)) lruSaysCard

/-- THE TIED CARD OF 'larderwicklaw1.StackSays'. -/
def stackSaysCard : Claim7 := { stood := { row := stackSaysRow, standIns := [], harness := (true, "931afe6548b899db73b7547c5276aacc25d0f8d7c3b8acd82c6d6a096ce13a49"), looks := true }, kinds := [], alts := [], laidByText := true, laidKinds := [.handle], laidTests := true, laidLooks := .later }
def StackSaysCardSaid : Prop := Claim7.holds Tryd.pinned (.plain (OpenSpec.ofChange stackSaysSpec)) stackSaysCard

/-- THE TIED CARD OF 'larderwicklaw1.PlaySays'. -/
def playSaysCard : Claim7 := { stood := { row := playSaysRow, standIns := [], harness := (true, "931afe6548b899db73b7547c5276aacc25d0f8d7c3b8acd82c6d6a096ce13a49"), looks := true }, kinds := [], alts := [], laidByText := true, laidKinds := [.handle], laidTests := true, laidLooks := .later }
def PlaySaysCardSaid : Prop := Claim7.holds Tryd.pinned (.plain (OpenSpec.ofChange playSaysSpec)) playSaysCard

/-- THE TIED CARD OF 'larderwicklaw1.OptSays'. -/
def optSaysCard : Claim7 := { stood := { row := optSaysRow, standIns := [], harness := (true, "931afe6548b899db73b7547c5276aacc25d0f8d7c3b8acd82c6d6a096ce13a49"), looks := true }, kinds := [], alts := [], laidByText := true, laidKinds := [.handle], laidTests := true, laidLooks := .later }
def OptSaysCardSaid : Prop := Claim7.holds Tryd.pinned (.plain (OpenSpec.ofChange optSaysSpec)) optSaysCard

/-- THE SECOND FORM's CARD OF 'larderwicklaw1.FlushSays'. -/
def flushSaysUptoCard : Claim7 := { stood := { row := flushSaysUptoRow, standIns := [], harness := (true, "931afe6548b899db73b7547c5276aacc25d0f8d7c3b8acd82c6d6a096ce13a49"), looks := true }, kinds := [], alts := [], laidByText := true, laidKinds := [.handle], laidTests := true, laidLooks := .later }
def FlushSaysUptoCardSaid : Prop := Claim7.holds Tryd.pinned (.plain (OpenSpec.upto flushSaysSpec)) flushSaysUptoCard

/-- THE SECOND FORM's CARD OF 'larderwicklaw1.ClockSays'. -/
def clockSaysUptoCard : Claim7 := { stood := { row := clockSaysUptoRow, standIns := [], harness := (true, "931afe6548b899db73b7547c5276aacc25d0f8d7c3b8acd82c6d6a096ce13a49"), looks := true }, kinds := [], alts := [], laidByText := true, laidKinds := [.handle], laidTests := true, laidLooks := .later }
def ClockSaysUptoCardSaid : Prop := Claim7.holds Tryd.pinned (.plain (OpenSpec.upto clockSaysSpec)) clockSaysUptoCard

/-- THE SECOND FORM's CARD OF 'larderwicklaw1.FifoSays'. -/
def fifoSaysUptoCard : Claim7 := { stood := { row := fifoSaysUptoRow, standIns := [], harness := (true, "931afe6548b899db73b7547c5276aacc25d0f8d7c3b8acd82c6d6a096ce13a49"), looks := true }, kinds := [], alts := [], laidByText := true, laidKinds := [.handle], laidTests := true, laidLooks := .later }
def FifoSaysUptoCardSaid : Prop := Claim7.holds Tryd.pinned (.plain (OpenSpec.upto fifoSaysSpec)) fifoSaysUptoCard

/-- THE SECOND FORM's CARD OF 'larderwicklaw1.PhaseSays'. -/
def phaseSaysUptoCard : Claim7 := { stood := { row := phaseSaysUptoRow, standIns := [], harness := (true, "931afe6548b899db73b7547c5276aacc25d0f8d7c3b8acd82c6d6a096ce13a49"), looks := true }, kinds := [], alts := [], laidByText := true, laidKinds := [.handle], laidTests := true, laidLooks := .later }
def PhaseSaysUptoCardSaid : Prop := Claim7.holds Tryd.pinned (.plain (OpenSpec.upto phaseSaysSpec)) phaseSaysUptoCard

/-- THE SECOND FORM's CARD OF 'larderwicklaw1.LruSays'. -/
def lruSaysUptoCard : Claim7 := { stood := { row := lruSaysUptoRow, standIns := [], harness := (true, "931afe6548b899db73b7547c5276aacc25d0f8d7c3b8acd82c6d6a096ce13a49"), looks := true }, kinds := [], alts := [], laidByText := true, laidKinds := [.handle], laidTests := true, laidLooks := .later }
def LruSaysUptoCardSaid : Prop := Claim7.holds Tryd.pinned (.plain (OpenSpec.upto lruSaysSpec)) lruSaysUptoCard

/-- THE SECOND FORM's CARD OF 'larderwicklaw1.StackSays'. -/
def stackSaysUptoCard : Claim7 := { stood := { row := stackSaysUptoRow, standIns := [], harness := (true, "931afe6548b899db73b7547c5276aacc25d0f8d7c3b8acd82c6d6a096ce13a49"), looks := true }, kinds := [], alts := [], laidByText := true, laidKinds := [.handle], laidTests := true, laidLooks := .later }
def StackSaysUptoCardSaid : Prop := Claim7.holds Tryd.pinned (.plain (OpenSpec.upto stackSaysSpec)) stackSaysUptoCard

/-- THE SECOND FORM's CARD OF 'larderwicklaw1.PlaySays'. -/
def playSaysUptoCard : Claim7 := { stood := { row := playSaysUptoRow, standIns := [], harness := (true, "931afe6548b899db73b7547c5276aacc25d0f8d7c3b8acd82c6d6a096ce13a49"), looks := true }, kinds := [], alts := [], laidByText := true, laidKinds := [.handle], laidTests := true, laidLooks := .later }
def PlaySaysUptoCardSaid : Prop := Claim7.holds Tryd.pinned (.plain (OpenSpec.upto playSaysSpec)) playSaysUptoCard

/-- THE SECOND FORM's CARD OF 'larderwicklaw1.OptSays'. -/
def optSaysUptoCard : Claim7 := { stood := { row := optSaysUptoRow, standIns := [], harness := (true, "931afe6548b899db73b7547c5276aacc25d0f8d7c3b8acd82c6d6a096ce13a49"), looks := true }, kinds := [], alts := [], laidByText := true, laidKinds := [.handle], laidTests := true, laidLooks := .later }
def OptSaysUptoCardSaid : Prop := Claim7.holds Tryd.pinned (.plain (OpenSpec.upto optSaysSpec)) optSaysUptoCard
end Rows
end Go.Proofs.YtcobmiodgfonaaaDoor
