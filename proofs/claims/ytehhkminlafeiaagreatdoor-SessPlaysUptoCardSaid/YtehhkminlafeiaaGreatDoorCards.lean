/-
  DERIVED. GIVEN WITH THE SEED: THE CARDS: each row of YtehhkminlafeiaaGreatDoorRows.lean that lists a variable, with what it lists TIED to the program's text (the seventh form; the later family's looks); each row that meets fmt, with fmt's text TOLD by the authors' own Lean function (tested against real Go, not proved from fmt's source: count such statements apart). THE CARD IS WHAT COUNTS. Prove the row's statement (the work); the ties are given (YtehhkminlafeiaaGreatDoorTie.lean); close each card by the builder's one call (the guide's Derived/Test/ToyasCard.lean, 'card_holds'). Laid BY PROGRAM, IN A SANDBOX (cutbox-door.mjs). By AI agents, Wed Nov 11 2026. No macro, syntax, notation, axiom, sorry.
-/
import Derived.Test.YtehhkminlafeiaaGreatDoorRows
import GoSem.ClaimSeven
namespace Go.Proofs.YtehhkminlafeiaaGreatDoor
namespace Rows

/-- THE TIED CARD OF 'capstanlaw25.SessOnce'. -/
def sessOnceCard : Claim7 := { stood := { row := sessOnceRow, standIns := [], harness := (true, "0389140daaf9a3802c80fb140cc4adc8ea53864b111e4a859c7e603233c3c6cf"), looks := true }, kinds := [], alts := [], laidByText := true, laidKinds := [.data, .data, .data, .handle, .pinned], laidTests := true, laidLooks := .later }
def SessOnceCardSaid : Prop := Claim7.holds Tryz.pinned (.plain (OpenSpec.ofChange sessOnceSpec)) sessOnceCard

/-- THE TIED CARD OF 'capstanlaw25.SessTurns'. -/
def sessTurnsCard : Claim7 := { stood := { row := sessTurnsRow, standIns := [], harness := (true, "0389140daaf9a3802c80fb140cc4adc8ea53864b111e4a859c7e603233c3c6cf"), looks := true }, kinds := [], alts := [], laidByText := true, laidKinds := [.data, .data, .data, .handle, .pinned], laidTests := true, laidLooks := .later }
def SessTurnsCardSaid : Prop := Claim7.holds Tryz.pinned (.plain (OpenSpec.ofChange sessTurnsSpec)) sessTurnsCard

/-- THE TIED CARD OF 'capstanlaw25.SessEnds'. -/
def sessEndsCard : Claim7 := { stood := { row := sessEndsRow, standIns := [], harness := (true, "0389140daaf9a3802c80fb140cc4adc8ea53864b111e4a859c7e603233c3c6cf"), looks := true }, kinds := [], alts := [], laidByText := true, laidKinds := [.data, .data, .data, .handle, .pinned], laidTests := true, laidLooks := .later }
def SessEndsCardSaid : Prop := Claim7.holds Tryz.pinned (.plain (OpenSpec.ofChange sessEndsSpec)) sessEndsCard

/-- THE TIED CARD OF 'capstanlaw25.SessMakes'. -/
def sessMakesCard : Claim7 := { stood := { row := sessMakesRow, standIns := [], harness := (true, "0389140daaf9a3802c80fb140cc4adc8ea53864b111e4a859c7e603233c3c6cf"), looks := true }, kinds := [], alts := [], laidByText := true, laidKinds := [.data, .data, .data, .handle, .pinned], laidTests := true, laidLooks := .later }
def SessMakesCardSaid : Prop := Claim7.holds Tryz.pinned (.plain (OpenSpec.ofChange sessMakesSpec)) sessMakesCard

/-- THE TIED CARD OF 'capstanlaw25.SessPlays'. -/
def sessPlaysCard : Claim7 := { stood := { row := sessPlaysRow, standIns := [], harness := (true, "0389140daaf9a3802c80fb140cc4adc8ea53864b111e4a859c7e603233c3c6cf"), looks := true }, kinds := [], alts := [], laidByText := true, laidKinds := [.data, .data, .data, .handle, .pinned], laidTests := true, laidLooks := .later }
def SessPlaysCardSaid : Prop := Claim7.holds Tryz.pinned (.plain (OpenSpec.ofChange sessPlaysSpec)) sessPlaysCard

/-- THE TIED CARD OF 'capstanlaw25.SessReplies'. -/
def sessRepliesCard : Claim7 := { stood := { row := sessRepliesRow, standIns := [], harness := (true, "0389140daaf9a3802c80fb140cc4adc8ea53864b111e4a859c7e603233c3c6cf"), looks := true }, kinds := [], alts := [], laidByText := true, laidKinds := [.data, .data, .data, .handle, .pinned], laidTests := true, laidLooks := .later }
def SessRepliesCardSaid : Prop := Claim7.holds Tryz.pinned (.plain (OpenSpec.ofChange sessRepliesSpec)) sessRepliesCard

/-- THE SECOND FORM's CARD OF 'capstanlaw25.SessOnce'. -/
def sessOnceUptoCard : Claim7 := { stood := { row := sessOnceUptoRow, standIns := [], harness := (true, "0389140daaf9a3802c80fb140cc4adc8ea53864b111e4a859c7e603233c3c6cf"), looks := true }, kinds := [], alts := [], laidByText := true, laidKinds := [.data, .data, .data, .handle, .pinned], laidTests := true, laidLooks := .later }
def SessOnceUptoCardSaid : Prop := Claim7.holds Tryz.pinned (.plain (OpenSpec.upto sessOnceSpec)) sessOnceUptoCard

/-- THE SECOND FORM's CARD OF 'capstanlaw25.SessTurns'. -/
def sessTurnsUptoCard : Claim7 := { stood := { row := sessTurnsUptoRow, standIns := [], harness := (true, "0389140daaf9a3802c80fb140cc4adc8ea53864b111e4a859c7e603233c3c6cf"), looks := true }, kinds := [], alts := [], laidByText := true, laidKinds := [.data, .data, .data, .handle, .pinned], laidTests := true, laidLooks := .later }
def SessTurnsUptoCardSaid : Prop := Claim7.holds Tryz.pinned (.plain (OpenSpec.upto sessTurnsSpec)) sessTurnsUptoCard

/-- THE SECOND FORM's CARD OF 'capstanlaw25.SessEnds'. -/
def sessEndsUptoCard : Claim7 := { stood := { row := sessEndsUptoRow, standIns := [], harness := (true, "0389140daaf9a3802c80fb140cc4adc8ea53864b111e4a859c7e603233c3c6cf"), looks := true }, kinds := [], alts := [], laidByText := true, laidKinds := [.data, .data, .data, .handle, .pinned], laidTests := true, laidLooks := .later }
def SessEndsUptoCardSaid : Prop := Claim7.holds Tryz.pinned (.plain (OpenSpec.upto sessEndsSpec)) sessEndsUptoCard

/-- THE SECOND FORM's CARD OF 'capstanlaw25.SessMakes'. -/
def sessMakesUptoCard : Claim7 := { stood := { row := sessMakesUptoRow, standIns := [], harness := (true, "0389140daaf9a3802c80fb140cc4adc8ea53864b111e4a859c7e603233c3c6cf"), looks := true }, kinds := [], alts := [], laidByText := true, laidKinds := [.data, .data, .data, .handle, .pinned], laidTests := true, laidLooks := .later }
def SessMakesUptoCardSaid : Prop := Claim7.holds Tryz.pinned (.plain (OpenSpec.upto sessMakesSpec)) sessMakesUptoCard

/-- THE SECOND FORM's CARD OF 'capstanlaw25.SessPlays'. -/
def sessPlaysUptoCard : Claim7 := { stood := { row := sessPlaysUptoRow, standIns := [], harness := (true, "0389140daaf9a3802c80fb140cc4adc8ea53864b111e4a859c7e603233c3c6cf"), looks := true }, kinds := [], alts := [], laidByText := true, laidKinds := [.data, .data, .data, .handle, .pinned], laidTests := true, laidLooks := .later }
def SessPlaysUptoCardSaid : Prop := Claim7.holds Tryz.pinned (.plain (OpenSpec.upto sessPlaysSpec)) sessPlaysUptoCard

/-- THE SECOND FORM's CARD OF 'capstanlaw25.SessReplies'. -/
def sessRepliesUptoCard : Claim7 := { stood := { row := sessRepliesUptoRow, standIns := [], harness := (true, "0389140daaf9a3802c80fb140cc4adc8ea53864b111e4a859c7e603233c3c6cf"), looks := true }, kinds := [], alts := [], laidByText := true, laidKinds := [.data, .data, .data, .handle, .pinned], laidTests := true, laidLooks := .later }
def SessRepliesUptoCardSaid : Prop := Claim7.holds Tryz.pinned (.plain (OpenSpec.upto sessRepliesSpec)) sessRepliesUptoCard
end Rows
end Go.Proofs.YtehhkminlafeiaaGreatDoor
