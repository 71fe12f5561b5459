/-
  DERIVED. GIVEN WITH THE SEED: THE CARDS: each row of YtjicmjniddbllaaDoorRows.lean that lists a variable, with what it lists TIED to the program's text (the seventh form; the later family's looks); each row that meets fmt, with fmt's text TOLD by the authors' own Lean function (tested against real Go, not proved from fmt's source: count such statements apart). THE CARD IS WHAT COUNTS. Prove the row's statement (the work); the ties are given (YtjicmjniddbllaaDoorTie.lean); close each card by the builder's one call (the guide's Derived/Test/ToyasCard.lean, 'card_holds'). Laid BY PROGRAM, IN A SANDBOX (cutbox-door.mjs). By AI agents, Wed Nov 11 2026. No macro, syntax, notation, axiom, sorry.
-/
import Derived.Test.YtjicmjniddbllaaDoorRows
import GoSem.ClaimSeven
namespace Go.Proofs.YtjicmjniddbllaaDoor
namespace Rows

/-- THE TIED CARD OF 'capstanlaw01.ShaSums'. -/
def shaSumsCard : Claim7 := { stood := { row := shaSumsRow, standIns := [], harness := (true, "79b018c38932404104afe7da111ffd6dfa560463a0f43a299ec5ce80d134a7e0"), looks := false }, kinds := [], alts := [], laidByText := true, laidKinds := [.data, .data], laidTests := true, laidLooks := .later }
def ShaSumsCardSaid : Prop := Claim7.holds Tryd.pinned (.plain (OpenSpec.ofChange shaSumsSpec)) shaSumsCard

/-- THE TIED CARD OF 'capstanlaw01.ShaLong'. -/
def shaLongCard : Claim7 := { stood := { row := shaLongRow, standIns := [], harness := (true, "79b018c38932404104afe7da111ffd6dfa560463a0f43a299ec5ce80d134a7e0"), looks := false }, kinds := [], alts := [], laidByText := true, laidKinds := [.data, .data], laidTests := true, laidLooks := .later }
def ShaLongCardSaid : Prop := Claim7.holds Tryd.pinned (.plain (OpenSpec.ofChange shaLongSpec)) shaLongCard

/-- THE TIED CARD OF 'capstanlaw01.ShaPieces'. -/
def shaPiecesCard : Claim7 := { stood := { row := shaPiecesRow, standIns := [], harness := (true, "79b018c38932404104afe7da111ffd6dfa560463a0f43a299ec5ce80d134a7e0"), looks := false }, kinds := [], alts := [], laidByText := true, laidKinds := [.data, .data], laidTests := true, laidLooks := .later }
def ShaPiecesCardSaid : Prop := Claim7.holds Tryd.pinned (.plain (OpenSpec.ofChange shaPiecesSpec)) shaPiecesCard

/-- THE TIED CARD OF 'capstanlaw01.ShaBytes'. -/
def shaBytesCard : Claim7 := { stood := { row := shaBytesRow, standIns := [], harness := (true, "79b018c38932404104afe7da111ffd6dfa560463a0f43a299ec5ce80d134a7e0"), looks := false }, kinds := [], alts := [], laidByText := true, laidKinds := [.data, .data], laidTests := true, laidLooks := .later }
def ShaBytesCardSaid : Prop := Claim7.holds Tryd.pinned (.plain (OpenSpec.ofChange shaBytesSpec)) shaBytesCard

/-- THE TIED CARD OF 'capstanlaw02.MacKeys'. -/
def macKeysCard : Claim7 := { stood := { row := macKeysRow, standIns := [], harness := (true, "79b018c38932404104afe7da111ffd6dfa560463a0f43a299ec5ce80d134a7e0"), looks := false }, kinds := [], alts := [], laidByText := true, laidKinds := [.data, .data], laidTests := true, laidLooks := .later }
def MacKeysCardSaid : Prop := Claim7.holds Tryd.pinned (.plain (OpenSpec.ofChange macKeysSpec)) macKeysCard

/-- THE TIED CARD OF 'capstanlaw02.MacTags'. -/
def macTagsCard : Claim7 := { stood := { row := macTagsRow, standIns := [], harness := (true, "79b018c38932404104afe7da111ffd6dfa560463a0f43a299ec5ce80d134a7e0"), looks := false }, kinds := [], alts := [], laidByText := true, laidKinds := [.data, .data], laidTests := true, laidLooks := .later }
def MacTagsCardSaid : Prop := Claim7.holds Tryd.pinned (.plain (OpenSpec.ofChange macTagsSpec)) macTagsCard

/-- THE TIED CARD OF 'capstanlaw02.MacSeals'. -/
def macSealsCard : Claim7 := { stood := { row := macSealsRow, standIns := [], harness := (true, "79b018c38932404104afe7da111ffd6dfa560463a0f43a299ec5ce80d134a7e0"), looks := false }, kinds := [], alts := [], laidByText := true, laidKinds := [.data, .data], laidTests := true, laidLooks := .later }
def MacSealsCardSaid : Prop := Claim7.holds Tryd.pinned (.plain (OpenSpec.ofChange macSealsSpec)) macSealsCard

/-- THE TIED CARD OF 'capstanlaw02.MacBack'. -/
def macBackCard : Claim7 := { stood := { row := macBackRow, standIns := [], harness := (true, "79b018c38932404104afe7da111ffd6dfa560463a0f43a299ec5ce80d134a7e0"), looks := false }, kinds := [], alts := [], laidByText := true, laidKinds := [.data, .data], laidTests := true, laidLooks := .later }
def MacBackCardSaid : Prop := Claim7.holds Tryd.pinned (.plain (OpenSpec.ofChange macBackSpec)) macBackCard

/-- THE TIED CARD OF 'capstanlaw02.MacTurns'. -/
def macTurnsCard : Claim7 := { stood := { row := macTurnsRow, standIns := [], harness := (true, "79b018c38932404104afe7da111ffd6dfa560463a0f43a299ec5ce80d134a7e0"), looks := false }, kinds := [], alts := [], laidByText := true, laidKinds := [.data, .data], laidTests := true, laidLooks := .later }
def MacTurnsCardSaid : Prop := Claim7.holds Tryd.pinned (.plain (OpenSpec.ofChange macTurnsSpec)) macTurnsCard

/-- THE SECOND FORM's CARD OF 'capstanlaw01.ShaSums'. -/
def shaSumsUptoCard : Claim7 := { stood := { row := shaSumsUptoRow, standIns := [], harness := (true, "79b018c38932404104afe7da111ffd6dfa560463a0f43a299ec5ce80d134a7e0"), looks := false }, kinds := [], alts := [], laidByText := true, laidKinds := [.data, .data], laidTests := true, laidLooks := .later }
def ShaSumsUptoCardSaid : Prop := Claim7.holds Tryd.pinned (.plain (OpenSpec.upto shaSumsSpec)) shaSumsUptoCard

/-- THE SECOND FORM's CARD OF 'capstanlaw01.ShaLong'. -/
def shaLongUptoCard : Claim7 := { stood := { row := shaLongUptoRow, standIns := [], harness := (true, "79b018c38932404104afe7da111ffd6dfa560463a0f43a299ec5ce80d134a7e0"), looks := false }, kinds := [], alts := [], laidByText := true, laidKinds := [.data, .data], laidTests := true, laidLooks := .later }
def ShaLongUptoCardSaid : Prop := Claim7.holds Tryd.pinned (.plain (OpenSpec.upto shaLongSpec)) shaLongUptoCard

/-- THE SECOND FORM's CARD OF 'capstanlaw01.ShaPieces'. -/
def shaPiecesUptoCard : Claim7 := { stood := { row := shaPiecesUptoRow, standIns := [], harness := (true, "79b018c38932404104afe7da111ffd6dfa560463a0f43a299ec5ce80d134a7e0"), looks := false }, kinds := [], alts := [], laidByText := true, laidKinds := [.data, .data], laidTests := true, laidLooks := .later }
def ShaPiecesUptoCardSaid : Prop := Claim7.holds Tryd.pinned (.plain (OpenSpec.upto shaPiecesSpec)) shaPiecesUptoCard

/-- THE SECOND FORM's CARD OF 'capstanlaw01.ShaBytes'. -/
def shaBytesUptoCard : Claim7 := { stood := { row := shaBytesUptoRow, standIns := [], harness := (true, "79b018c38932404104afe7da111ffd6dfa560463a0f43a299ec5ce80d134a7e0"), looks := false }, kinds := [], alts := [], laidByText := true, laidKinds := [.data, .data], laidTests := true, laidLooks := .later }
def ShaBytesUptoCardSaid : Prop := Claim7.holds Tryd.pinned (.plain (OpenSpec.upto shaBytesSpec)) shaBytesUptoCard

/-- THE SECOND FORM's CARD OF 'capstanlaw02.MacKeys'. -/
def macKeysUptoCard : Claim7 := { stood := { row := macKeysUptoRow, standIns := [], harness := (true, "79b018c38932404104afe7da111ffd6dfa560463a0f43a299ec5ce80d134a7e0"), looks := false }, kinds := [], alts := [], laidByText := true, laidKinds := [.data, .data], laidTests := true, laidLooks := .later }
def MacKeysUptoCardSaid : Prop := Claim7.holds Tryd.pinned (.plain (OpenSpec.upto macKeysSpec)) macKeysUptoCard

/-- THE SECOND FORM's CARD OF 'capstanlaw02.MacTags'. -/
def macTagsUptoCard : Claim7 := { stood := { row := macTagsUptoRow, standIns := [], harness := (true, "79b018c38932404104afe7da111ffd6dfa560463a0f43a299ec5ce80d134a7e0"), looks := false }, kinds := [], alts := [], laidByText := true, laidKinds := [.data, .data], laidTests := true, laidLooks := .later }
def MacTagsUptoCardSaid : Prop := Claim7.holds Tryd.pinned (.plain (OpenSpec.upto macTagsSpec)) macTagsUptoCard

/-- THE SECOND FORM's CARD OF 'capstanlaw02.MacSeals'. -/
def macSealsUptoCard : Claim7 := { stood := { row := macSealsUptoRow, standIns := [], harness := (true, "79b018c38932404104afe7da111ffd6dfa560463a0f43a299ec5ce80d134a7e0"), looks := false }, kinds := [], alts := [], laidByText := true, laidKinds := [.data, .data], laidTests := true, laidLooks := .later }
def MacSealsUptoCardSaid : Prop := Claim7.holds Tryd.pinned (.plain (OpenSpec.upto macSealsSpec)) macSealsUptoCard

/-- THE SECOND FORM's CARD OF 'capstanlaw02.MacBack'. -/
def macBackUptoCard : Claim7 := { stood := { row := macBackUptoRow, standIns := [], harness := (true, "79b018c38932404104afe7da111ffd6dfa560463a0f43a299ec5ce80d134a7e0"), looks := false }, kinds := [], alts := [], laidByText := true, laidKinds := [.data, .data], laidTests := true, laidLooks := .later }
def MacBackUptoCardSaid : Prop := Claim7.holds Tryd.pinned (.plain (OpenSpec.upto macBackSpec)) macBackUptoCard

/-- THE SECOND FORM's CARD OF 'capstanlaw02.MacTurns'. -/
def macTurnsUptoCard : Claim7 := { stood := { row := macTurnsUptoRow, standIns := [], harness := (true, "79b018c38932404104afe7da111ffd6dfa560463a0f43a299ec5ce80d134a7e0"), looks := false }, kinds := [], alts := [], laidByText := true, laidKinds := [.data, .data], laidTests := true, laidLooks := .later }
def MacTurnsUptoCardSaid : Prop := Claim7.holds Tryd.pinned (.plain (OpenSpec.upto macTurnsSpec)) macTurnsUptoCard
end Rows
end Go.Proofs.YtjicmjniddbllaaDoor
