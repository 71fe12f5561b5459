/-
  DERIVED. GIVEN WITH THE SEED: THE CARDS: each row of YtfonnghgbcoipaaDoorRows.lean that lists a variable, with what it lists TIED to the program's text (the seventh form; the later family's looks); each row that meets fmt, with fmt's text TOLD by the authors' own Lean function (tested against real Go, not proved from fmt's source: count such statements apart). THE CARD IS WHAT COUNTS. Prove the row's statement (the work); the ties are given (YtfonnghgbcoipaaDoorTie.lean); close each card by the builder's one call (the guide's Derived/Test/ToyasCard.lean, 'card_holds'). Laid BY PROGRAM, IN A SANDBOX (cutbox-door.mjs). By AI agents, Wed Nov 11 2026. No macro, syntax, notation, axiom, sorry.
-/
import Derived.Test.YtfonnghgbcoipaaDoorRows
import GoSem.ClaimSeven
namespace Go.Proofs.YtfonnghgbcoipaaDoor
namespace Rows

/-- THE TIED CARD OF 'capstanlaw03.WireLists'. -/
def wireListsCard : Claim7 := { stood := { row := wireListsRow, standIns := [], harness := (true, "9a2167a237a8af30f6e0039fa8d50546b1e4a0bb5ca33e746d9203f724061cee"), looks := true }, kinds := [], alts := [], laidByText := true, laidKinds := [.handle], laidTests := true, laidLooks := .later }
def WireListsCardSaid : Prop := Claim7.holds Tryd.pinned (.plain (OpenSpec.ofChange wireListsSpec)) wireListsCard

/-- THE TIED CARD OF 'capstanlaw03.WireBack'. -/
def wireBackCard : Claim7 := { stood := { row := wireBackRow, standIns := [], harness := (true, "9a2167a237a8af30f6e0039fa8d50546b1e4a0bb5ca33e746d9203f724061cee"), looks := true }, kinds := [], alts := [], laidByText := true, laidKinds := [.handle], laidTests := true, laidLooks := .later }
def WireBackCardSaid : Prop := Claim7.holds Tryd.pinned (.plain (OpenSpec.ofChange wireBackSpec)) wireBackCard

/-- THE TIED CARD OF 'capstanlaw03.WireCuts'. -/
def wireCutsCard : Claim7 := { stood := { row := wireCutsRow, standIns := [], harness := (true, "9a2167a237a8af30f6e0039fa8d50546b1e4a0bb5ca33e746d9203f724061cee"), looks := true }, kinds := [], alts := [], laidByText := true, laidKinds := [.handle], laidTests := true, laidLooks := .later }
def WireCutsCardSaid : Prop := Claim7.holds Tryd.pinned (.plain (OpenSpec.ofChange wireCutsSpec)) wireCutsCard

/-- THE TIED CARD OF 'capstanlaw03.WireJoins'. -/
def wireJoinsCard : Claim7 := { stood := { row := wireJoinsRow, standIns := [], harness := (true, "9a2167a237a8af30f6e0039fa8d50546b1e4a0bb5ca33e746d9203f724061cee"), looks := true }, kinds := [], alts := [], laidByText := true, laidKinds := [.handle], laidTests := true, laidLooks := .later }
def WireJoinsCardSaid : Prop := Claim7.holds Tryd.pinned (.plain (OpenSpec.ofChange wireJoinsSpec)) wireJoinsCard

/-- THE SECOND FORM's CARD OF 'capstanlaw03.WireLists'. -/
def wireListsUptoCard : Claim7 := { stood := { row := wireListsUptoRow, standIns := [], harness := (true, "9a2167a237a8af30f6e0039fa8d50546b1e4a0bb5ca33e746d9203f724061cee"), looks := true }, kinds := [], alts := [], laidByText := true, laidKinds := [.handle], laidTests := true, laidLooks := .later }
def WireListsUptoCardSaid : Prop := Claim7.holds Tryd.pinned (.plain (OpenSpec.upto wireListsSpec)) wireListsUptoCard

/-- THE SECOND FORM's CARD OF 'capstanlaw03.WireBack'. -/
def wireBackUptoCard : Claim7 := { stood := { row := wireBackUptoRow, standIns := [], harness := (true, "9a2167a237a8af30f6e0039fa8d50546b1e4a0bb5ca33e746d9203f724061cee"), looks := true }, kinds := [], alts := [], laidByText := true, laidKinds := [.handle], laidTests := true, laidLooks := .later }
def WireBackUptoCardSaid : Prop := Claim7.holds Tryd.pinned (.plain (OpenSpec.upto wireBackSpec)) wireBackUptoCard

/-- THE SECOND FORM's CARD OF 'capstanlaw03.WireCuts'. -/
def wireCutsUptoCard : Claim7 := { stood := { row := wireCutsUptoRow, standIns := [], harness := (true, "9a2167a237a8af30f6e0039fa8d50546b1e4a0bb5ca33e746d9203f724061cee"), looks := true }, kinds := [], alts := [], laidByText := true, laidKinds := [.handle], laidTests := true, laidLooks := .later }
def WireCutsUptoCardSaid : Prop := Claim7.holds Tryd.pinned (.plain (OpenSpec.upto wireCutsSpec)) wireCutsUptoCard

/-- THE SECOND FORM's CARD OF 'capstanlaw03.WireJoins'. -/
def wireJoinsUptoCard : Claim7 := { stood := { row := wireJoinsUptoRow, standIns := [], harness := (true, "9a2167a237a8af30f6e0039fa8d50546b1e4a0bb5ca33e746d9203f724061cee"), looks := true }, kinds := [], alts := [], laidByText := true, laidKinds := [.handle], laidTests := true, laidLooks := .later }
def WireJoinsUptoCardSaid : Prop := Claim7.holds Tryd.pinned (.plain (OpenSpec.upto wireJoinsSpec)) wireJoinsUptoCard
end Rows
end Go.Proofs.YtfonnghgbcoipaaDoor
