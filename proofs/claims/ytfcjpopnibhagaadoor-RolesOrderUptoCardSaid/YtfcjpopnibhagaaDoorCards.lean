/-
  DERIVED. GIVEN WITH THE SEED: THE CARDS: each row of YtfcjpopnibhagaaDoorRows.lean that lists a variable, with what it lists TIED to the program's text (the seventh form; the later family's looks); each row that meets fmt, with fmt's text TOLD by the authors' own Lean function (tested against real Go, not proved from fmt's source: count such statements apart). THE CARD IS WHAT COUNTS. Prove the row's statement (the work); the ties are given (YtfcjpopnibhagaaDoorTie.lean); close each card by the builder's one call (the guide's Derived/Test/ToyasCard.lean, 'card_holds'). Laid BY PROGRAM, IN A SANDBOX (cutbox-door.mjs). By AI agents, Wed Nov 11 2026. No macro, syntax, notation, axiom, sorry.
-/
import Derived.Test.YtfcjpopnibhagaaDoorRows
import GoSem.ClaimSeven
namespace Go.Proofs.YtfcjpopnibhagaaDoor
namespace Rows

/-- THE TIED CARD OF 'capstanlaw24.RolesNest'. -/
def rolesNestCard : Claim7 := { stood := { row := rolesNestRow, standIns := [], harness := (true, "a29544723f6d778197637bb2bf4526f09aad340e0b3608365d185404e972a49b"), looks := false }, kinds := [], alts := [], laidByText := true, laidKinds := [.data, .data, .pinned], laidTests := true, laidLooks := .later }
def RolesNestCardSaid : Prop := Claim7.holds Tryd.pinned (.plain (OpenSpec.ofChange rolesNestSpec)) rolesNestCard

/-- THE TIED CARD OF 'capstanlaw24.RolesOrder'. -/
def rolesOrderCard : Claim7 := { stood := { row := rolesOrderRow, standIns := [], harness := (true, "a29544723f6d778197637bb2bf4526f09aad340e0b3608365d185404e972a49b"), looks := false }, kinds := [], alts := [], laidByText := true, laidKinds := [.data, .data, .pinned], laidTests := true, laidLooks := .later }
def RolesOrderCardSaid : Prop := Claim7.holds Tryd.pinned (.plain (OpenSpec.ofChange rolesOrderSpec)) rolesOrderCard

/-- THE SECOND FORM's CARD OF 'capstanlaw24.RolesNest'. -/
def rolesNestUptoCard : Claim7 := { stood := { row := rolesNestUptoRow, standIns := [], harness := (true, "a29544723f6d778197637bb2bf4526f09aad340e0b3608365d185404e972a49b"), looks := false }, kinds := [], alts := [], laidByText := true, laidKinds := [.data, .data, .pinned], laidTests := true, laidLooks := .later }
def RolesNestUptoCardSaid : Prop := Claim7.holds Tryd.pinned (.plain (OpenSpec.upto rolesNestSpec)) rolesNestUptoCard

/-- THE SECOND FORM's CARD OF 'capstanlaw24.RolesOrder'. -/
def rolesOrderUptoCard : Claim7 := { stood := { row := rolesOrderUptoRow, standIns := [], harness := (true, "a29544723f6d778197637bb2bf4526f09aad340e0b3608365d185404e972a49b"), looks := false }, kinds := [], alts := [], laidByText := true, laidKinds := [.data, .data, .pinned], laidTests := true, laidLooks := .later }
def RolesOrderUptoCardSaid : Prop := Claim7.holds Tryd.pinned (.plain (OpenSpec.upto rolesOrderSpec)) rolesOrderUptoCard
end Rows
end Go.Proofs.YtfcjpopnibhagaaDoor
