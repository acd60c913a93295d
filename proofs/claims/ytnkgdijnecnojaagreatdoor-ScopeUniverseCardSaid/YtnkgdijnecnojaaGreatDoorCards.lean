/-
  DERIVED. GIVEN WITH THE SEED: THE CARDS: each row of YtnkgdijnecnojaaGreatDoorRows.lean that lists a variable, with what it lists TIED to the program's text (the seventh form; the later family's looks); each row that meets fmt, with fmt's text TOLD by the authors' own Lean function (tested against real Go, not proved from fmt's source: count such statements apart). THE CARD IS WHAT COUNTS. Prove the row's statement (the work); the ties are given (YtnkgdijnecnojaaGreatDoorTie.lean); close each card by the builder's one call (the guide's Derived/Test/ToyasCard.lean, 'card_holds'). Laid BY PROGRAM, IN A SANDBOX (cutbox-door.mjs). By AI agents, Wed Nov 11 2026. No macro, syntax, notation, axiom, sorry.
-/
import Derived.Test.YtnkgdijnecnojaaGreatDoorRows
import GoSem.ClaimSeven
namespace Go.Proofs.YtnkgdijnecnojaaGreatDoor
namespace Rows

/-- THE TIED CARD OF 'monikerlaw9.ScopeUniverse'. -/
def scopeUniverseCard : Claim7 := { stood := { row := scopeUniverseRow, standIns := [], harness := (true, "294d663b197708aff4a7dda4ccc2f92e32394f30acc3c08017b73d17ae53d3fa"), looks := false }, kinds := [], alts := [], laidByText := true, laidKinds := [.data, .widerDeep], laidTests := true, laidLooks := .later }
def ScopeUniverseCardSaid : Prop := Claim7.holds Tryz.pinned (.plain (OpenSpec.ofChange scopeUniverseSpec)) scopeUniverseCard

/-- THE SECOND FORM's CARD OF 'monikerlaw9.ScopeUniverse'. -/
def scopeUniverseUptoCard : Claim7 := { stood := { row := scopeUniverseUptoRow, standIns := [], harness := (true, "294d663b197708aff4a7dda4ccc2f92e32394f30acc3c08017b73d17ae53d3fa"), looks := false }, kinds := [], alts := [], laidByText := true, laidKinds := [.data, .widerDeep], laidTests := true, laidLooks := .later }
def ScopeUniverseUptoCardSaid : Prop := Claim7.holds Tryz.pinned (.plain (OpenSpec.upto scopeUniverseSpec)) scopeUniverseUptoCard
end Rows
end Go.Proofs.YtnkgdijnecnojaaGreatDoor
