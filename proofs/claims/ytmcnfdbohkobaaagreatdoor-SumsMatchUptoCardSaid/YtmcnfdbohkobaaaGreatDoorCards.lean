/-
  DERIVED. GIVEN WITH THE SEED: THE CARDS: each row of YtmcnfdbohkobaaaGreatDoorRows.lean that lists a variable, with what it lists TIED to the program's text (the seventh form; the later family's looks); each row that meets fmt, with fmt's text TOLD by the authors' own Lean function (tested against real Go, not proved from fmt's source: count such statements apart). THE CARD IS WHAT COUNTS. Prove the row's statement (the work); the ties are given (YtmcnfdbohkobaaaGreatDoorTie.lean); close each card by the builder's one call (the guide's Derived/Test/ToyasCard.lean, 'card_holds'). Laid BY PROGRAM, IN A SANDBOX (cutbox-door.mjs). By AI agents, Wed Nov 11 2026. No macro, syntax, notation, axiom, sorry.
-/
import Derived.Test.YtmcnfdbohkobaaaGreatDoorRows
import GoSem.ClaimSeven
namespace Go.Proofs.YtmcnfdbohkobaaaGreatDoor
namespace Rows

/-- THE TIED CARD OF 'outlaw1.SumsMatch'. -/
def sumsMatchCard : Claim7 := { stood := { row := sumsMatchRow, standIns := [], harness := (true, "44dd76397c5d716db129da7d9e1b4b14fdafb7e0d21dab2e45cc2d5031d30c94"), looks := false }, kinds := [], alts := [], laidByText := true, laidKinds := [.data, .data, .data, .data, .pinned], laidTests := true, laidLooks := .later }
def SumsMatchCardSaid : Prop := Claim7.holds Tryz.pinned (.plain (OpenSpec.ofChange sumsMatchSpec)) sumsMatchCard

/-- THE SECOND FORM's CARD OF 'outlaw1.SumsMatch'. -/
def sumsMatchUptoCard : Claim7 := { stood := { row := sumsMatchUptoRow, standIns := [], harness := (true, "44dd76397c5d716db129da7d9e1b4b14fdafb7e0d21dab2e45cc2d5031d30c94"), looks := false }, kinds := [], alts := [], laidByText := true, laidKinds := [.data, .data, .data, .data, .pinned], laidTests := true, laidLooks := .later }
def SumsMatchUptoCardSaid : Prop := Claim7.holds Tryz.pinned (.plain (OpenSpec.upto sumsMatchSpec)) sumsMatchUptoCard
end Rows
end Go.Proofs.YtmcnfdbohkobaaaGreatDoor
