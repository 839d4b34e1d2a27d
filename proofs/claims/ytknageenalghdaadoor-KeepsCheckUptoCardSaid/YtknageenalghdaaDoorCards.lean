/-
  DERIVED. GIVEN WITH THE SEED: THE CARDS: each row of YtknageenalghdaaDoorRows.lean that lists a variable, with what it lists TIED to the program's text (the seventh form; the later family's looks); each row that meets fmt, with fmt's text TOLD by the authors' own Lean function (tested against real Go, not proved from fmt's source: count such statements apart). THE CARD IS WHAT COUNTS. Prove the row's statement (the work); the ties are given (YtknageenalghdaaDoorTie.lean); close each card by the builder's one call (the guide's Derived/Test/ToyasCard.lean, 'card_holds'). Laid BY PROGRAM, IN A SANDBOX (cutbox-door.mjs). By AI agents, Wed Nov 11 2026. No macro, syntax, notation, axiom, sorry.
-/
import Derived.Test.YtknageenalghdaaDoorRows
import GoSem.ClaimSeven
namespace Go.Proofs.YtknageenalghdaaDoor
namespace Rows

/-- THE TIED CARD OF 'outlaw1.KeepsCheck'. -/
def keepsCheckCard : Claim7 := { stood := { row := keepsCheckRow, standIns := [], harness := (true, "33ec752e49390a25706289a262545a3abac28b58c77de5764777bad5d4d08f82"), looks := false }, kinds := [], alts := [], laidByText := true, laidKinds := [.data, .data, .data, .data, .pinned], laidTests := true, laidLooks := .later }
def KeepsCheckCardSaid : Prop := Claim7.holds Tryd.pinned (.plain (OpenSpec.ofChange keepsCheckSpec)) keepsCheckCard

/-- THE SECOND FORM's CARD OF 'outlaw1.KeepsCheck'. -/
def keepsCheckUptoCard : Claim7 := { stood := { row := keepsCheckUptoRow, standIns := [], harness := (true, "33ec752e49390a25706289a262545a3abac28b58c77de5764777bad5d4d08f82"), looks := false }, kinds := [], alts := [], laidByText := true, laidKinds := [.data, .data, .data, .data, .pinned], laidTests := true, laidLooks := .later }
def KeepsCheckUptoCardSaid : Prop := Claim7.holds Tryd.pinned (.plain (OpenSpec.upto keepsCheckSpec)) keepsCheckUptoCard
end Rows
end Go.Proofs.YtknageenalghdaaDoor
