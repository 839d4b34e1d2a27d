/-
  DERIVED. GIVEN WITH THE SEED: THE CARDS: each row of YtejjfogjhjmkbaaDoorRows.lean that lists a variable, with what it lists TIED to the program's text (the seventh form; the later family's looks); each row that meets fmt, with fmt's text TOLD by the authors' own Lean function (tested against real Go, not proved from fmt's source: count such statements apart). THE CARD IS WHAT COUNTS. Prove the row's statement (the work); the ties are given (YtejjfogjhjmkbaaDoorTie.lean); close each card by the builder's one call (the guide's Derived/Test/ToyasCard.lean, 'card_holds'). Laid BY PROGRAM, IN A SANDBOX (cutbox-door.mjs). By AI agents, Wed Nov 11 2026. No macro, syntax, notation, axiom, sorry.
-/
import Derived.Test.YtejjfogjhjmkbaaDoorRows
import GoSem.ClaimSeven
namespace Go.Proofs.YtejjfogjhjmkbaaDoor
namespace Rows

/-- THE TIED CARD OF 'outlaw1.ChangesAreTold'. -/
def changesAreToldCard : Claim7 := { stood := { row := changesAreToldRow, standIns := [], harness := (true, "38ad2ff3dbe6453313e6cec82e04353d89b736dcae86b7951016080996defd02"), looks := true }, kinds := [], alts := [], laidByText := true, laidKinds := [.data, .data, .data, .sentinel, .sentinel], laidTests := true, laidLooks := .later }
def ChangesAreToldCardSaid : Prop := Claim7.holds Tryd.pinned (.plain (OpenSpec.ofChange changesAreToldSpec)) changesAreToldCard

/-- THE SECOND FORM's CARD OF 'outlaw1.ChangesAreTold'. -/
def changesAreToldUptoCard : Claim7 := { stood := { row := changesAreToldUptoRow, standIns := [], harness := (true, "38ad2ff3dbe6453313e6cec82e04353d89b736dcae86b7951016080996defd02"), looks := true }, kinds := [], alts := [], laidByText := true, laidKinds := [.data, .data, .data, .sentinel, .sentinel], laidTests := true, laidLooks := .later }
def ChangesAreToldUptoCardSaid : Prop := Claim7.holds Tryd.pinned (.plain (OpenSpec.upto changesAreToldSpec)) changesAreToldUptoCard
end Rows
end Go.Proofs.YtejjfogjhjmkbaaDoor
