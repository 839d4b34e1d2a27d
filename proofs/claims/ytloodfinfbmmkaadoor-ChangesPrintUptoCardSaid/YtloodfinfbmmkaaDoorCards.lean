/-
  DERIVED. GIVEN WITH THE SEED: THE CARDS: each row of YtloodfinfbmmkaaDoorRows.lean that lists a variable, with what it lists TIED to the program's text (the seventh form; the later family's looks); each row that meets fmt, with fmt's text TOLD by the authors' own Lean function (tested against real Go, not proved from fmt's source: count such statements apart). THE CARD IS WHAT COUNTS. Prove the row's statement (the work); the ties are given (YtloodfinfbmmkaaDoorTie.lean); close each card by the builder's one call (the guide's Derived/Test/ToyasCard.lean, 'card_holds'). Laid BY PROGRAM, IN A SANDBOX (cutbox-door.mjs). By AI agents, Wed Nov 11 2026. No macro, syntax, notation, axiom, sorry.
-/
import Derived.Test.YtloodfinfbmmkaaDoorRows
import GoSem.ClaimSeven
namespace Go.Proofs.YtloodfinfbmmkaaDoor
namespace Rows

/-- THE TIED CARD OF 'outlaw1.MachinesParse'. -/
def machinesParseCard : Claim7 := { stood := { row := machinesParseRow, standIns := [], harness := (true, "e6e924effc0d3ba54b1cae4708f7a2da6cc1d991be828cf3a9e3c36b4599330b"), looks := false }, kinds := [], alts := [], laidByText := true, laidKinds := [.data, .pinned], laidTests := true, laidLooks := .later }
def MachinesParseCardSaid : Prop := Claim7.holds Tryd.pinned (.plain (OpenSpec.ofChange machinesParseSpec)) machinesParseCard

/-- THE TIED CARD OF 'outlaw1.ChangesPrint'. -/
def changesPrintCard : Claim7 := { stood := { row := changesPrintRow, standIns := [], harness := (true, "e6e924effc0d3ba54b1cae4708f7a2da6cc1d991be828cf3a9e3c36b4599330b"), looks := false }, kinds := [], alts := [], laidByText := true, laidKinds := [.data, .pinned], laidTests := true, laidLooks := .later }
def ChangesPrintCardSaid : Prop := Claim7.holds Tryd.pinned (.plain (OpenSpec.ofChange changesPrintSpec)) changesPrintCard

/-- THE SECOND FORM's CARD OF 'outlaw1.MachinesParse'. -/
def machinesParseUptoCard : Claim7 := { stood := { row := machinesParseUptoRow, standIns := [], harness := (true, "e6e924effc0d3ba54b1cae4708f7a2da6cc1d991be828cf3a9e3c36b4599330b"), looks := false }, kinds := [], alts := [], laidByText := true, laidKinds := [.data, .pinned], laidTests := true, laidLooks := .later }
def MachinesParseUptoCardSaid : Prop := Claim7.holds Tryd.pinned (.plain (OpenSpec.upto machinesParseSpec)) machinesParseUptoCard

/-- THE SECOND FORM's CARD OF 'outlaw1.ChangesPrint'. -/
def changesPrintUptoCard : Claim7 := { stood := { row := changesPrintUptoRow, standIns := [], harness := (true, "e6e924effc0d3ba54b1cae4708f7a2da6cc1d991be828cf3a9e3c36b4599330b"), looks := false }, kinds := [], alts := [], laidByText := true, laidKinds := [.data, .pinned], laidTests := true, laidLooks := .later }
def ChangesPrintUptoCardSaid : Prop := Claim7.holds Tryd.pinned (.plain (OpenSpec.upto changesPrintSpec)) changesPrintUptoCard
end Rows
end Go.Proofs.YtloodfinfbmmkaaDoor
