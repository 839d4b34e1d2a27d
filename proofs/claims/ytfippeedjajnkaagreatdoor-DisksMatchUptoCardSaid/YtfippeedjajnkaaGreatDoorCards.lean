/-
  DERIVED. GIVEN WITH THE SEED: THE CARDS: each row of YtfippeedjajnkaaGreatDoorRows.lean that lists a variable, with what it lists TIED to the program's text (the seventh form; the later family's looks); each row that meets fmt, with fmt's text TOLD by the authors' own Lean function (tested against real Go, not proved from fmt's source: count such statements apart). THE CARD IS WHAT COUNTS. Prove the row's statement (the work); the ties are given (YtfippeedjajnkaaGreatDoorTie.lean); close each card by the builder's one call (the guide's Derived/Test/ToyasCard.lean, 'card_holds'). Laid BY PROGRAM, IN A SANDBOX (cutbox-door.mjs). By AI agents, Wed Nov 11 2026. No macro, syntax, notation, axiom, sorry.
-/
import Derived.Test.YtfippeedjajnkaaGreatDoorRows
import GoSem.ClaimSeven
namespace Go.Proofs.YtfippeedjajnkaaGreatDoor
namespace Rows

/-- THE TIED CARD OF 'outlaw1.MachinesDiffer'. -/
def machinesDifferCard : Claim7 := { stood := { row := machinesDifferRow, standIns := [], harness := (true, "49beade5b5b3cb0a698b172663b8d207736eb2da66354ec602a31b25345b5ed8"), looks := false }, kinds := [], alts := [], laidByText := true, laidKinds := [.data, .pinned], laidTests := true, laidLooks := .later }
def MachinesDifferCardSaid : Prop := Claim7.holds Tryz.pinned (.plain (OpenSpec.ofChange machinesDifferSpec)) machinesDifferCard

/-- THE TIED CARD OF 'outlaw1.MachinesCheck'. -/
def machinesCheckCard : Claim7 := { stood := { row := machinesCheckRow, standIns := [], harness := (true, "49beade5b5b3cb0a698b172663b8d207736eb2da66354ec602a31b25345b5ed8"), looks := false }, kinds := [], alts := [], laidByText := true, laidKinds := [.data, .pinned], laidTests := true, laidLooks := .later }
def MachinesCheckCardSaid : Prop := Claim7.holds Tryz.pinned (.plain (OpenSpec.ofChange machinesCheckSpec)) machinesCheckCard

/-- THE TIED CARD OF 'outlaw1.DisksMatch'. -/
def disksMatchCard : Claim7 := { stood := { row := disksMatchRow, standIns := [], harness := (true, "49beade5b5b3cb0a698b172663b8d207736eb2da66354ec602a31b25345b5ed8"), looks := false }, kinds := [], alts := [], laidByText := true, laidKinds := [.data, .pinned], laidTests := true, laidLooks := .later }
def DisksMatchCardSaid : Prop := Claim7.holds Tryz.pinned (.plain (OpenSpec.ofChange disksMatchSpec)) disksMatchCard

/-- THE SECOND FORM's CARD OF 'outlaw1.MachinesDiffer'. -/
def machinesDifferUptoCard : Claim7 := { stood := { row := machinesDifferUptoRow, standIns := [], harness := (true, "49beade5b5b3cb0a698b172663b8d207736eb2da66354ec602a31b25345b5ed8"), looks := false }, kinds := [], alts := [], laidByText := true, laidKinds := [.data, .pinned], laidTests := true, laidLooks := .later }
def MachinesDifferUptoCardSaid : Prop := Claim7.holds Tryz.pinned (.plain (OpenSpec.upto machinesDifferSpec)) machinesDifferUptoCard

/-- THE SECOND FORM's CARD OF 'outlaw1.MachinesCheck'. -/
def machinesCheckUptoCard : Claim7 := { stood := { row := machinesCheckUptoRow, standIns := [], harness := (true, "49beade5b5b3cb0a698b172663b8d207736eb2da66354ec602a31b25345b5ed8"), looks := false }, kinds := [], alts := [], laidByText := true, laidKinds := [.data, .pinned], laidTests := true, laidLooks := .later }
def MachinesCheckUptoCardSaid : Prop := Claim7.holds Tryz.pinned (.plain (OpenSpec.upto machinesCheckSpec)) machinesCheckUptoCard

/-- THE SECOND FORM's CARD OF 'outlaw1.DisksMatch'. -/
def disksMatchUptoCard : Claim7 := { stood := { row := disksMatchUptoRow, standIns := [], harness := (true, "49beade5b5b3cb0a698b172663b8d207736eb2da66354ec602a31b25345b5ed8"), looks := false }, kinds := [], alts := [], laidByText := true, laidKinds := [.data, .pinned], laidTests := true, laidLooks := .later }
def DisksMatchUptoCardSaid : Prop := Claim7.holds Tryz.pinned (.plain (OpenSpec.upto disksMatchSpec)) disksMatchUptoCard
end Rows
end Go.Proofs.YtfippeedjajnkaaGreatDoor
