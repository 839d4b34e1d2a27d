/-
  DERIVED. GIVEN WITH THE SEED: THE CARDS: each row of YthkfcmnpobobbaaGreatDoorRows.lean that lists a variable, with what it lists TIED to the program's text (the seventh form; the later family's looks); each row that meets fmt, with fmt's text TOLD by the authors' own Lean function (tested against real Go, not proved from fmt's source: count such statements apart). THE CARD IS WHAT COUNTS. Prove the row's statement (the work); the ties are given (YthkfcmnpobobbaaGreatDoorTie.lean); close each card by the builder's one call (the guide's Derived/Test/ToyasCard.lean, 'card_holds'). Laid BY PROGRAM, IN A SANDBOX (cutbox-door.mjs). By AI agents, Wed Nov 11 2026. No macro, syntax, notation, axiom, sorry.
-/
import Derived.Test.YthkfcmnpobobbaaGreatDoorRows
import GoSem.ClaimSeven
namespace Go.Proofs.YthkfcmnpobobbaaGreatDoor
namespace Rows

/-- THE TIED CARD OF 'outlaw1.LogsJoin'. -/
def logsJoinCard : Claim7 := { stood := { row := logsJoinRow, standIns := [], harness := (true, "d43fe3c108f1af57c515095ed5cf94e7060e394cff3e50ca648495634009cf4b"), looks := true }, kinds := [], alts := [], laidByText := true, laidKinds := [.data, .data, .data, .data, .sentinel, .sentinel, .pinned], laidTests := true, laidLooks := .later }
def LogsJoinCardSaid : Prop := Claim7.holds Tryz.pinned (.plain (OpenSpec.ofChange logsJoinSpec)) logsJoinCard

/-- THE TIED CARD OF 'outlaw1.RecordsMatch'. -/
def recordsMatchCard : Claim7 := { stood := { row := recordsMatchRow, standIns := [], harness := (true, "d43fe3c108f1af57c515095ed5cf94e7060e394cff3e50ca648495634009cf4b"), looks := true }, kinds := [], alts := [], laidByText := true, laidKinds := [.data, .data, .data, .data, .sentinel, .sentinel, .pinned], laidTests := true, laidLooks := .later }
def RecordsMatchCardSaid : Prop := Claim7.holds Tryz.pinned (.plain (OpenSpec.ofChange recordsMatchSpec)) recordsMatchCard

/-- THE TIED CARD OF 'outlaw1.LogsGrow'. -/
def logsGrowCard : Claim7 := { stood := { row := logsGrowRow, standIns := [], harness := (true, "d43fe3c108f1af57c515095ed5cf94e7060e394cff3e50ca648495634009cf4b"), looks := true }, kinds := [], alts := [], laidByText := true, laidKinds := [.data, .data, .data, .data, .sentinel, .sentinel, .pinned], laidTests := true, laidLooks := .later }
def LogsGrowCardSaid : Prop := Claim7.holds Tryz.pinned (.plain (OpenSpec.ofChange logsGrowSpec)) logsGrowCard

/-- THE TIED CARD OF 'outlaw1.LogsCompact'. -/
def logsCompactCard : Claim7 := { stood := { row := logsCompactRow, standIns := [], harness := (true, "d43fe3c108f1af57c515095ed5cf94e7060e394cff3e50ca648495634009cf4b"), looks := true }, kinds := [], alts := [], laidByText := true, laidKinds := [.data, .data, .data, .data, .sentinel, .sentinel, .pinned], laidTests := true, laidLooks := .later }
def LogsCompactCardSaid : Prop := Claim7.holds Tryz.pinned (.plain (OpenSpec.ofChange logsCompactSpec)) logsCompactCard

/-- THE TIED CARD OF 'outlaw1.ReportsMatch'. -/
def reportsMatchCard : Claim7 := { stood := { row := reportsMatchRow, standIns := [], harness := (true, "d43fe3c108f1af57c515095ed5cf94e7060e394cff3e50ca648495634009cf4b"), looks := true }, kinds := [], alts := [], laidByText := true, laidKinds := [.data, .data, .data, .data, .sentinel, .sentinel, .pinned], laidTests := true, laidLooks := .later }
def ReportsMatchCardSaid : Prop := Claim7.holds Tryz.pinned (.plain (OpenSpec.ofChange reportsMatchSpec)) reportsMatchCard

/-- THE TIED CARD OF 'outlaw1.LogsOpen'. -/
def logsOpenCard : Claim7 := { stood := { row := logsOpenRow, standIns := [], harness := (true, "d43fe3c108f1af57c515095ed5cf94e7060e394cff3e50ca648495634009cf4b"), looks := true }, kinds := [], alts := [], laidByText := true, laidKinds := [.data, .data, .data, .data, .sentinel, .sentinel, .pinned], laidTests := true, laidLooks := .later }
def LogsOpenCardSaid : Prop := Claim7.holds Tryz.pinned (.plain (OpenSpec.ofChange logsOpenSpec)) logsOpenCard

/-- THE TIED CARD OF 'outlaw1.LogsPart'. -/
def logsPartCard : Claim7 := { stood := { row := logsPartRow, standIns := [], harness := (true, "d43fe3c108f1af57c515095ed5cf94e7060e394cff3e50ca648495634009cf4b"), looks := true }, kinds := [], alts := [], laidByText := true, laidKinds := [.data, .data, .data, .data, .sentinel, .sentinel, .pinned], laidTests := true, laidLooks := .later }
def LogsPartCardSaid : Prop := Claim7.holds Tryz.pinned (.plain (OpenSpec.ofChange logsPartSpec)) logsPartCard

/-- THE TIED CARD OF 'outlaw1.TellsMatch'. -/
def tellsMatchCard : Claim7 := { stood := { row := tellsMatchRow, standIns := [], harness := (true, "d43fe3c108f1af57c515095ed5cf94e7060e394cff3e50ca648495634009cf4b"), looks := true }, kinds := [], alts := [], laidByText := true, laidKinds := [.data, .data, .data, .data, .sentinel, .sentinel, .pinned], laidTests := true, laidLooks := .later }
def TellsMatchCardSaid : Prop := Claim7.holds Tryz.pinned (.plain (OpenSpec.ofChange tellsMatchSpec)) tellsMatchCard

/-- THE SECOND FORM's CARD OF 'outlaw1.LogsJoin'. -/
def logsJoinUptoCard : Claim7 := { stood := { row := logsJoinUptoRow, standIns := [], harness := (true, "d43fe3c108f1af57c515095ed5cf94e7060e394cff3e50ca648495634009cf4b"), looks := true }, kinds := [], alts := [], laidByText := true, laidKinds := [.data, .data, .data, .data, .sentinel, .sentinel, .pinned], laidTests := true, laidLooks := .later }
def LogsJoinUptoCardSaid : Prop := Claim7.holds Tryz.pinned (.plain (OpenSpec.upto logsJoinSpec)) logsJoinUptoCard

/-- THE SECOND FORM's CARD OF 'outlaw1.RecordsMatch'. -/
def recordsMatchUptoCard : Claim7 := { stood := { row := recordsMatchUptoRow, standIns := [], harness := (true, "d43fe3c108f1af57c515095ed5cf94e7060e394cff3e50ca648495634009cf4b"), looks := true }, kinds := [], alts := [], laidByText := true, laidKinds := [.data, .data, .data, .data, .sentinel, .sentinel, .pinned], laidTests := true, laidLooks := .later }
def RecordsMatchUptoCardSaid : Prop := Claim7.holds Tryz.pinned (.plain (OpenSpec.upto recordsMatchSpec)) recordsMatchUptoCard

/-- THE SECOND FORM's CARD OF 'outlaw1.LogsGrow'. -/
def logsGrowUptoCard : Claim7 := { stood := { row := logsGrowUptoRow, standIns := [], harness := (true, "d43fe3c108f1af57c515095ed5cf94e7060e394cff3e50ca648495634009cf4b"), looks := true }, kinds := [], alts := [], laidByText := true, laidKinds := [.data, .data, .data, .data, .sentinel, .sentinel, .pinned], laidTests := true, laidLooks := .later }
def LogsGrowUptoCardSaid : Prop := Claim7.holds Tryz.pinned (.plain (OpenSpec.upto logsGrowSpec)) logsGrowUptoCard

/-- THE SECOND FORM's CARD OF 'outlaw1.LogsCompact'. -/
def logsCompactUptoCard : Claim7 := { stood := { row := logsCompactUptoRow, standIns := [], harness := (true, "d43fe3c108f1af57c515095ed5cf94e7060e394cff3e50ca648495634009cf4b"), looks := true }, kinds := [], alts := [], laidByText := true, laidKinds := [.data, .data, .data, .data, .sentinel, .sentinel, .pinned], laidTests := true, laidLooks := .later }
def LogsCompactUptoCardSaid : Prop := Claim7.holds Tryz.pinned (.plain (OpenSpec.upto logsCompactSpec)) logsCompactUptoCard

/-- THE SECOND FORM's CARD OF 'outlaw1.ReportsMatch'. -/
def reportsMatchUptoCard : Claim7 := { stood := { row := reportsMatchUptoRow, standIns := [], harness := (true, "d43fe3c108f1af57c515095ed5cf94e7060e394cff3e50ca648495634009cf4b"), looks := true }, kinds := [], alts := [], laidByText := true, laidKinds := [.data, .data, .data, .data, .sentinel, .sentinel, .pinned], laidTests := true, laidLooks := .later }
def ReportsMatchUptoCardSaid : Prop := Claim7.holds Tryz.pinned (.plain (OpenSpec.upto reportsMatchSpec)) reportsMatchUptoCard

/-- THE SECOND FORM's CARD OF 'outlaw1.LogsOpen'. -/
def logsOpenUptoCard : Claim7 := { stood := { row := logsOpenUptoRow, standIns := [], harness := (true, "d43fe3c108f1af57c515095ed5cf94e7060e394cff3e50ca648495634009cf4b"), looks := true }, kinds := [], alts := [], laidByText := true, laidKinds := [.data, .data, .data, .data, .sentinel, .sentinel, .pinned], laidTests := true, laidLooks := .later }
def LogsOpenUptoCardSaid : Prop := Claim7.holds Tryz.pinned (.plain (OpenSpec.upto logsOpenSpec)) logsOpenUptoCard

/-- THE SECOND FORM's CARD OF 'outlaw1.LogsPart'. -/
def logsPartUptoCard : Claim7 := { stood := { row := logsPartUptoRow, standIns := [], harness := (true, "d43fe3c108f1af57c515095ed5cf94e7060e394cff3e50ca648495634009cf4b"), looks := true }, kinds := [], alts := [], laidByText := true, laidKinds := [.data, .data, .data, .data, .sentinel, .sentinel, .pinned], laidTests := true, laidLooks := .later }
def LogsPartUptoCardSaid : Prop := Claim7.holds Tryz.pinned (.plain (OpenSpec.upto logsPartSpec)) logsPartUptoCard

/-- THE SECOND FORM's CARD OF 'outlaw1.TellsMatch'. -/
def tellsMatchUptoCard : Claim7 := { stood := { row := tellsMatchUptoRow, standIns := [], harness := (true, "d43fe3c108f1af57c515095ed5cf94e7060e394cff3e50ca648495634009cf4b"), looks := true }, kinds := [], alts := [], laidByText := true, laidKinds := [.data, .data, .data, .data, .sentinel, .sentinel, .pinned], laidTests := true, laidLooks := .later }
def TellsMatchUptoCardSaid : Prop := Claim7.holds Tryz.pinned (.plain (OpenSpec.upto tellsMatchSpec)) tellsMatchUptoCard
end Rows
end Go.Proofs.YthkfcmnpobobbaaGreatDoor
