/-
  DERIVED. GIVEN WITH THE SEED: THE CARDS: each row of YtncemkhlbhmobaaGreatDoorRows.lean that lists a variable, with what it lists TIED to the program's text (the seventh form; the later family's looks); each row that meets fmt, with fmt's text TOLD by the authors' own Lean function (tested against real Go, not proved from fmt's source: count such statements apart). THE CARD IS WHAT COUNTS. Prove the row's statement (the work); the ties are given (YtncemkhlbhmobaaGreatDoorTie.lean); close each card by the builder's one call (the guide's Derived/Test/ToyasCard.lean, 'card_holds'). Laid BY PROGRAM, IN A SANDBOX (cutbox-door.mjs). By AI agents, Wed Nov 11 2026. No macro, syntax, notation, axiom, sorry.
-/
import Derived.Test.YtncemkhlbhmobaaGreatDoorRows
import GoSem.ClaimSeven
namespace Go.Proofs.YtncemkhlbhmobaaGreatDoor
namespace Rows

/-- THE TIED CARD OF 'outlaw1.ThingsAreFound'. -/
def thingsAreFoundCard : Claim7 := { stood := { row := thingsAreFoundRow, standIns := [], harness := (true, "910f89eeeb8ae5f5177a7b708c15f33b08f078d1c76bf12b90d30713433db8d4"), looks := false }, kinds := [], alts := [], laidByText := true, laidKinds := [.data, .pinned], laidTests := true, laidLooks := .later }
def ThingsAreFoundCardSaid : Prop := Claim7.holds Tryz.pinned (.plain (OpenSpec.ofChange thingsAreFoundSpec)) thingsAreFoundCard

/-- THE TIED CARD OF 'outlaw1.TextsMatch'. -/
def textsMatchCard : Claim7 := { stood := { row := textsMatchRow, standIns := [], harness := (true, "910f89eeeb8ae5f5177a7b708c15f33b08f078d1c76bf12b90d30713433db8d4"), looks := false }, kinds := [], alts := [], laidByText := true, laidKinds := [.data, .pinned], laidTests := true, laidLooks := .later }
def TextsMatchCardSaid : Prop := Claim7.holds Tryz.pinned (.plain (OpenSpec.ofChange textsMatchSpec)) textsMatchCard

/-- THE SECOND FORM's CARD OF 'outlaw1.ThingsAreFound'. -/
def thingsAreFoundUptoCard : Claim7 := { stood := { row := thingsAreFoundUptoRow, standIns := [], harness := (true, "910f89eeeb8ae5f5177a7b708c15f33b08f078d1c76bf12b90d30713433db8d4"), looks := false }, kinds := [], alts := [], laidByText := true, laidKinds := [.data, .pinned], laidTests := true, laidLooks := .later }
def ThingsAreFoundUptoCardSaid : Prop := Claim7.holds Tryz.pinned (.plain (OpenSpec.upto thingsAreFoundSpec)) thingsAreFoundUptoCard

/-- THE SECOND FORM's CARD OF 'outlaw1.TextsMatch'. -/
def textsMatchUptoCard : Claim7 := { stood := { row := textsMatchUptoRow, standIns := [], harness := (true, "910f89eeeb8ae5f5177a7b708c15f33b08f078d1c76bf12b90d30713433db8d4"), looks := false }, kinds := [], alts := [], laidByText := true, laidKinds := [.data, .pinned], laidTests := true, laidLooks := .later }
def TextsMatchUptoCardSaid : Prop := Claim7.holds Tryz.pinned (.plain (OpenSpec.upto textsMatchSpec)) textsMatchUptoCard
end Rows
end Go.Proofs.YtncemkhlbhmobaaGreatDoor
