/-
  DERIVED. GIVEN WITH THE SEED: THE CARDS: each row of YtcmpnopbilhgpaaGreatDoorRows.lean that lists a variable, with what it lists TIED to the program's text (the seventh form; the later family's looks); each row that meets fmt, with fmt's text TOLD by the authors' own Lean function (tested against real Go, not proved from fmt's source: count such statements apart). THE CARD IS WHAT COUNTS. Prove the row's statement (the work); the ties are given (YtcmpnopbilhgpaaGreatDoorTie.lean); close each card by the builder's one call (the guide's Derived/Test/ToyasCard.lean, 'card_holds'). Laid BY PROGRAM, IN A SANDBOX (cutbox-door.mjs). By AI agents, Wed Nov 11 2026. No macro, syntax, notation, axiom, sorry.
-/
import Derived.Test.YtcmpnopbilhgpaaGreatDoorRows
import GoSem.ClaimSeven
namespace Go.Proofs.YtcmpnopbilhgpaaGreatDoor
namespace Rows

/-- THE TIED CARD OF 'outlaw1.ChangesAreMade'. -/
def changesAreMadeCard : Claim7 := { stood := { row := changesAreMadeRow, standIns := [], harness := (true, "e1d51355e7c9b95175c1c9876ea8857ead8d9ce16083faca3bd838ba9e1ef336"), looks := false }, kinds := [], alts := [], laidByText := true, laidKinds := [.data, .pinned], laidTests := true, laidLooks := .later }
def ChangesAreMadeCardSaid : Prop := Claim7.holds Tryz.pinned (.plain (OpenSpec.ofChange changesAreMadeSpec)) changesAreMadeCard

/-- THE SECOND FORM's CARD OF 'outlaw1.ChangesAreMade'. -/
def changesAreMadeUptoCard : Claim7 := { stood := { row := changesAreMadeUptoRow, standIns := [], harness := (true, "e1d51355e7c9b95175c1c9876ea8857ead8d9ce16083faca3bd838ba9e1ef336"), looks := false }, kinds := [], alts := [], laidByText := true, laidKinds := [.data, .pinned], laidTests := true, laidLooks := .later }
def ChangesAreMadeUptoCardSaid : Prop := Claim7.holds Tryz.pinned (.plain (OpenSpec.upto changesAreMadeSpec)) changesAreMadeUptoCard
end Rows
end Go.Proofs.YtcmpnopbilhgpaaGreatDoor
