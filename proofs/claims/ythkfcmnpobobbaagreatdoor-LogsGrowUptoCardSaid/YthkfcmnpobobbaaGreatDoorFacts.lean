/- Closed facts on the program, of which the kernel asks much. -/
import Derived.Test.YthkfcmnpobobbaaGreatDoorUpto
namespace Go.Proofs.YthkfcmnpobobbaaGreatDoor
open Go Go.Abs Go.Proofs
theorem fact_laid : laidOutB Tryz.prog = true := by kernel_rfl
theorem fact_maps : mapsRowed Tryz.prog = true := by kernel_rfl
theorem fact_heard : Tryz.prog.stopsHeard = true := by kernel_rfl
theorem fact_enter : Tryz.prog.mayEnter = true := by kernel_rfl
end Go.Proofs.YthkfcmnpobobbaaGreatDoor
