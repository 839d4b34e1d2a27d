/- Closed facts on the program, of which the kernel asks much. -/
import Derived.Test.YtloodfinfbmmkaaDoorUpto
namespace Go.Proofs.YtloodfinfbmmkaaDoor
open Go Go.Abs Go.Proofs
theorem fact_laid : laidOutB Tryd.prog = true := by kernel_rfl
theorem fact_maps : mapsRowed Tryd.prog = true := by kernel_rfl
theorem fact_heard : Tryd.prog.stopsHeard = true := by kernel_rfl
theorem fact_enter : Tryd.prog.mayEnter = true := by kernel_rfl
end Go.Proofs.YtloodfinfbmmkaaDoor
