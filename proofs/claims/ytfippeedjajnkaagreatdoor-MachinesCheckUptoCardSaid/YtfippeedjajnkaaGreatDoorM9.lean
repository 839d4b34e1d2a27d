/-
  Walks and plain laws, part 9.
-/
import Derived.Test.YtfippeedjajnkaaGreatDoorM8
import Derived.Test.YtfippeedjajnkaaGreatDoorM7
/- Walks: the program's bench: the error of a change, and the change. -/
namespace Go.Proofs
open Go Go.Abs
open Nat (reduceEqDiff reduceAdd reduceLeDiff reduceLT reduceMul)
open Int (reduceEq reduceLE reduceSub reduceToNat)
set_option linter.unusedSimpArgs false
set_option linter.unusedVariables false
set_option maxRecDepth 20000
end Go.Proofs

/- Walks: the program's bench: made of a machine, and a machine again. -/
namespace Go.Proofs
open Go Go.Abs
open Nat (reduceEqDiff reduceAdd reduceLeDiff reduceLT reduceMul)
open Int (reduceEq reduceLE reduceSub reduceToNat)
set_option linter.unusedSimpArgs false
set_option linter.unusedVariables false
set_option maxRecDepth 20000
end Go.Proofs

/- Walks: the program's machine, Apply. -/
namespace Go.Proofs
open Go Go.Abs
open Nat (reduceEqDiff reduceAdd reduceLeDiff reduceLT reduceMul)
open Int (reduceEq reduceLE reduceSub reduceToNat)
set_option linter.unusedSimpArgs false
set_option linter.unusedVariables false
set_option maxRecDepth 20000
end Go.Proofs

/- Walks: Apply, on the program's side. -/
namespace Go.Proofs
open Go Go.Abs
open Nat (reduceEqDiff reduceAdd reduceLeDiff reduceLT reduceMul)
open Int (reduceEq reduceLE reduceSub reduceToNat)
set_option linter.unusedSimpArgs false
set_option linter.unusedVariables false
set_option maxRecDepth 20000
end Go.Proofs
