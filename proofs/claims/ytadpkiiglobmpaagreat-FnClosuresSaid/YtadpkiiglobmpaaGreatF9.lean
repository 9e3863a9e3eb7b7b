/- A part of a proof. -/
import Derived.Test.YtadpkiiglobmpaaGreatF8
import Derived.Test.YtadpkiiglobmpaaGreatProg
import Derived.Shelf.SlLaysF
set_option linter.unusedVariables false
set_option linter.unusedSimpArgs false
set_option linter.unusedSectionVars false
open Nat (reduceEqDiff reduceAdd reduceMul reduceLeDiff reduceLT)
namespace Go.Proofs.Shf
open Go.AW Go.Proofs Go.Shf
end Go.Proofs.Shf
namespace Go.AW
end Go.AW
namespace Go.Proofs.Shf
open Go.AW Go.Proofs Go.Shf
instance : Inhabited QS := ⟨⟨[],[],[],[]⟩⟩
end Go.Proofs.Shf
namespace Go.Proofs
open Go.Shelf
end Go.Proofs
