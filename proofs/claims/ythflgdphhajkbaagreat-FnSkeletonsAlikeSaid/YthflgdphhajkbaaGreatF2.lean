/- Contracts, part 2. -/
import Derived.Test.YthflgdphhajkbaaGreatF1
set_option linter.unusedVariables false
set_option linter.unusedSimpArgs false
set_option linter.unusedSectionVars false
open Nat (reduceEqDiff reduceAdd reduceMul reduceLeDiff reduceLT)
namespace Go.Proofs.Shf
open Go.AW Go.Proofs Go.Shf
instance : Inhabited SF:=⟨⟨⟨0,[],[],[],[]⟩,[],[]⟩⟩
@[go_sem] def taskCells (sizes : List Int) (ls : List Lk) (at' : List (List Int)) (most : Nat) (X : AV) : List AV:=[iL sizes,mL lkE ls,iLL at',.int .i64 most,X]
end Go.Proofs.Shf
