/- A part of a proof. -/
import Derived.Test.YthflgdphhajkbaaGreatF8
set_option linter.unusedVariables false
set_option linter.unusedSimpArgs false
set_option linter.unusedSectionVars false
open Nat (reduceEqDiff reduceAdd reduceMul reduceLeDiff reduceLT)
namespace Go.Proofs.Shf
open Go.AW Go.Proofs Go.Shf
theorem fnGluedFamilies_all (B : Nat) (a : AV) (h : WB a) : Pur Tryz.prog B 4 [a] (.bool true):=by
 rcases h with ⟨l,rfl⟩ | ⟨n,hn,_,rfl⟩
 ·exact fnGluedFamilies_ok B l
 ·refine ⟨fun H0=>c4p.go fun _=>?_⟩;refine tt ?_;refine (big_big B n hn).go fun _=>tt ?_;exact pure_ret rfl (.refl _)
end Go.Proofs.Shf
