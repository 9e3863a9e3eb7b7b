/- A part of a proof. -/
import Derived.Test.YtphikjciekmijaaGreatF11
set_option linter.unusedVariables false
set_option linter.unusedSimpArgs false
set_option linter.unusedSectionVars false
set_option maxRecDepth 100000
open Nat (reduceEqDiff reduceAdd reduceMul reduceLeDiff reduceLT)
namespace Go.Proofs.Shf
open Go.AW Go.Proofs Go.Shf
theorem fnMapsEnds_all (B : Nat) (a : AV) (h : WB a) : Pur Tryz.prog B 3 [a] (.bool true):=by
 rcases h with ⟨l,rfl⟩ | ⟨n,hn,_,rfl⟩
 ·exact fnMapsEnds_ok B l
 ·refine ⟨fun H0=>c3 (by simp) fun _=>?_⟩;unfold s3;refine tt ?_;refine (big_big B n hn).go fun _=>tt ?_;exact pure_ret rfl (.refl _)
end Go.Proofs.Shf
