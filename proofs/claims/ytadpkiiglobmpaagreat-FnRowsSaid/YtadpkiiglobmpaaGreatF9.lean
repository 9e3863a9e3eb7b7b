/- A part of a proof. -/
import Derived.Test.YtadpkiiglobmpaaGreatF8
import Derived.Test.YtadpkiiglobmpaaGreatProg
import Derived.Tactics
import Derived.Tactics2
import Derived.Defers
import Derived.Laws.Pointers
import Derived.Laws.LoneSync
import Derived.RegionTactic
import Derived.RegionCalls
import Derived.ChangeAlike
import Derived.Shelf.SlLaysF
import Derived.Shelf.SlSortCmp.Whole1
set_option linter.unusedVariables false
set_option linter.unusedSimpArgs false
set_option linter.unusedSectionVars false
open Nat (reduceEqDiff reduceAdd reduceMul reduceLeDiff reduceLT)
namespace Go.Proofs.Shf
open Go.AW Go.Proofs Go.Shf
end Go.Proofs.Shf
namespace Go.Proofs.Shf
open Go.AW Go.Proofs Go.RowKit
end Go.Proofs.Shf
namespace Go.Proofs.Shf
open Go.AW Go.Proofs Go.RowKit
end Go.Proofs.Shf
namespace Go.Shf
open Go.AW
end Go.Shf
namespace Go.Proofs.Shf
open Go.AW Go.Proofs Go.Shf
end Go.Proofs.Shf
namespace Go.Proofs
open Go.Shelf
end Go.Proofs
namespace Go.Proofs.Shf
open Go.AW Go.Proofs Go.Shf Go.RowKit Go.Sort
theorem cmp_ntr {a b c : List Int} (h1 : ¬ cmp a b < 0) (h2 : ¬ cmp b c < 0) : ¬ cmp a c < 0 := by
 intro h
 have n1 := cmp_neg a b
 have n2 := cmp_neg b c
 have n3 := cmp_neg a c
 by_cases e1 : cmp a b = 0
 ·rw [cmp_zero] at e1; subst e1; exact h2 h
 ·by_cases e2 : cmp b c = 0
  ·rw [cmp_zero] at e2; subst e2; exact h1 h
  ·have := cmp_trans (a := c) (b := b) (c := a) (by omega) (by omega)
   omega
theorem swo_cmp {n : Nat} (S : List (List Int)) : SWO (ltOf fun x y : Fin n => cmp (S.getD x default) (S.getD y default)) where
 irrefl x := by simp [ltOf, cmp_zero.mpr rfl]
 trans x y z h1 h2 := decide_eq_true (cmp_trans (of_decide_eq_true h1) (of_decide_eq_true h2))
 ntrans x y z h1 h2 := decide_eq_false (cmp_ntr (of_decide_eq_false h1) (of_decide_eq_false h2))
end Go.Proofs.Shf
namespace Go.Proofs.Shf
open Go.AW Go.Proofs Go.Shf
end Go.Proofs.Shf
namespace Go.Shf
open Go.AW
end Go.Shf
namespace Go.Proofs.Shf
open Go.AW Go.Proofs Go.Shf
end Go.Proofs.Shf
namespace Go.Shf
open Go.AW
end Go.Shf
namespace Go.Proofs.Shf
open Go.AW Go.Proofs Go.Shf
end Go.Proofs.Shf
