/- A part of a proof. -/
import Derived.Test.YtadpkiiglobmpaaGreatF7
import Derived.Sort.Row
import Derived.Sort.Grow
import Derived.Deep.Draws
set_option linter.unusedVariables false
set_option linter.unusedSimpArgs false
set_option linter.unusedSectionVars false
open Nat (reduceEqDiff reduceAdd reduceMul reduceLeDiff reduceLT)
namespace Go.Proofs.Shf
open Go.AW Go.Proofs Go.Shf
end Go.Proofs.Shf
namespace Go.Proofs.Shf
open Go.AW Go.Proofs Go.Shf
end Go.Proofs.Shf
namespace Go.Proofs.Shf
open Go.AW Go.Proofs Go.Shf
end Go.Proofs.Shf
namespace Go.AW
open Go.Proofs Go.Proofs.Shf Go.Shf Go.RowKit
end Go.AW
namespace Go.AW
open Go.Proofs Go.Proofs.Shf Go.Shf Go.RowKit
end Go.AW
namespace Go.AW
open Go.Proofs Go.Proofs.Shf Go.Shf Go.RowKit
end Go.AW
namespace Go.Proofs.Shf
open Go.AW Go.Proofs Go.Shf
end Go.Proofs.Shf
namespace Go.Shf
open Go.AW
end Go.Shf
namespace Go.Proofs.Shf
open Go.AW Go.Proofs Go.Shf
theorem dTrue {p : Decidable True} : @decide True p = true := @decide_eq_true True p trivial
end Go.Proofs.Shf
namespace Go.Proofs.Shf
open Go.AW Go.Proofs Go.Shf
theorem same29_ok (B : Nat) (a b : List (List Int)) : Pur Tryz.prog B 14 [iLL a, iLL b] (.bool (dec (a = b))) := by
 refine ⟨fun H0 => c14 (by simp) fun ⟨hf, hg, _⟩ => ?_⟩
 have hl := fine_mL_le hf
 have hl2 := fine_mL_le hg
 simp only [maxL] at hl hl2
 unfold s14
 try simp only [go_sem, reduceAdd]
 refine ⟨fun h0 => At.mk ?_, fun h0 => At.mk ?_⟩
 ·try simp only [go_sem]
  have h0p : a.length ≠ b.length := by simpa using h0
  exact pure_ret (by rw [dec_f]; rintro rfl; exact h0p rfl) (.refl _)
 have h0p : a.length = b.length := by simpa using h0
 try simp only [go_sem]
 refine awp_for [0, 1] (fun k _ => [(5, some (.int .i64 (k : Int)))]) (fun k _ H => H = H0 ∧ ∀ i, i < k → a.getD i default = b.getD i default) a.length () ⟨rfl, by simp⟩ rfl ?_
 rintro k _ H hk ⟨rfl, hall⟩
 try simp only [go_sem]
 refine ⟨fun h1 => At.mk ?_, fun h1 => At.mk ?_⟩
 ·have h1 := of_decide h1
  have w1 := wsucc (k := k) (by omega)
  try simp only [go_sem]
  refine ⟨h1, by omega, ?_⟩
  refine ⟨_, (likeInts_ok B (a.getD k default) (b.getD k default)).run, ?_⟩
  by_cases h2 : a.getD k default = b.getD k default
  ·rw [dec_t h2]
   try simp only [go_sem, w1]
   exact for_next () (by omega) ⟨rfl, lt_succ_all hall h2⟩ rfl
  ·rw [dec_f h2]
   try simp only [go_sem]
   exact pure_ret (by rw [dec_f]; rintro rfl; exact h2 rfl) (.refl _)
 ·try simp only [go_sem]
  have h1 := of_ndecide h1
  refine pure_ret ?_ (.refl _)
  rw [dec_t]
  refine List.ext_getElem h0p fun i hi hj => ?_
  have := hall i (by omega)
  simpa [List.getD_eq_getElem?_getD, hi, hj] using this
end Go.Proofs.Shf
