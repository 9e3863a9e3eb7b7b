/- A part of a proof. -/
import Derived.Test.YtadpkiiglobmpaaGreatF13
set_option linter.unusedVariables false
set_option linter.unusedSimpArgs false
set_option linter.unusedSectionVars false
open Nat (reduceEqDiff reduceAdd reduceMul reduceLeDiff reduceLT)
namespace Go.Proofs.Shf
open Go.AW Go.Proofs Go.Shf
end Go.Proofs.Shf
namespace Go.Proofs.Shf
open Go.AW Go.Proofs Go.Shf
end Go.Proofs.Shf
namespace Go.Proofs.Shf
open Go.AW Go.Proofs Go.Shf
end Go.Proofs.Shf
namespace Go.Proofs.Shf
open Go.AW Go.Proofs Go.Shf
theorem l02Hom_ok (B : Nat) (c : Cat) (s : c.Shape) (x y : Int) : Pur Tryz.prog B 198 [.agg c.cells, iI x, iI y] (iL (homC c x y)) := by
 refine ⟨fun H0 => c198 (by simp) fun _ => ?_⟩
 unfold s198
 have o : Owns H0 H0 [] := .nil _
 have hm := s.m
 have htl := s.tol
 try simp only [go_sem, reduceAdd]
 refine new_list iI o fun id H o => ?_
 try simp only [go_sem]
 refine awp_for [1, 2, 3] (G := Nat × List Int) (fun k g => [(7, some (.buf g.1 g.2.length)), (8, some (.int .i64 (k : Int)))])
  (fun k g H => g.2 = homK c x y k ∧ Owns H0 H [(g.1, .cells 1 (g.2.map iI) 0)]) c.frm.length (id, []) ⟨rfl, o⟩ rfl ?_
 clear o
 rintro k ⟨id, out⟩ H hk ⟨hout, o⟩
 dsimp only at hout o
 have houl : out.length ≤ k := by rw [hout]; exact homK_len _ _ _
 try simp only [go_sem, reduceAdd, reduceLeDiff]
 refine ⟨fun h1 => At.mk ?_, fun h1 => At.mk ?_⟩
 ·have h1p : k < c.frm.length := of_decide h1
  have w1 := wsucc (k := k) (by omega)
  try simp only [go_sem, reduceAdd, reduceLeDiff]
  refine ⟨h1p, ?_⟩
  by_cases e1 : c.frm.getD k default = x
  ·rw [decide_eq_true e1]
   try simp only [go_sem, reduceAdd, reduceLeDiff]
   refine ⟨by omega, ?_⟩
   by_cases e2 : c.to.getD k default = y
   ·rw [decide_eq_true e2]
    try simp only [go_sem, reduceAdd]
    refine app_own (k : Int) o rfl rfl (by simp only [maxL]; omega) fun z H o => ?_
    try simp only [go_sem, w1]
    exact for_next (z, out ++ [(k : Int)]) h1p ⟨by rw [hout, homK_t e1 e2], o⟩ rfl
   ·rw [decide_eq_false e2]
    try simp only [go_sem, w1]
    exact for_next (id, out) h1p ⟨by rw [hout, homK_f fun h => e2 h.2], o⟩ rfl
  ·rw [decide_eq_false e1]
   try simp only [go_sem, w1]
   exact for_next (id, out) h1p ⟨by rw [hout, homK_f fun h => e1 h.1], o⟩ rfl
 ·have h1p := of_ndecide h1
  have ek : k = c.frm.length := by omega
  rw [ek, homK_full] at hout
  try simp only [go_sem]
  refine fz_own o rfl fun H o => ?_
  try simp only [go_sem]
  exact pure_ret (by rw [hout]) o.sub
end Go.Proofs.Shf
namespace Go.Proofs.Shf
open Go.AW Go.Proofs Go.Shf
end Go.Proofs.Shf
namespace Go.Proofs.Shf
open Go.AW Go.Proofs Go.Shf
end Go.Proofs.Shf
namespace Go.Proofs.Shf
open Go.AW Go.Proofs Go.Shf
end Go.Proofs.Shf
namespace Go.Proofs.Shf
open Go.AW Go.Proofs Go.Shf
end Go.Proofs.Shf
namespace Go.AW
end Go.AW
namespace Go.Proofs.Shf
open Go.AW Go.Proofs Go.Shf
end Go.Proofs.Shf
