/- A part of a proof. -/
import Derived.Test.YtadpkiiglobmpaaGreatF8
import Derived.Test.YtadpkiiglobmpaaGreatProg
import Derived.Tactics
import Derived.Tactics2
import Derived.Defers
import Derived.Laws.Pointers
import Derived.Laws.LoneSync
import Derived.RegionTactic
import Derived.RegionCalls
import Derived.ChangeAlike
import Derived.Shelf.SlLaysF
import Derived.Shelf.SlSortCmp.Whole1
set_option linter.unusedVariables false
set_option linter.unusedSimpArgs false
set_option linter.unusedSectionVars false
open Nat (reduceEqDiff reduceAdd reduceMul reduceLeDiff reduceLT)
namespace Go.Proofs.Shf
open Go.AW Go.Proofs Go.Shf
end Go.Proofs.Shf
namespace Go.Proofs.Shf
open Go.AW Go.Proofs Go.RowKit
end Go.Proofs.Shf
namespace Go.Proofs.Shf
open Go.AW Go.Proofs Go.RowKit
end Go.Proofs.Shf
namespace Go.Shf
open Go.AW
end Go.Shf
namespace Go.Proofs.Shf
open Go.AW Go.Proofs Go.Shf
theorem homP_t {c : Cat} {x y : Int} {i : Nat} (h1 : c.frm.getD i default = x) (h2 : c.to.getD i default = y) : homP c x y i = true := by
 simp only [homP, Bool.and_eq_true, decide_eq_true_eq]; exact ⟨h1, h2⟩
theorem homP_f {c : Cat} {x y : Int} {i : Nat} (h : ¬ (c.frm.getD i default = x ∧ c.to.getD i default = y)) : homP c x y i = false := by
 simp only [homP, Bool.and_eq_false_iff, decide_eq_false_iff_not]
 by_cases h1 : c.frm.getD i default = x
 ·exact .inr fun h2 => h ⟨h1, h2⟩
 ·exact .inl h1
theorem hom_ok (B : Nat) (c : Cat) (hs : c.Shape) (x y : Int) : Pur Tryz.prog B 191 [.ptr c.cells, iI x, iI y] (iL (hom c x y)) := by
 refine ⟨fun H0 => c191p (by simp) fun _ => ?_⟩
 have hm := hs.m
 have htl := hs.tol
 unfold s191p
 try simp only [go_sem, reduceAdd]
 refine new_list iI (.nil _) fun id H o => ?_
 try simp only [go_sem, reduceAdd, reduceLeDiff]
 refine awp_for [0, 1, 2, 14] (G := Nat × List (Int)) (fun k g => [(7, some (.buf g.1 g.2.length)), (15, some (.int .i64 (k : Int)))]) (fun k g H => g.2 = (nats (homP c x y) k) ∧ Owns H0 H [(g.1, .cells 1 (g.2.map iI) 0)]) c.frm.length (id, []) ⟨by simp, o⟩ rfl ?_
 rintro k ⟨id, out⟩ H hk ⟨hout, o⟩
 replace hout : out = (nats (homP c x y) k) := hout
 try simp only [go_sem]
 refine ⟨fun h1 => At.mk ?_, fun h1 => At.mk ?_⟩
 ·have h1 := of_decide h1
  have w1 := wsucc (k := k) (by omega)
  have hlen : out.length ≤ k := by rw [hout]; exact nats_len _ _
  try simp only [go_sem, reduceAdd, reduceLeDiff]
  refine ⟨h1, ?_⟩
  refine ⟨fun h2 => At.mk ?_, fun h2 => At.mk ?_⟩
  ·try simp only [go_sem, reduceAdd, reduceLeDiff, h2]
   have h2p := h2; simp only [decide_eq_true_eq] at h2p
   refine ⟨by omega, ?_⟩
   refine ⟨fun h3 => At.mk ?_, fun h3 => At.mk ?_⟩
   ·try simp only [go_sem, reduceAdd, h3]
    have h3p := h3; simp only [decide_eq_true_eq] at h3p
    refine app_own (k : Int) o rfl rfl (by simp only [maxL]; omega) fun id H o => ?_
    try simp only [go_sem, w1]
    exact for_next (_, _) (by omega) ⟨by rw [hout, nats_t (homP_t h2p h3p)], o⟩ rfl
   ·try simp only [go_sem, h3, w1]
    have h3p := h3; simp only [decide_eq_false_iff_not] at h3p
    exact for_next (_, _) (by omega) ⟨by rw [hout, nats_f (homP_f fun e => h3p e.2)], o⟩ rfl
  ·try simp only [go_sem, h2, w1]
   have h2p := h2; simp only [decide_eq_false_iff_not] at h2p
   exact for_next (_, _) (by omega) ⟨by rw [hout, nats_f (homP_f fun e => h2p e.1)], o⟩ rfl
 ·try simp only [go_sem]
  have h1 := of_ndecide h1
  refine fz_own o rfl fun H o => ?_
  try simp only [go_sem]
  exact pure_ret (by rw [hout, show k = c.frm.length by omega]; rfl) o.sub
end Go.Proofs.Shf
namespace Go.Proofs
open Go.Shelf
end Go.Proofs
namespace Go.Proofs.Shf
open Go.AW Go.Proofs Go.Shf Go.RowKit Go.Sort
end Go.Proofs.Shf
namespace Go.Proofs.Shf
open Go.AW Go.Proofs Go.Shf
end Go.Proofs.Shf
namespace Go.Shf
open Go.AW
end Go.Shf
namespace Go.Proofs.Shf
open Go.AW Go.Proofs Go.Shf
end Go.Proofs.Shf
namespace Go.Shf
open Go.AW
end Go.Shf
namespace Go.Proofs.Shf
open Go.AW Go.Proofs Go.Shf
end Go.Proofs.Shf
