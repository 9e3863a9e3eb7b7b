/- Contracts, part 3. -/
import Derived.Test.YtadpkiiglobmpaaGreatF2
set_option linter.unusedVariables false
set_option linter.unusedSimpArgs false
set_option linter.unusedSectionVars false
open Nat (reduceEqDiff reduceAdd reduceMul reduceLeDiff reduceLT)
namespace Go.Proofs.Shf
open Go.AW Go.Proofs Go.Shf
theorem sfFault_ok (B : Nat) (f : SF) (s : f.Shape) (H0 : Heap) : CallH Tryz.prog B 176 [.ptr f.cells] H0 (faultK f.Laws H0) := by
  refine c176 (by simp) fun ⟨hf, _⟩ => ?_
  have hs := s.is.1
  have hm := hs.m
  have hcl := hs.cl
  have htl := hs.tol
  have hil := hs.il
  have hal := s.al
  have hsl := s.sl
  have hob := hs.o
  unfold s176
  (try simp only [go_sem, ↓reduceIte, reduceEqDiff, reduceAdd, reduceMul, reduceLeDiff, reduceLT])
  refine awp_for [0, 6, 23, 24] (fun k _ => [(25, some (.int .i64 (k : Int)))]) (fun k _ H => H = H0 ∧ ∀ x, x < k → ∀ e : Nat, e < (ix f.acts (f.shape.idn.getD x default)).length → (ix f.acts (f.shape.idn.getD x default)).getD e default = e) f.shape.idn.length () ⟨rfl, by simp⟩ rfl ?_
  rintro x _ H hx ⟨rfl, hall⟩
  (try simp only [go_sem, ↓reduceIte, reduceEqDiff, reduceAdd, reduceMul, reduceLeDiff, reduceLT])
  refine ⟨fun g1 => At.mk ?_, fun g1 => At.mk ?_⟩
  · have g1p := g1; simp only [bnt, bnf, decide_eq_true_eq, decide_eq_false_iff_not, dect, decf, Int.not_lt, Int.not_le, Nat.not_lt, Decidable.not_not, ne_eq, Bool.true_eq_false, Bool.false_eq_true] at g1p
    have wx := wsucc (k := x) (by omega)
    have hid := hs.idn _ (mem_getD.mpr ⟨x, g1p, rfl⟩)
    have hlen := s.idLen g1p
    have hz : f.sizes.getD x default < 17 := (s.sz _ (mem_getD.mpr ⟨x, by omega, rfl⟩)).2
    (try simp only [go_sem, ↓reduceIte, reduceEqDiff, reduceAdd, reduceMul, reduceLeDiff, reduceLT])
    refine ⟨g1p, ⟨hid.1, by omega⟩, ?_⟩
    refine awp_for [0, 6, 7, 23, 24, 25, 36, 37] (fun k _ => [(38, some (.int .i64 (k : Int)))]) (fun k _ H' => H' = H ∧ ∀ e : Nat, e < k → (ix f.acts (f.shape.idn.getD x default)).getD e default = e) (ix f.acts (f.shape.idn.getD x default)).length () ⟨rfl, by simp⟩ rfl ?_
    rintro e _ H' he ⟨rfl, hall2⟩
    (try simp only [go_sem, ↓reduceIte, reduceEqDiff, reduceAdd, reduceMul, reduceLeDiff, reduceLT])
    refine ⟨fun g2 => At.mk ?_, fun g2 => At.mk ?_⟩
    rotate_left
    · (try simp only [go_sem, ↓reduceIte, reduceEqDiff, reduceAdd, reduceMul, reduceLeDiff, reduceLT, wx])
      have g2p := g2; simp only [bnt, bnf, decide_eq_true_eq, decide_eq_false_iff_not, dect, decf, Int.not_lt, Int.not_le, Nat.not_lt, Decidable.not_not, ne_eq, Bool.true_eq_false, Bool.false_eq_true] at g2p
      exact for_next () g1p ⟨rfl, lt_succ_all hall fun e he => hall2 e (by omega)⟩ rfl
    have g2p := g2; simp only [bnt, bnf, decide_eq_true_eq, decide_eq_false_iff_not, dect, decf, Int.not_lt, Int.not_le, Nat.not_lt, Decidable.not_not, ne_eq, Bool.true_eq_false, Bool.false_eq_true] at g2p
    have we := wsucc (k := e) (by omega)
    (try simp only [go_sem, ↓reduceIte, reduceEqDiff, reduceAdd, reduceMul, reduceLeDiff, reduceLT])
    refine ⟨g2p, ?_⟩
    refine ⟨fun g3 => At.mk ?_, fun g3 => At.mk ?_⟩
    · (try simp only [go_sem, ↓reduceIte, reduceEqDiff, reduceAdd, reduceMul, reduceLeDiff, reduceLT])
      have g3p := g3; simp only [bnt, bnf, decide_eq_true_eq, decide_eq_false_iff_not, dect, decf, Int.not_lt, Int.not_le, Nat.not_lt, Decidable.not_not, ne_eq, Bool.true_eq_false, Bool.false_eq_true] at g3p
      exact fault_ret (by constructor; · intro h; cases h
                          · intro l; exact absurd (l.idl x g1p e g2p) g3p) (.refl _)
    · (try simp only [go_sem, ↓reduceIte, reduceEqDiff, reduceAdd, reduceMul, reduceLeDiff, reduceLT, we])
      have g3p := g3; simp only [bnt, bnf, decide_eq_true_eq, decide_eq_false_iff_not, dect, decf, Int.not_lt, Int.not_le, Nat.not_lt, Decidable.not_not, ne_eq, Bool.true_eq_false, Bool.false_eq_true] at g3p
      exact for_next () g2p ⟨rfl, lt_succ_all hall2 g3p⟩ rfl
  have g1p := g1; simp only [bnt, bnf, decide_eq_true_eq, decide_eq_false_iff_not, dect, decf, Int.not_lt, Int.not_le, Nat.not_lt, Decidable.not_not, ne_eq, Bool.true_eq_false, Bool.false_eq_true] at g1p
  have hidl : ∀ x : Nat, x < f.shape.idn.length → ∀ e : Nat, e < (ix f.acts (f.shape.idn.getD x default)).length → (ix f.acts (f.shape.idn.getD x default)).getD e default = e := fun x hx => hall x (by omega)
  (try simp only [go_sem, ↓reduceIte, reduceEqDiff, reduceAdd, reduceMul, reduceLeDiff, reduceLT])
  refine awp_for [0, 53, 54] (fun k _ => [(55, some (.int .i64 (k : Int)))]) (fun k _ H' => H' = H ∧ ∀ a, a < k → ∀ b, b < f.shape.frm.length → f.CompAt a b) f.shape.comp.length () ⟨rfl, by simp⟩ rfl ?_
  rintro a _ H' ha ⟨rfl, hA⟩
  (try simp only [go_sem, ↓reduceIte, reduceEqDiff, reduceAdd, reduceMul, reduceLeDiff, reduceLT])
  refine ⟨fun g1 => At.mk ?_, fun g1 => At.mk ?_⟩
  rotate_left
  · (try simp only [go_sem, ↓reduceIte, reduceEqDiff, reduceAdd, reduceMul, reduceLeDiff, reduceLT])
    have g1p := g1; simp only [bnt, bnf, decide_eq_true_eq, decide_eq_false_iff_not, dect, decf, Int.not_lt, Int.not_le, Nat.not_lt, Decidable.not_not, ne_eq, Bool.true_eq_false, Bool.false_eq_true] at g1p
    exact fault_ret (by simp only [true_iff]; exact ⟨hidl, fun a b ha hb => hA a (by omega) b hb⟩) (.refl _)
  have g1p := g1; simp only [bnt, bnf, decide_eq_true_eq, decide_eq_false_iff_not, dect, decf, Int.not_lt, Int.not_le, Nat.not_lt, Decidable.not_not, ne_eq, Bool.true_eq_false, Bool.false_eq_true] at g1p
  have ham : a < f.shape.frm.length := by omega
  have wa := wsucc (k := a) (by omega)
  have ra := hs.row a ham
  have fa := hs.frm' ham
  have la := s.actLen (a := (a : Int)) (by omega)
  rw [ix_nat2, ix_nat2] at la
  have za := s.sz _ (ix_mem (l := f.sizes) (i := f.shape.frm.getD a default) (by omega))
  (try simp only [go_sem, ↓reduceIte, reduceEqDiff, reduceAdd, reduceMul, reduceLeDiff, reduceLT])
  refine ⟨g1p, ?_⟩
  refine awp_for [0, 11, 53, 54, 55, 60, 61] (fun k _ => [(62, some (.int .i64 (k : Int)))]) (fun k _ H => H = H' ∧ ∀ b, b < k → f.CompAt a b) (f.shape.comp.getD a default).length () ⟨rfl, by simp⟩ rfl ?_
  rintro b _ H hb ⟨rfl, hB⟩
  (try simp only [go_sem, ↓reduceIte, reduceEqDiff, reduceAdd, reduceMul, reduceLeDiff, reduceLT])
  refine ⟨fun g2 => At.mk ?_, fun g2 => At.mk ?_⟩
  rotate_left
  · (try simp only [go_sem, ↓reduceIte, reduceEqDiff, reduceAdd, reduceMul, reduceLeDiff, reduceLT, wa])
    have g2p := g2; simp only [bnt, bnf, decide_eq_true_eq, decide_eq_false_iff_not, dect, decf, Int.not_lt, Int.not_le, Nat.not_lt, Decidable.not_not, ne_eq, Bool.true_eq_false, Bool.false_eq_true] at g2p
    exact for_next () g1p ⟨rfl, lt_succ_all hA fun b hb => hB b (by omega)⟩ rfl
  have g2p := g2; simp only [bnt, bnf, decide_eq_true_eq, decide_eq_false_iff_not, dect, decf, Int.not_lt, Int.not_le, Nat.not_lt, Decidable.not_not, ne_eq, Bool.true_eq_false, Bool.false_eq_true] at g2p
  have hbm : b < f.shape.frm.length := by omega
  have wb := wsucc (k := b) (by omega)
  (try simp only [go_sem, ↓reduceIte, reduceEqDiff, reduceAdd, reduceMul, reduceLeDiff, reduceLT])
  refine ⟨g2p, ?_⟩
  refine ⟨fun g3 => At.mk ?_, fun g3 => At.mk ?_⟩
  · (try simp only [go_sem, ↓reduceIte, reduceEqDiff, reduceAdd, reduceMul, reduceLeDiff, reduceLT, wb])
    have g3p := g3; simp only [bnt, bnf, decide_eq_true_eq, decide_eq_false_iff_not, dect, decf, Int.not_lt, Int.not_le, Nat.not_lt, Decidable.not_not, ne_eq, Bool.true_eq_false, Bool.false_eq_true] at g3p
    exact for_next () g2p ⟨rfl, lt_succ_all hB fun e => by have := (hs.pos ham hbm).mpr e; omega⟩ rfl
  have g3p := g3; simp only [bnt, bnf, decide_eq_true_eq, decide_eq_false_iff_not, dect, decf, Int.not_lt, Int.not_le, Nat.not_lt, Decidable.not_not, ne_eq, Bool.true_eq_false, Bool.false_eq_true] at g3p
  have g3q := (hs.pos ham hbm).mp g3p
  have hy := hs.yes a b ham hbm g3q
  have lc := s.actLen (a := (f.shape.comp.getD a default).getD b default) (by omega)
  rw [hy.2.1] at lc
  have lb := s.actLen (a := (b : Int)) (by omega)
  rw [ix_nat2, ix_nat2] at lb
  (try simp only [go_sem, ↓reduceIte, reduceEqDiff, reduceAdd, reduceMul, reduceLeDiff, reduceLT])
  refine ⟨by omega, ?_⟩
  refine awp_for [0, 11, 13, 14, 53, 54, 55, 60, 61, 62, 75, 76] (fun k _ => [(77, some (.int .i64 (k : Int)))]) (fun k _ H' => H' = H ∧ ∀ e : Nat, e < k →
    (ix f.acts ((f.shape.comp.getD a default).getD b default)).getD e default = ix (f.acts.getD b default) ((f.acts.getD a default).getD e default)) (f.acts.getD a default).length () ⟨rfl, by simp⟩ rfl ?_
  rintro e _ H' he ⟨rfl, hE⟩
  (try simp only [go_sem, ↓reduceIte, reduceEqDiff, reduceAdd, reduceMul, reduceLeDiff, reduceLT])
  refine ⟨fun g4 => At.mk ?_, fun g4 => At.mk ?_⟩
  rotate_left
  · (try simp only [go_sem, ↓reduceIte, reduceEqDiff, reduceAdd, reduceMul, reduceLeDiff, reduceLT, wb])
    have g4p := g4; simp only [bnt, bnf, decide_eq_true_eq, decide_eq_false_iff_not, dect, decf, Int.not_lt, Int.not_le, Nat.not_lt, Decidable.not_not, ne_eq, Bool.true_eq_false, Bool.false_eq_true] at g4p
    exact for_next () g2p ⟨rfl, lt_succ_all hB fun _ e he => hE e (by omega)⟩ rfl
  have g4p := g4; simp only [bnt, bnf, decide_eq_true_eq, decide_eq_false_iff_not, dect, decf, Int.not_lt, Int.not_le, Nat.not_lt, Decidable.not_not, ne_eq, Bool.true_eq_false, Bool.false_eq_true] at g4p
  have we := wsucc (k := e) (by omega)
  have hv := (s.act a (by omega)).2 _ (mem_getD.mpr ⟨e, g4p, rfl⟩)
  rw [g3q] at hv
  (try simp only [go_sem, ↓reduceIte, reduceEqDiff, reduceAdd, reduceMul, reduceLeDiff, reduceLT])
  refine ⟨g4p, ⟨g3p, by omega⟩, by omega, by omega, ⟨hv.1, by omega⟩, ?_⟩
  refine ⟨fun g5 => At.mk ?_, fun g5 => At.mk ?_⟩
  · (try simp only [go_sem, ↓reduceIte, reduceEqDiff, reduceAdd, reduceMul, reduceLeDiff, reduceLT])
    have g5p := g5; simp only [bnt, bnf, decide_eq_true_eq, decide_eq_false_iff_not, dect, decf, Int.not_lt, Int.not_le, Nat.not_lt, Decidable.not_not, ne_eq, Bool.true_eq_false, Bool.false_eq_true] at g5p
    exact fault_ret (by constructor; · intro h; cases h
                        · intro l; exact absurd (l.comp a b ham hbm g3q e g4p) g5p) (.refl _)
  · (try simp only [go_sem, ↓reduceIte, reduceEqDiff, reduceAdd, reduceMul, reduceLeDiff, reduceLT, we])
    have g5p := g5; simp only [bnt, bnf, decide_eq_true_eq, decide_eq_false_iff_not, dect, decf, Int.not_lt, Int.not_le, Nat.not_lt, Decidable.not_not, ne_eq, Bool.true_eq_false, Bool.false_eq_true] at g5p
    exact for_next () g4p ⟨rfl, lt_succ_all hE g5p⟩ rfl
end Go.Proofs.Shf
namespace Go.Proofs.Shf
open Go.AW Go.Proofs Go.Shf
theorem isSetFunctor_ok (B : Nat) (f : SF) : Pur Tryz.prog B 80 [.ptr f.cells] (.bool (dec f.Is)) := by
  refine ⟨fun H0 => c80 (by simp) fun hf => ?_⟩
  unfold s80
  (try simp only [go_sem, ↓reduceIte, reduceEqDiff, reduceAdd, reduceMul, reduceLeDiff, reduceLT])
  refine (sfIsShape_ok B f).go fun _ => ?_
  (try simp only [go_sem, ↓reduceIte, reduceEqDiff, reduceAdd, reduceMul, reduceLeDiff, reduceLT])
  refine ⟨fun h1 => At.mk ?_, fun h1 => At.mk ?_⟩
  · (try simp only [go_sem, ↓reduceIte, reduceEqDiff, reduceAdd, reduceMul, reduceLeDiff, reduceLT])
    have h1p := h1; simp only [bnt, bnf, decide_eq_true_eq, decide_eq_false_iff_not, dect, decf, Int.not_lt, Int.not_le, Nat.not_lt, Decidable.not_not, ne_eq, Bool.true_eq_false, Bool.false_eq_true] at h1p
    exact pure_ret (by rw [dec_f]; intro s; exact h1p s.1) (.refl _)
  have h1p := h1; simp only [bnt, bnf, decide_eq_true_eq, decide_eq_false_iff_not, dect, decf, Int.not_lt, Int.not_le, Nat.not_lt, Decidable.not_not, ne_eq, Bool.true_eq_false, Bool.false_eq_true] at h1p
  (try simp only [go_sem, ↓reduceIte, reduceEqDiff, reduceAdd, reduceMul, reduceLeDiff, reduceLT])
  refine (sfFault_ok B f h1p H0).mono' ?_
  rintro _ _ _ ⟨rfl, k, a, b, d, rfl, hk⟩
  (try simp only [go_sem, ↓reduceIte, reduceEqDiff, reduceAdd, reduceMul, reduceLeDiff, reduceLT])
  exact pure_ret (by rw [decide_dec]; congr 1; exact dec_congr ⟨fun h => ⟨h1p, hk.mp h⟩, fun h => hk.mpr h.2⟩) (.refl _)
instance : Inhabited SF := ⟨⟨⟨0, [], [], [], []⟩, [], []⟩⟩
end Go.Proofs.Shf
namespace Go.Proofs.Shf
open Go.AW Go.Proofs Go.Shf
end Go.Proofs.Shf
namespace Go.Proofs.Shf
open Go.AW Go.Proofs Go.Shf
end Go.Proofs.Shf
namespace Go.Proofs.Shf
open Go.AW Go.Proofs Go.Shf
end Go.Proofs.Shf
namespace Go.Proofs.Shf
open Go.AW Go.Proofs Go.Shf
end Go.Proofs.Shf
namespace Go.Proofs.Shf
open Go.AW Go.Proofs Go.Shf
@[go_sem] def taskCells (sizes : List Int) (ls : List Lk) (at' : List (List Int)) (most : Nat) (X : AV) : List AV := [iL sizes, mL lkE ls, iLL at', .int .i64 most, X]
end Go.Proofs.Shf
namespace Go.Proofs.Shf
open Go.AW Go.Proofs Go.Shf
end Go.Proofs.Shf
namespace Go.Proofs.Shf
open Go.AW Go.Proofs Go.Shf
end Go.Proofs.Shf
