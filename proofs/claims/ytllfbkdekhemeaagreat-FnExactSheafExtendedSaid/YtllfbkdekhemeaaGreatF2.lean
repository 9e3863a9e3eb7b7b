/- Contracts, part 2. -/
import Derived.Test.YtllfbkdekhemeaaGreatF1
import Derived.Sort.Row
import Derived.Sort.Grow
import Derived.Deep.Draws
set_option linter.unusedVariables false
set_option linter.unusedSimpArgs false
set_option linter.unusedSectionVars false
open Nat (reduceEqDiff reduceAdd reduceMul reduceLeDiff reduceLT)
namespace Go.Proofs.Shf
open Go.AW Go.Proofs Go.Shf
theorem sfFault_ok (B : Nat) (f : SF) (s : f.Shape) (H0 : Heap) : CallH Tryz.prog B 166 [.ptr f.cells] H0 (faultK f.Laws H0) := by
 refine c166 (by simp) fun ⟨hf, _⟩ => ?_; have hs := s.is.1; have hm := hs.m; have hcl := hs.cl; have htl := hs.tol; have hil := hs.il; have hal := s.al; have hsl := s.sl; have hob := hs.o; unfold s166; simp only [go_sem, reduceAdd, reduceLeDiff]; refine awp_for [0, 6, 23, 24] (fun k _ => [(25, some (.int .i64 (k : Int)))]) (fun k _ H => H = H0 ∧ ∀ x, x < k → ∀ e : Nat, e < (ix f.acts (f.shape.idn.getD x default)).length → (ix f.acts (f.shape.idn.getD x default)).getD e default = e) f.shape.idn.length () ⟨rfl, by simp⟩ rfl ?_; rintro x _ H hx ⟨rfl, hall⟩; simp only [go_sem]; refine ⟨fun g1 => At.mk ?_, fun g1 => At.mk ?_⟩
 ·have g1p := g1; simp only [dT] at g1p; have wx := wsucc (k := x) (by omega); have hid := hs.idn _ (mem_getD.mpr ⟨x, g1p, rfl⟩); have hlen := s.idLen g1p; have hz : f.sizes.getD x default < 17 := (s.sz _ (mem_getD.mpr ⟨x, by omega, rfl⟩)).2; simp only [go_sem, reduceAdd, reduceLeDiff]; refine ⟨g1p, ⟨hid.1, by omega⟩, ?_⟩; refine awp_for [0, 6, 7, 23, 24, 25, 36, 37] (fun k _ => [(38, some (.int .i64 (k : Int)))]) (fun k _ H' => H' = H ∧ ∀ e : Nat, e < k → (ix f.acts (f.shape.idn.getD x default)).getD e default = e) (ix f.acts (f.shape.idn.getD x default)).length () ⟨rfl, by simp⟩ rfl ?_; rintro e _ H' he ⟨rfl, hall2⟩; simp only [go_sem]; refine ⟨fun g2 => At.mk ?_, fun g2 => At.mk ?_⟩; rotate_left
  ·simp only [go_sem, wx]; have g2p := g2; simp only [dF, Nat.not_lt] at g2p; exact for_next () g1p ⟨rfl, lt_succ_all hall fun e he => hall2 e (by omega)⟩ rfl
  have g2p := g2; simp only [dT] at g2p; have we := wsucc (k := e) (by omega); simp only [go_sem]; refine ⟨g2p, ?_⟩; refine ⟨fun g3 => At.mk ?_, fun g3 => At.mk ?_⟩
  ·simp only [go_sem]; have g3p := g3; simp only [bnt, dF] at g3p; exact fault_ret (by constructor; (intro h; cases h); intro l; exact absurd (l.idl x g1p e g2p) g3p) (.refl _)
  ·simp only [go_sem, we]; have g3p := g3; simp only [bnf, dT] at g3p; exact for_next () g2p ⟨rfl, lt_succ_all hall2 g3p⟩ rfl
 have g1p := g1; simp only [dF, Nat.not_lt] at g1p; have hidl : ∀ x : Nat, x < f.shape.idn.length → ∀ e : Nat, e < (ix f.acts (f.shape.idn.getD x default)).length → (ix f.acts (f.shape.idn.getD x default)).getD e default = e := fun x hx => hall x (by omega); simp only [go_sem, reduceAdd, reduceLeDiff]; refine awp_for [0, 53, 54] (fun k _ => [(55, some (.int .i64 (k : Int)))]) (fun k _ H' => H' = H ∧ ∀ a, a < k → ∀ b, b < f.shape.frm.length → f.CompAt a b) f.shape.comp.length () ⟨rfl, by simp⟩ rfl ?_; rintro a _ H' ha ⟨rfl, hA⟩; simp only [go_sem]; refine ⟨fun g1 => At.mk ?_, fun g1 => At.mk ?_⟩; rotate_left
 ·simp only [go_sem]; have g1p := g1; simp only [dF, Nat.not_lt] at g1p; exact fault_ret (by simp only [true_iff]; exact ⟨hidl, fun a b ha hb => hA a (by omega) b hb⟩) (.refl _)
 have g1p := g1; simp only [dT] at g1p; have ham : a < f.shape.frm.length := by omega
 have wa := wsucc (k := a) (by omega); have ra := hs.row a ham; have fa := hs.frm' ham; have la := s.actLen (a := (a : Int)) (by omega); rw [ix_nat2, ix_nat2] at la; have za := s.sz _ (ix_mem (l := f.sizes) (i := f.shape.frm.getD a default) (by omega)); simp only [go_sem]; refine ⟨g1p, ?_⟩; refine awp_for [0, 11, 53, 54, 55, 60, 61] (fun k _ => [(62, some (.int .i64 (k : Int)))]) (fun k _ H => H = H' ∧ ∀ b, b < k → f.CompAt a b) (f.shape.comp.getD a default).length () ⟨rfl, by simp⟩ rfl ?_; rintro b _ H hb ⟨rfl, hB⟩; simp only [go_sem]; refine ⟨fun g2 => At.mk ?_, fun g2 => At.mk ?_⟩; rotate_left
 ·simp only [go_sem, wa]; have g2p := g2; simp only [dF, Nat.not_lt] at g2p; exact for_next () g1p ⟨rfl, lt_succ_all hA fun b hb => hB b (by omega)⟩ rfl
 have g2p := g2; simp only [dT] at g2p; have hbm : b < f.shape.frm.length := by omega
 have wb := wsucc (k := b) (by omega); simp only [go_sem]; refine ⟨g2p, ?_⟩; refine ⟨fun g3 => At.mk ?_, fun g3 => At.mk ?_⟩
 ·simp only [go_sem, wb]; have g3p := g3; simp only [dT] at g3p; exact for_next () g2p ⟨rfl, lt_succ_all hB fun e => by have := (hs.pos ham hbm).mpr e; omega⟩ rfl
 have g3p := g3; simp only [dF, Int.not_lt] at g3p; have g3q := (hs.pos ham hbm).mp g3p; have hy := hs.yes a b ham hbm g3q; have lc := s.actLen (a := (f.shape.comp.getD a default).getD b default) (by omega); rw [hy.2.1] at lc; have lb := s.actLen (a := (b : Int)) (by omega); rw [ix_nat2, ix_nat2] at lb; simp only [go_sem, reduceAdd, reduceLeDiff]; refine ⟨by omega, ?_⟩; refine awp_for [0, 11, 13, 14, 53, 54, 55, 60, 61, 62, 75, 76] (fun k _ => [(77, some (.int .i64 (k : Int)))]) (fun k _ H' => H' = H ∧ ∀ e : Nat, e < k →
  (ix f.acts ((f.shape.comp.getD a default).getD b default)).getD e default = ix (f.acts.getD b default) ((f.acts.getD a default).getD e default)) (f.acts.getD a default).length () ⟨rfl, by simp⟩ rfl ?_
 rintro e _ H' he ⟨rfl, hE⟩; simp only [go_sem]; refine ⟨fun g4 => At.mk ?_, fun g4 => At.mk ?_⟩; rotate_left
 ·simp only [go_sem, wb]; have g4p := g4; simp only [dF, Nat.not_lt] at g4p; exact for_next () g2p ⟨rfl, lt_succ_all hB fun _ e he => hE e (by omega)⟩ rfl
 have g4p := g4; simp only [dT] at g4p; have we := wsucc (k := e) (by omega); have hv := (s.act a (by omega)).2 _ (mem_getD.mpr ⟨e, g4p, rfl⟩); rw [g3q] at hv; simp only [go_sem, reduceAdd, reduceLeDiff]; refine ⟨g4p, ⟨g3p, by omega⟩, by omega, by omega, ⟨hv.1, by omega⟩, ?_⟩; refine ⟨fun g5 => At.mk ?_, fun g5 => At.mk ?_⟩
 ·simp only [go_sem]; have g5p := g5; simp only [bnt, dF] at g5p; exact fault_ret (by constructor; (intro h; cases h); intro l; exact absurd (l.comp a b ham hbm g3q e g4p) g5p) (.refl _)
 ·simp only [go_sem, we]; have g5p := g5; simp only [bnf, dT] at g5p; exact for_next () g4p ⟨rfl, lt_succ_all hE g5p⟩ rfl
theorem l19Is_ok (B : Nat) (f : SF) : Pur Tryz.prog B 79 [.agg f.cells] (.bool (dec f.Is)) := by
 refine ⟨fun H0 => c79 (by simp) fun hf => ?_⟩; unfold s79; simp only [go_sem, reduceAdd]; refine (l19Shape_ok B f).go fun _ => ?_; simp only [go_sem]; refine ⟨fun h1 => At.mk ?_, fun h1 => At.mk ?_⟩
 ·simp only [go_sem]; have h1p := h1; simp only [bnt, decf] at h1p; exact pure_ret (by rw [dec_f]; intro s; exact h1p s.1) (.refl _)
 have h1p := h1; simp only [bnf, dect] at h1p; simp only [go_sem, reduceAdd]; refine (l19Fault_ok B f h1p H0).mono' ?_; rintro _ _ _ ⟨rfl, k, a, b, d, rfl, hk⟩; simp only [go_sem, reduceAdd, reduceLT]; exact pure_ret (by rw [decide_dec]; congr 1; exact dec_congr ⟨fun h => ⟨h1p, hk.mp h⟩, fun h => hk.mpr h.2⟩) (.refl _)
theorem isSetFunctor_ok (B : Nat) (f : SF) : Pur Tryz.prog B 130 [.ptr f.cells] (.bool (dec f.Is)) := by
 refine ⟨fun H0 => c130 (by simp) fun hf => ?_⟩; unfold s130; simp only [go_sem, reduceAdd]; refine (sfIsShape_ok B f).go fun _ => ?_; simp only [go_sem]; refine ⟨fun h1 => At.mk ?_, fun h1 => At.mk ?_⟩
 ·simp only [go_sem]; have h1p := h1; simp only [bnt, decf] at h1p; exact pure_ret (by rw [dec_f]; intro s; exact h1p s.1) (.refl _)
 have h1p := h1; simp only [bnf, dect] at h1p; simp only [go_sem]; refine (sfFault_ok B f h1p H0).mono' ?_; rintro _ _ _ ⟨rfl, k, a, b, d, rfl, hk⟩; simp only [go_sem, reduceAdd, reduceLT]; exact pure_ret (by rw [decide_dec]; congr 1; exact dec_congr ⟨fun h => ⟨h1p, hk.mp h⟩, fun h => hk.mpr h.2⟩) (.refl _)
instance : Inhabited SF := ⟨⟨⟨0, [], [], [], []⟩, [], []⟩⟩
abbrev sfP (f : SF) : AV := .ptr f.cells
instance : One sfP := ⟨fun _ => rfl, fun _ => rfl⟩
theorem areSetFunctors_ok (B : Nat) (l : List SF) : Pur Tryz.prog B 87 [mL sfP l] (.bool (dec (∀ f, f ∈ l → f.Is))) := by
 refine ⟨fun H0 => c87 (by simp) fun ⟨hf, _⟩ => ?_⟩; have hl := fine_mL_le hf; simp only [maxL] at hl; unfold s87; simp only [go_sem, reduceAdd]; refine awp_for [5, 6] (fun k _ => [(7, some (.int .i64 (k : Int)))]) (fun k _ H => H = H0 ∧ ∀ i, i < k → (l.getD i default).Is) l.length () ⟨rfl, by simp⟩ rfl ?_; rintro k _ H hk ⟨rfl, hall⟩; simp only [go_sem]; refine ⟨fun h1 => At.mk ?_, fun h1 => At.mk ?_⟩
 ·have h1p := h1; simp only [dT] at h1p; have w1 := wsucc (k := k) (by omega); simp only [go_sem]; refine ⟨h1p, (isSetFunctor_ok B _).go fun _ => ?_⟩; simp only [go_sem]; refine ⟨fun h2 => At.mk ?_, fun h2 => At.mk ?_⟩
  ·simp only [go_sem]; have h2p := h2; simp only [bnt, decf] at h2p; exact pure_ret (by rw [dec_f]; intro h; exact h2p (h _ (mem_getD.mpr ⟨k, h1p, rfl⟩))) (.refl _)
  ·simp only [go_sem, w1]; have h2p := h2; simp only [bnf, dect] at h2p; exact for_next () (by omega) ⟨rfl, lt_succ_all hall h2p⟩ rfl
 ·simp only [go_sem]; have h1p := h1; simp only [dF, Nat.not_lt] at h1p; exact pure_ret (by rw [dec_t]; exact all_getD.mpr fun i hi => hall i (by omega)) (.refl _)
theorem l02Same_ok (B : Nat) (a b : Cat) : Pur Tryz.prog B 81 [.agg a.cells, .agg b.cells] (.bool (dec (a = b))) := by
 refine ⟨fun H0 => c81 (by simp) fun hf => ?_⟩; unfold s81; simp only [go_sem, reduceAdd, reduceLeDiff]; refine ⟨fun h0 => At.mk ?_, fun h0 => At.mk ?_⟩; rotate_left
 ·simp only [go_sem, h0]; have h0p := h0; simp only [dF] at h0p; exact pure_ret (by rw [dec_f]; rintro rfl; exact h0p rfl) (.refl _)
 simp only [go_sem, reduceAdd, reduceLeDiff, h0]; have h0p := h0; simp only [dT] at h0p; refine (l01Same_ok B a.frm b.frm).go fun _ => ?_; simp only [go_sem]; refine ⟨fun h1 => At.mk ?_, fun h1 => At.mk ?_⟩; rotate_left
 ·simp only [go_sem, h1]; have h1p := h1; simp only [decf] at h1p; exact pure_ret (by rw [dec_f]; rintro rfl; exact h1p rfl) (.refl _)
 simp only [go_sem, reduceAdd, reduceLeDiff, h1]; have h1p := h1; simp only [dect] at h1p; refine (l01Same_ok B a.to b.to).go fun _ => ?_; simp only [go_sem]; refine ⟨fun h2 => At.mk ?_, fun h2 => At.mk ?_⟩; rotate_left
 ·simp only [go_sem, h2]; have h2p := h2; simp only [decf] at h2p; exact pure_ret (by rw [dec_f]; rintro rfl; exact h2p rfl) (.refl _)
 simp only [go_sem, reduceAdd, reduceLeDiff, h2]; have h2p := h2; simp only [dect] at h2p; refine (l01Same_ok B a.idn b.idn).go fun _ => ?_; simp only [go_sem]; refine ⟨fun h3 => At.mk ?_, fun h3 => At.mk ?_⟩; rotate_left
 ·simp only [go_sem, h3]; have h3p := h3; simp only [decf] at h3p; exact pure_ret (by rw [dec_f]; rintro rfl; exact h3p rfl) (.refl _)
 simp only [go_sem, reduceAdd, reduceLeDiff, h3]; have h3p := h3; simp only [dect] at h3p; refine (l01Same2_ok B a.comp b.comp).go fun _ => ?_; simp only [go_sem]; refine pure_ret ?_ (.refl _)
 congr 1
 refine dec_congr ⟨fun h => ?_, fun h => by rw [h]⟩; cases a; cases b; simp_all
theorem sameCategory_ok (B : Nat) (a b : Cat) : Pur Tryz.prog B 132 [.ptr a.cells, .ptr b.cells] (.bool (dec (a = b))) := by
 refine ⟨fun H0 => c132 (by simp) fun ⟨hf, hg, _⟩ => ?_⟩; have hl := fine_mL_le (hf.ptr (c := iLL a.comp) (by simp [Cat.cells])); simp only [maxL] at hl; unfold s132; simp only [go_sem, reduceAdd, reduceLeDiff]; refine ⟨fun h0 => At.mk ?_, fun h0 => At.mk ?_⟩; rotate_left
 ·simp only [go_sem, h0]; have h0p := h0; simp only [bnt, dF] at h0p; exact pure_ret (by rw [dec_f]; rintro rfl; exact h0p rfl) (.refl _)
 simp only [go_sem, reduceAdd, reduceLeDiff, h0]; have h0p := h0; simp only [bnf, dT] at h0p; refine ⟨_, (same_ok B a.frm b.frm).run, ?_⟩; simp only [go_sem]; refine ⟨fun h1 => At.mk ?_, fun h1 => At.mk ?_⟩; rotate_left
 ·simp only [go_sem, h1]; have h1p := h1; simp only [bnt, decf] at h1p; exact pure_ret (by rw [dec_f]; rintro rfl; exact h1p rfl) (.refl _)
 simp only [go_sem, reduceAdd, reduceLeDiff, h1]; have h1p := h1; simp only [bnf, dect] at h1p; refine ⟨_, (same_ok B a.to b.to).run, ?_⟩; simp only [go_sem]; refine ⟨fun h2 => At.mk ?_, fun h2 => At.mk ?_⟩; rotate_left
 ·simp only [go_sem, h2]; have h2p := h2; simp only [bnt, decf] at h2p; exact pure_ret (by rw [dec_f]; rintro rfl; exact h2p rfl) (.refl _)
 simp only [go_sem, reduceAdd, reduceLeDiff, h2]; have h2p := h2; simp only [bnf, dect] at h2p; refine ⟨_, (same_ok B a.idn b.idn).run, ?_⟩; simp only [go_sem]; refine ⟨fun h3 => At.mk ?_, fun h3 => At.mk ?_⟩; rotate_left
 ·simp only [go_sem, h3]; have h3p := h3; simp only [bnt, decf] at h3p; exact pure_ret (by rw [dec_f]; rintro rfl; exact h3p rfl) (.refl _)
 simp only [go_sem, reduceAdd, reduceLeDiff, h3]; have h3p := h3; simp only [bnf, dect] at h3p; refine ⟨fun h4 => At.mk ?_, fun h4 => At.mk ?_⟩
 ·simp only [go_sem, h4]; have h4p := h4; simp only [bnt, dF] at h4p; exact pure_ret (by rw [dec_f]; rintro rfl; exact h4p rfl) (.refl _)
 simp only [go_sem, reduceAdd, reduceLeDiff, h4]; have h4p := h4; simp only [bnf, dT] at h4p; refine awp_for [0, 1, 68] (fun k _ => [(69, some (.int .i64 (k : Int)))]) (fun k _ H => H = H0 ∧ ∀ i, i < k → a.comp.getD i default = b.comp.getD i default) a.comp.length () ⟨rfl, by simp⟩ rfl ?_; rintro k _ H hk ⟨rfl, hall⟩; simp only [go_sem]; refine ⟨fun g1 => At.mk ?_, fun g1 => At.mk ?_⟩
 ·have g1p := g1; simp only [dT] at g1p; have w1 := wsucc (k := k) (by omega); simp only [go_sem, reduceAdd, reduceLeDiff]; refine ⟨g1p, by omega, _, (same_ok ..).run, ?_⟩; simp only [go_sem]; refine ⟨fun g2 => At.mk ?_, fun g2 => At.mk ?_⟩
  ·simp only [go_sem]; have g2p := g2; simp only [bnt, decf] at g2p; exact pure_ret (by rw [dec_f]; rintro rfl; exact g2p rfl) (.refl _)
  ·simp only [go_sem, w1]; have g2p := g2; simp only [bnf, dect] at g2p; exact for_next () g1p ⟨rfl, lt_succ_all hall g2p⟩ rfl
 ·simp only [go_sem]; have g1p := g1; simp only [dF, Nat.not_lt] at g1p; refine pure_ret ?_ (.refl _); rw [dec_t]; have e : a.comp = b.comp := by
   refine List.ext_getElem h4p fun i hi hj => ?_; have := hall i (by omega); simpa [gQ, hi, hj] using this
  cases a; cases b; simp_all
theorem l25Pull_ok (B : Nat) (c : Cat) (hs : c.Shape) (a : Int) (ha : 0 ≤ a ∧ a.toNat < c.frm.length) (s : List Int) : Pur Tryz.prog B 192 [.agg c.cells, .int .i64 a, iL s] (iL (pullS c a s)) := by
 refine ⟨fun H0 => c192 (by simp) fun ⟨_, _, _⟩ => ?_⟩; have hm := hs.m; have hcl := hs.cl; have htl := hs.tol; unfold s192; simp only [go_sem, reduceAdd]; refine new_list iI (.nil _) fun id H o => ?_; simp only [go_sem]; refine awp_for [1, 2, 3] (G := Nat × List (Int)) (fun k g => [(7, some (.buf g.1 g.2.length)), (8, some (.int .i64 (k : Int)))]) (fun k g H => g.2 = (nats (pullP c a s) k) ∧ Owns H0 H [(g.1, .cells 1 (g.2.map iI) 0)]) c.frm.length (id, []) ⟨by simp, o⟩ rfl ?_; rintro k ⟨id, out⟩ H hk ⟨hout, o⟩; replace hout : out = (nats (pullP c a s) k) := hout; simp only [go_sem, reduceAdd, reduceLeDiff]; refine ⟨fun h1 => At.mk ?_, fun h1 => At.mk ?_⟩
 ·have h1 := of_decide h1; have w1 := wsucc (k := k) (by omega); simp only [go_sem, reduceAdd, reduceLeDiff]; have hr := hs.row' (a := a) ha.2; have hlen : out.length ≤ k := by rw [hout]; exact nats_len _ _
  refine ⟨⟨ha.1, by omega⟩, h1, ?_⟩; refine ⟨fun h2 => At.mk ?_, fun h2 => At.mk ?_⟩
  ·simp only [go_sem, reduceAdd, h2]; have h2p := h2; simp only [dT] at h2p; refine ⟨_, (l02Then_ok B c a k ⟨ha.1, by omega⟩ ⟨by omega, by omega⟩).run, ?_⟩; simp only [go_sem]; refine ⟨_, (l01Has_ok ..).run, ?_⟩; simp only [go_sem]; refine ⟨fun h3 => At.mk ?_, fun h3 => At.mk ?_⟩
   ·simp only [go_sem, reduceAdd]; have h3p := h3; simp only [dect] at h3p; refine app_own (k : Int) o rfl rfl (by simp only [maxL]; omega) fun id H o => ?_; simp only [go_sem, w1]; exact for_next (_, _) (by omega) ⟨by rw [hout, nats_t (pullP_t h2p h3p)], o⟩ rfl
   ·simp only [go_sem, w1]; have h3p := h3; simp only [decf] at h3p; exact for_next (_, _) (by omega) ⟨by rw [hout, nats_f (pullP_f fun e => h3p e.2)], o⟩ rfl
  ·simp only [go_sem, h2, w1]; have h2p := h2; simp only [dF] at h2p; exact for_next (_, _) (by omega) ⟨by rw [hout, nats_f (pullP_f fun e => h2p e.1)], o⟩ rfl
 ·simp only [go_sem]; have h1 := of_ndecide h1; refine fz_own o rfl fun H o => ?_; simp only [go_sem]; exact pure_ret (by rw [hout, show k = c.frm.length by omega]; rfl) o.sub
def pullF (c : Cat) (a : Int) (s : List Int) (y : Int) : Bool := decide (ix (ix c.comp a) y ∈ s)
theorem pullF_eq (c : Cat) (a : Int) (s : List Int) : (outs c (ix c.to a)).filter (pullF c a s) = pullS c a s := by
 refine rising_ext ?_ (nats_rising _ _) fun y => ?_
 ·have := outs_nats c (ix c.to a) ▸ nats_rising _ _; rw [rising_pw] at this ⊢; exact this.filter _
 ·rw [List.mem_filter, mem_outs, mem_pullS, pullF, dT, and_assoc, and_assoc, and_assoc, eq_comm (a := ix c.to a)]
theorem pull_ok (B : Nat) (c : Cat) (hs : c.Shape) (a : Int) (ha : 0 ≤ a ∧ a.toNat < c.frm.length) (s : List Int) : Pur Tryz.prog B 203 [.ptr c.cells, .int .i64 a, iL s] (iL (pullS c a s)) := by
 refine ⟨fun H0 => c203 (by simp) fun ⟨_, _, _⟩ => ?_⟩; have hm := hs.m; have hcl := hs.cl; have htl := hs.tol; unfold s203; simp only [go_sem, reduceAdd]; refine new_list iI (.nil _) fun id H o => ?_; simp only [go_sem, reduceAdd, reduceLeDiff]; refine ⟨⟨ha.1, by omega⟩, (outOf_ok B c _).go fun hfo => ?_⟩; have hlo := fine_mL_le hfo; simp only [maxL] at hlo; generalize ho : outs c (ix c.to a) = ou at *; simp only [go_sem]; refine awp_for [0, 1, 2, 19, 20] (G := Nat × List (Int)) (fun k g => [(7, some (.buf g.1 g.2.length)), (21, some (.int .i64 (k : Int)))]) (fun k g H => g.2 = ((ou.take k).filter (pullF c a s)) ∧ Owns H0 H [(g.1, .cells 1 (g.2.map iI) 0)]) ou.length (id, []) ⟨by simp, o⟩ rfl ?_; rintro k ⟨id, out⟩ H hk ⟨hout, o⟩; replace hout : out = ((ou.take k).filter (pullF c a s)) := hout; simp only [go_sem]; refine ⟨fun h1 => At.mk ?_, fun h1 => At.mk ?_⟩
 ·have h1 := of_decide h1; have w1 := wsucc (k := k) (by omega); simp only [go_sem]; have hmem : ou.getD k default ∈ ou := mem_getD.mpr ⟨k, h1, rfl⟩; rw [show (ou.getD k default ∈ ou) = (ou.getD k default ∈ outs c (ix c.to a)) by rw [ho], mem_outs] at hmem; have hr := hs.row' (a := a) ha.2; have hlen : out.length ≤ k := by rw [hout]; exact filt_len _ _ _
  refine ⟨h1, (catThen_ok B c a (ou.getD k default) ⟨ha.1, by omega⟩ ⟨hmem.1, by omega⟩).go fun _ => ?_⟩; simp only [go_sem]; refine (has_ok ..).go fun _ => ?_; simp only [go_sem]; refine ⟨fun h3 => At.mk ?_, fun h3 => At.mk ?_⟩
  ·simp only [go_sem, reduceAdd]; have h3p := h3; simp only [dect] at h3p; refine app_own (ou.getD k default) o rfl rfl (by simp only [maxL]; omega) fun id H o => ?_; simp only [go_sem, w1]; exact for_next (_, _) (by omega) ⟨by rw [hout, filt_t h1 (by simpa [pullF] using h3p)], o⟩ rfl
  ·simp only [go_sem, w1]; have h3p := h3; simp only [decf] at h3p; exact for_next (_, _) (by omega) ⟨by rw [hout, filt_f h1 (by simpa [pullF] using h3p)], o⟩ rfl
 ·simp only [go_sem]; have h1 := of_ndecide h1; refine fz_own o rfl fun H o => ?_; simp only [go_sem]; exact pure_ret (by rw [hout, show k = ou.length by omega, List.take_length, ← ho, pullF_eq]) o.sub
theorem l28Images_ok (B : Nat) (f : SF) (s : List Int) (e : Int) (hs : ∀ a, a ∈ s → 0 ≤ a ∧ a.toNat < f.acts.length) (he0 : 0 ≤ e) (he : ∀ a, a ∈ s → e.toNat < (ix f.acts a).length) : Pur Tryz.prog B 98 [.agg f.cells, iL s, .int .i64 e] (iL (imgs f s e)) := by
 refine ⟨fun H0 => c98 (by simp) fun ⟨_, hf, _⟩ => ?_⟩; have hl := fine_mL_le hf; simp only [maxL] at hl; unfold s98; simp only [go_sem, reduceAdd]; refine new_list iI (.nil _) fun id H o => ?_; simp only [go_sem]; refine awp_for [1, 2, 3] (G := Nat × List (Int)) (fun k g => [(7, some (.buf g.1 g.2.length)), (8, some (.int .i64 (k : Int)))]) (fun k g H => g.2 = ((s.take k).map fun a => ix (ix f.acts a) e) ∧ Owns H0 H [(g.1, .cells 1 (g.2.map iI) 0)]) s.length (id, []) ⟨by simp, o⟩ rfl ?_; rintro k ⟨id, out⟩ H hk ⟨hout, o⟩; replace hout : out = ((s.take k).map fun a => ix (ix f.acts a) e) := hout; simp only [go_sem]; refine ⟨fun h1 => At.mk ?_, fun h1 => At.mk ?_⟩
 ·have h1 := of_decide h1; have w1 := wsucc (k := k) (by omega); simp only [go_sem, reduceAdd, reduceLeDiff]; refine ⟨h1, ⟨(hs _ (mem_getD.mpr ⟨k, h1, rfl⟩)).1, (hs _ (mem_getD.mpr ⟨k, h1, rfl⟩)).2⟩, ⟨he0, he _ (mem_getD.mpr ⟨k, h1, rfl⟩)⟩, ?_⟩; refine app_own (ix (ix f.acts (s.getD k default)) e) o rfl rfl (by rw [hout, List.length_map, List.length_take]; simp only [maxL]; omega) fun id H o => ?_; simp only [go_sem, w1]; exact for_next (_, _) (by omega) ⟨by rw [hout, take_map_succ s _ h1], o⟩ rfl
 ·simp only [go_sem]; have h1 := of_ndecide h1; refine fz_own o rfl fun H o => ?_; simp only [go_sem]; exact pure_ret (by rw [hout, show k = s.length by omega, List.take_length]; rfl) o.sub
theorem restricted_ok (B : Nat) (f : SF) (s : List Int) (e : Int) (hs : ∀ a, a ∈ s → 0 ≤ a ∧ a.toNat < f.acts.length) (he0 : 0 ≤ e) (he : ∀ a, a ∈ s → e.toNat < (ix f.acts a).length) : Pur Tryz.prog B 107 [.ptr f.cells, iL s, .int .i64 e] (iL (imgs f s e)) := by
 refine ⟨fun H0 => c107 (by simp) fun ⟨_, hf, _⟩ => ?_⟩; have hl := fine_mL_le hf; simp only [maxL] at hl; unfold s107; simp only [go_sem, reduceAdd]; refine new_list iI (.nil _) fun id H o => ?_; simp only [go_sem]; refine awp_for [0, 2, 11, 12] (G := Nat × List (Int)) (fun k g => [(7, some (.buf g.1 g.2.length)), (13, some (.int .i64 (k : Int)))]) (fun k g H => g.2 = ((s.take k).map fun a => ix (ix f.acts a) e) ∧ Owns H0 H [(g.1, .cells 1 (g.2.map iI) 0)]) s.length (id, []) ⟨by simp, o⟩ rfl ?_; rintro k ⟨id, out⟩ H hk ⟨hout, o⟩; replace hout : out = ((s.take k).map fun a => ix (ix f.acts a) e) := hout; simp only [go_sem]; refine ⟨fun h1 => At.mk ?_, fun h1 => At.mk ?_⟩
 ·have h1 := of_decide h1; have w1 := wsucc (k := k) (by omega); simp only [go_sem, reduceAdd, reduceLeDiff]; refine ⟨h1, ⟨(hs _ (mem_getD.mpr ⟨k, h1, rfl⟩)).1, (hs _ (mem_getD.mpr ⟨k, h1, rfl⟩)).2⟩, ⟨he0, he _ (mem_getD.mpr ⟨k, h1, rfl⟩)⟩, ?_⟩; refine app_own (ix (ix f.acts (s.getD k default)) e) o rfl rfl (by rw [hout, List.length_map, List.length_take]; simp only [maxL]; omega) fun id H o => ?_; simp only [go_sem, w1]; exact for_next (_, _) (by omega) ⟨by rw [hout, take_map_succ s _ h1], o⟩ rfl
 ·simp only [go_sem]; have h1 := of_ndecide h1; refine fz_own o rfl fun H o => ?_; simp only [go_sem]; exact pure_ret (by rw [hout, show k = s.length by omega, List.take_length]; rfl) o.sub
theorem amalgamations_ok (B : Nat) (f : SF) (x : Int) (s t : List Int) (hx : 0 ≤ x ∧ x.toNat < f.sizes.length) (hz : ix f.sizes x ≤ 17) (hs : ∀ a, a ∈ s → 0 ≤ a ∧ a.toNat < f.acts.length) (he : ∀ a, a ∈ s → ((ix f.acts a).length : Int) = ix f.sizes x) : Pur Tryz.prog B 136 [.ptr f.cells, .int .i64 x, iL s, iL t] (iL (glue f x s t)) := by
 refine ⟨fun H0 => c136 (by simp) fun ⟨_, _⟩ => ?_⟩; unfold s136; simp only [go_sem, reduceAdd]; refine new_list iI (.nil _) fun id H o => ?_; simp only [go_sem, reduceAdd, reduceLeDiff]; refine ⟨hx, ?_⟩; refine awp_for [0, 2, 3, 18] (G := Nat × List (Int)) (fun k g => [(9, some (.buf g.1 g.2.length)), (19, some (.int .i64 (k : Int)))]) (fun k g H => g.2 = (nats (glueP f s t) k) ∧ Owns H0 H [(g.1, .cells 1 (g.2.map iI) 0)]) (ix f.sizes x).toNat (id, []) ⟨by simp, o⟩ rfl ?_; rintro k ⟨id, out⟩ H hk ⟨hout, o⟩; replace hout : out = (nats (glueP f s t) k) := hout; simp only [go_sem]; refine ⟨fun h1 => At.mk ?_, fun h1 => At.mk ?_⟩
 ·have h1 := of_decide h1; have w1 := wsucc (k := k) (by omega); simp only [go_sem]; have hlen : out.length ≤ k := by rw [hout]; exact nats_len _ _
  refine (restricted_ok B f s k hs (by omega) fun a ha => by have := he a ha; omega).go fun _ => ?_; simp only [go_sem]; refine (same_ok ..).go fun _ => ?_; simp only [go_sem]; refine ⟨fun h3 => At.mk ?_, fun h3 => At.mk ?_⟩
  ·simp only [go_sem, reduceAdd]; have h3p := h3; simp only [dect] at h3p; refine app_own (k : Int) o rfl rfl (by simp only [maxL]; omega) fun id H o => ?_; simp only [go_sem, w1]; exact for_next (_, _) (by omega) ⟨by rw [hout, nats_t (by simpa [glueP] using h3p)], o⟩ rfl
  ·simp only [go_sem, w1]; have h3p := h3; simp only [decf] at h3p; exact for_next (_, _) (by omega) ⟨by rw [hout, nats_f (by simpa [glueP] using h3p)], o⟩ rfl
 ·simp only [go_sem]; have h1 := of_ndecide h1; refine fz_own o rfl fun H o => ?_; simp only [go_sem]; exact pure_ret (by rw [hout, show k = (ix f.sizes x).toNat by omega]; rfl) o.sub
theorem l28Glued_ok (B : Nat) (f : SF) (x : Int) (s t : List Int) (hx : 0 ≤ x ∧ x.toNat < f.sizes.length) (hz : ix f.sizes x ≤ 17) (hs : ∀ a, a ∈ s → 0 ≤ a ∧ a.toNat < f.acts.length) (he : ∀ a, a ∈ s → ((ix f.acts a).length : Int) = ix f.sizes x) : Pur Tryz.prog B 117 [.agg f.cells, .int .i64 x, iL s, iL t] (iL (glue f x s t)) := by
 refine ⟨fun H0 => c117 (by simp) fun ⟨_, _⟩ => ?_⟩; unfold s117; simp only [go_sem, reduceAdd]; refine new_list iI (.nil _) fun id H o => ?_; simp only [go_sem]; refine awp_for [1, 2, 3, 4] (G := Nat × List (Int)) (fun k g => [(9, some (.buf g.1 g.2.length)), (10, some (.int .i64 (k : Int)))]) (fun k g H => g.2 = (nats (glueP f s t) k) ∧ Owns H0 H [(g.1, .cells 1 (g.2.map iI) 0)]) (ix f.sizes x).toNat (id, []) ⟨by simp, o⟩ rfl ?_; rintro k ⟨id, out⟩ H hk ⟨hout, o⟩; replace hout : out = (nats (glueP f s t) k) := hout; simp only [go_sem, reduceAdd, reduceLeDiff]; refine ⟨hx, ?_⟩; refine ⟨fun h1 => At.mk ?_, fun h1 => At.mk ?_⟩
 ·have h1 := of_decide h1; have w1 := wsucc (k := k) (by omega); simp only [go_sem, reduceAdd]; have hlen : out.length ≤ k := by rw [hout]; exact nats_len _ _
  refine (l28Images_ok B f s k hs (by omega) fun a ha => by have := he a ha; omega).go fun _ => ?_; simp only [go_sem]; refine (l01Same_ok ..).go fun _ => ?_; simp only [go_sem]; refine ⟨fun h3 => At.mk ?_, fun h3 => At.mk ?_⟩
  ·simp only [go_sem, reduceAdd]; have h3p := h3; simp only [dect] at h3p; refine app_own (k : Int) o rfl rfl (by simp only [maxL]; omega) fun id H o => ?_; simp only [go_sem, w1]; exact for_next (_, _) (by omega) ⟨by rw [hout, nats_t (by simpa [glueP] using h3p)], o⟩ rfl
  ·simp only [go_sem, w1]; have h3p := h3; simp only [decf] at h3p; exact for_next (_, _) (by omega) ⟨by rw [hout, nats_f (by simpa [glueP] using h3p)], o⟩ rfl
 ·simp only [go_sem]; have h1 := of_ndecide h1; refine fz_own o rfl fun H o => ?_; simp only [go_sem]; exact pure_ret (by rw [hout, show k = (ix f.sizes x).toNat by omega]; rfl) o.sub
theorem l25Close_ok (B : Nat) (c : Cat) (hs : c.Shape) (l : List Int) (hl : ∀ a, a ∈ l → 0 ≤ a ∧ a.toNat < c.frm.length) : Pur Tryz.prog B 207 [.agg c.cells, iL l] (iL (closeS c l)) := by
 refine ⟨fun H0 => c207 (by simp) fun ⟨_, hf, _⟩ => ?_⟩; have hll := fine_mL_le hf; simp only [maxL] at hll; have hm := hs.m; have hcl := hs.cl; have htl := hs.tol; unfold s207; simp only [go_sem, reduceAdd, reduceLeDiff]; refine ⟨⟨by omega, by simp only [maxL]; omega⟩, mks_list AV.bool false rfl (.nil _) fun id H o => ?_⟩; simp only [go_sem]; refine awp_for [1, 2, 5] (fun k _ => [(6, some (.int .i64 (k : Int)))]) (fun k A H => CloseI c l k 0 A ∧ Owns H0 H [(id, .cells 1 (A.map AV.bool) 0)]) l.length _ ⟨CloseI.zero c l, o⟩ rfl ?_; rintro k A H hk ⟨hI, o⟩; simp only [go_sem]; refine ⟨fun h1 => At.mk ?_, fun h1 => At.mk ?_⟩
 ·simp only [go_sem]; have h1p := h1; simp only [dT] at h1p; have w1 := wsucc (k := k) (by omega); have ha := hl _ (mem_getD.mpr ⟨k, h1p, rfl⟩); have hr := hs.row' (a := l.getD k default) ha.2; refine awp_for [1, 2, 5, 6] (fun b _ => [(7, some (.int .i64 (b : Int)))]) (fun b A H => CloseI c l k b A ∧ Owns H0 H [(id, .cells 1 (A.map AV.bool) 0)]) c.frm.length A ⟨hI, o⟩ rfl ?_; rintro b A H hb ⟨hI, o⟩; simp only [go_sem, reduceAdd, reduceLeDiff]; refine ⟨fun h2 => At.mk ?_, fun h2 => At.mk ?_⟩
  ·simp only [go_sem, reduceAdd, reduceLeDiff]; have h2p := h2; simp only [dT] at h2p; have w2 := wsucc (k := b) (by omega); refine ⟨h1p, ⟨ha.1, by omega⟩, h2p, ?_⟩; refine ⟨fun h3 => At.mk ?_, fun h3 => At.mk ?_⟩
   ·simp only [go_sem, reduceAdd]; have h3p := h3; simp only [dT] at h3p; have hc := hs.comp ha ⟨Int.natCast_nonneg b, by simpa using h2p⟩ (by simpa [ix] using h3p); simp only [ix_nat] at hc; refine ⟨h1p, _, (l02Then_ok B c (l.getD k default) b ⟨ha.1, by omega⟩ ⟨by omega, by omega⟩).run, ?_⟩; simp only [go_sem]; refine ⟨⟨hc.1.1, by omega⟩, ?_⟩; refine set_own true o rfl (by rw [hI.1]; omega) fun H o => ?_; simp only [go_sem, w2]; exact for_next _ (by omega) ⟨hI.set h3p hc.1.1, o⟩ rfl
   ·simp only [go_sem, w2]; have h3p := h3; simp only [dF] at h3p; exact for_next _ (by omega) ⟨hI.skip h3p, o⟩ rfl
  ·simp only [go_sem, w1]; have h2p := h2; simp only [dF, Nat.not_lt] at h2p; obtain rfl : b = c.frm.length := by omega
   exact for_next _ (by omega) ⟨hI.row, o⟩ rfl
 ·simp only [go_sem]; have h1p := h1; simp only [dF, Nat.not_lt] at h1p; have hd := hI.done (by omega); refine new_list iI o fun id2 H o => ?_; simp only [go_sem]; refine awp_for [5] (G := Nat × List Int) (fun k g => [(8, some (.buf g.1 g.2.length)), (9, some (.int .i64 (k : Int)))]) (fun k g H => g.2 = nats (fun i => A.getD i default) k ∧ Owns H0 H [(g.1, .cells 1 (g.2.map iI) 0), (id, .cells 1 (A.map AV.bool) 0)]) A.length (id2, []) ⟨rfl, o⟩ rfl ?_; rintro k ⟨id2, out⟩ H hk ⟨hout, o⟩; replace hout : out = nats (fun i => A.getD i default) k := hout; have hlen : out.length ≤ k := by rw [hout]; exact nats_len _ _
  have hAl := hI.1; simp only [go_sem]; rw [← hAl]; refine ⟨fun h2 => At.mk ?_, fun h2 => At.mk ?_⟩
  ·simp only [go_sem]; have h2p := h2; simp only [dT] at h2p; have w2 := wsucc (k := k) (by omega); refine ⟨by omega, ?_⟩; refine rd_own o.swap h2p ?_; simp only [go_sem]; refine ⟨fun h3 => At.mk ?_, fun h3 => At.mk ?_⟩
   ·simp only [go_sem, reduceAdd]; refine app_own (k : Int) o rfl rfl (by simp only [maxL]; omega) fun id2 H o => ?_; simp only [go_sem, w2]; exact for_next (_, _) (by omega) ⟨by rw [hout, nats_t h3], o⟩ rfl
   ·simp only [go_sem, w2]; exact for_next (_, _) (by omega) ⟨by rw [hout, nats_f h3], o⟩ rfl
  ·simp only [go_sem]; have h2p := h2; simp only [dF, Nat.not_lt] at h2p; refine fz_own o rfl fun H o => ?_; simp only [go_sem]; exact pure_ret (by rw [hout, ← hd, show k = A.length by omega]) o.sub
theorem sieveOf_ok (B : Nat) (c : Cat) (hs : c.Shape) (l : List Int) (hl : ∀ a, a ∈ l → 0 ≤ a ∧ a.toNat < c.frm.length) : Pur Tryz.prog B 208 [.ptr c.cells, iL l] (iL (closeS c l)) := by
 refine ⟨fun H0 => c208p (by simp) fun ⟨_, hf, _⟩ => ?_⟩; have hll := fine_mL_le hf; simp only [maxL] at hll; have hm := hs.m; have hcl := hs.cl; have htl := hs.tol; unfold s208p; simp only [go_sem, reduceAdd]; refine (arrows_ok B c).go fun _ => ?_; simp only [go_sem]; refine ⟨⟨by omega, by simp only [maxL]; omega⟩, mks_list AV.bool false rfl (.nil _) fun id H o => ?_⟩; simp only [go_sem]; refine awp_for [0, 5, 13, 14] (fun k _ => [(15, some (.int .i64 (k : Int)))]) (fun k A H => CloseI c l k 0 A ∧ Owns H0 H [(id, .cells 1 (A.map AV.bool) 0)]) l.length _ ⟨CloseI.zero c l, o⟩ rfl ?_; rintro k A H hk ⟨hI, o⟩; simp only [go_sem]; refine ⟨fun h1 => At.mk ?_, fun h1 => At.mk ?_⟩
 ·simp only [go_sem, reduceAdd, reduceLeDiff]; have h1p := h1; simp only [dT] at h1p; have w1 := wsucc (k := k) (by omega); have ha := hl _ (mem_getD.mpr ⟨k, h1p, rfl⟩); have hr := hs.row' (a := l.getD k default) ha.2; refine ⟨h1p, ⟨ha.1, by omega⟩, (outOf_ok B c _).go fun hfo => ?_⟩; have hlo := fine_mL_le hfo; simp only [maxL] at hlo; have hI := hI.out; simp only [go_sem]; refine awp_for [0, 5, 7, 13, 14, 15, 27, 28] (fun b _ => [(29, some (.int .i64 (b : Int)))]) (fun b A H => CloseO c l k b A ∧ Owns H0 H [(id, .cells 1 (A.map AV.bool) 0)]) (outs c (ix c.to (l.getD k default))).length A ⟨hI, o⟩ rfl ?_; rintro b A H hb ⟨hI, o⟩; simp only [go_sem]; refine ⟨fun h2 => At.mk ?_, fun h2 => At.mk ?_⟩
  ·simp only [go_sem]; have h2p := h2; simp only [dT] at h2p; have w2 := wsucc (k := b) (by omega); have hmem : (outs c (ix c.to (l.getD k default))).getD b default ∈ outs c (ix c.to (l.getD k default)) := mem_getD.mpr ⟨b, h2p, rfl⟩; rw [mem_outs] at hmem; have hc := hs.comp ha ⟨hmem.1, hmem.2.1⟩ hmem.2.2.symm; refine ⟨h2p, (catThen_ok B c _ _ ⟨ha.1, by omega⟩ ⟨hmem.1, by omega⟩).go fun _ => ?_⟩; simp only [go_sem]; refine ⟨⟨hc.1.1, by omega⟩, ?_⟩; refine set_own true o rfl (by rw [hI.1]; omega) fun H o => ?_; simp only [go_sem, w2]; exact for_next _ (by omega) ⟨hI.set h2p hc.1.1, o⟩ rfl
  ·simp only [go_sem, w1]; have h2p := h2; simp only [dF, Nat.not_lt] at h2p; exact for_next _ (by omega) ⟨hI.row (by omega), o⟩ rfl
 ·simp only [go_sem]; have h1p := h1; simp only [dF, Nat.not_lt] at h1p; have hd := hI.done (by omega); rw [← hI.1]; refine fz_own o rfl fun H o => ?_; simp only [go_sem]; refine (marked_ok B A).go fun _ => ?_; simp only [go_sem]; exact pure_ret (by rw [← hd]; rfl) o.sub
theorem indexFunc_ok (B : Nat) (l : List (List Int)) (fn : FuncId) (ca : List AV) (p : List Int → Bool) (hp : ∀ t, t ∈ l → PureF Tryz.prog B fn (iL t :: ca) (.bool (p t))) :
  Pur Tryz.prog B 195 [iLL l, .fn (.func fn) ca] (.int .i64 (match l.findIdx? p with | some i => (i : Int) | none => -1)) := by
 refine ⟨fun H0 => c195 (by simp) fun ⟨hf, _⟩ => ?_⟩; have hll := fine_mL_le hf; simp only [maxL] at hll; unfold s195; simp only [go_sem, reduceAdd]; refine awp_for [0, 1, 7] (fun k _ => [(8, some (.int .i64 (k : Int)))]) (fun k _ H => H = H0 ∧ ∀ i, i < k → p (l.getD i default) = false) l.length () ⟨rfl, by simp⟩ rfl ?_; rintro k _ H hk ⟨rfl, hall⟩; simp only [go_sem]; refine ⟨fun h1 => At.mk ?_, fun h1 => At.mk ?_⟩
 ·simp only [go_sem]; have h1p := h1; simp only [dT] at h1p; have w1 := wsucc (k := k) (by omega); refine ⟨h1p, (hp _ (mem_getD.mpr ⟨k, h1p, rfl⟩)).go fun _ => ?_⟩; simp only [go_sem]; refine ⟨fun h2 => At.mk ?_, fun h2 => At.mk ?_⟩
  ·simp only [go_sem]; refine pure_ret ?_ (.refl _); have : l.findIdx? p = some k := by
    rw [List.findIdx?_eq_some_iff_getElem]; refine ⟨h1p, by simpa [gQ, h1p] using h2, fun j hj => ?_⟩; have := hall j hj; simpa [gQ, show j < l.length by omega] using this
   rw [this]
  ·simp only [go_sem, w1]; exact for_next () (by omega) ⟨rfl, lt_succ_all hall h2⟩ rfl
 ·simp only [go_sem]; have h1p := h1; simp only [dF, Nat.not_lt] at h1p; refine pure_ret ?_ (.refl _); have : l.findIdx? p = none := by
   rw [List.findIdx?_eq_none_iff]; intro x hx; obtain ⟨i, hi, rfl⟩ := mem_getD.mp hx; exact hall i (by omega)
  rw [this]
theorem same1_ok (B : Nat) (s t : List Int) : Pur Tryz.prog B 196 [iL t, .ptr [iL s]] (.bool (dec (s = t))) := by
 refine ⟨fun H0 => c196 (by simp) fun _ => ?_⟩; unfold s196; simp only [go_sem, reduceAdd]; refine (same_ok ..).go fun _ => ?_; simp only [go_sem]; exact pure_ret rfl (.refl _)
theorem same2_ok (B : Nat) (s t : List Int) : Pur Tryz.prog B 210 [iL t, .ptr [iL s]] (.bool (dec (s = t))) := by
 refine ⟨fun H0 => c210 (by simp) fun _ => ?_⟩; unfold s210; simp only [go_sem, reduceAdd]; refine (same_ok ..).go fun _ => ?_; simp only [go_sem]; exact pure_ret rfl (.refl _)
theorem cmp2_ok (B : Nat) (s t : List Int) : Pur Tryz.prog B 212 [iL s, iL t] (.int .i64 (cmp s t)) := by
 refine ⟨fun H0 => c212 (by simp) fun _ => ?_⟩; unfold s212; simp only [go_sem, reduceAdd]; refine (compare_ok ..).go fun _ => ?_; simp only [go_sem]; exact pure_ret rfl (.refl _)
theorem findIdx_same {α : Type} [DecidableEq α] (l : List α) (s : α) : (match l.findIdx? fun t => dec (s = t) with | some i => (i : Int) | none => -1) = indexOf l s := by
 rw [indexOf, List.idxOf?]; have : (fun t => dec (s = t)) = fun t => t == s := by
  funext t; rw [← decide_dec, Bool.eq_iff_iff, dT, beq_iff_eq, eq_comm]
 rw [this]; rfl
theorem indexOf_mem {α : Type} [DecidableEq α] [Inhabited α] (l : List α) (s : α) : 0 ≤ indexOf l s ↔ s ∈ l := by
 constructor
 ·intro h; apply Classical.byContradiction; intro hn; rw [indexOf_miss fun i hi e => hn (mem_getD.mpr ⟨i, hi, e⟩)] at h; omega
 ·intro h; unfold indexOf
  split
  ·omega
  ·rename_i e; rw [List.idxOf?_eq_none_iff] at e; exact absurd h e
theorem containsFunc_ok (B : Nat) (l : List (List Int)) (s : List Int) : Pur Tryz.prog B 209 [iLL l, .fn (.func 210) [.ptr [iL s]]] (.bool (dec (s ∈ l))) := by
 refine ⟨fun H0 => c209 (by simp) fun _ => ?_⟩; unfold s209; simp only [go_sem, reduceAdd]; refine (indexFunc_ok B l 210 _ _ fun t _ => (same2_ok B s t).run).go fun _ => ?_; rw [findIdx_same]; simp only [go_sem]; refine pure_ret ?_ (.refl _)
 congr 1
 rw [decide_dec]; exact dec_congr (indexOf_mem l s)
end Go.Proofs.Shf
namespace Go.AW
open Go.Proofs Go.Proofs.Shf Go.Shf Go.RowKit
theorem WRel.other {g : Gh} {B : Nat} {H : Heap} {w w' : World} (h : WRel g B H w) (b : Nat) (hfz : ∀ o, g.fz b o = none) (hfm : g.fm b = none) (hk : ∀ k, k ≠ b → k < w.heap.size → w'.heap[k]? = w.heap[k]?) : WRel g w'.heap.size [] w' := by
 constructor
 ·intro b' o v e; have hl := h.fz_lt e; have hne : b' ≠ b := by rintro rfl; rw [hfz] at e; cases e
  rw [World.cell?_of_block (w := w) (a := ⟨b', o, none⟩) (hk b' hne hl)]; exact h.fz _ _ _ e
 ·intro b' es e; have hl := h.fm_lt e; have hne : b' ≠ b := by rintro rfl; rw [hfm] at e; cases e
  obtain ⟨clk, hc⟩ := h.fm _ _ e; exact ⟨clk, by rw [hk b' hne hl]; exact hc⟩
 ·intro i o e; cases e
 ·intro i j x c c' n e1; cases e1
 ·intro i j x n e1; cases e1
 ·exact Nat.le_refl _
 ·exact h.fin
theorem row_heap {α : Type} [Inhabited α] (enc : α → Value) (w : World) (b off m : Nat) (dk : Array α) (os : Array Obj) : (Sort.grow (Sort.putRow enc (Sort.ahead w m) b off dk) os).heap = (w.heap.modify b (Sort.onCells (Sort.putCells enc off dk))) ++ os := rfl
theorem row_other {α : Type} [Inhabited α] (enc : α → Value) (w : World) (b off m : Nat) (dk : Array α) (os : Array Obj) (k : Nat) (hk : k ≠ b) (hl : k < w.heap.size) : (Sort.grow (Sort.putRow enc (Sort.ahead w m) b off dk) os).heap[k]? = w.heap[k]? := by
 rw [row_heap, Array.getElem?_append_left (by simpa using hl), Array.getElem?_modify, if_neg (by omega)]
theorem below_grow {W w' : World} (h : Below W.heap.size W w') : ∃ q os', w' = Sort.grow (W.drewN q) os' := by
 refine ⟨w'.drawn - W.drawn, w'.heap.extract W.heap.size w'.heap.size, ?_⟩; have hh : w'.heap = W.heap ++ w'.heap.extract W.heap.size w'.heap.size := by
  apply Array.ext_getElem?; intro k; by_cases hk : k < W.heap.size
  ·rw [Array.getElem?_append_left hk]; exact h.block k hk
  ·rw [Array.getElem?_append_right (by omega), Array.getElem?_extract]; have := h.size; by_cases h2 : k < w'.heap.size
   ·rw [if_pos (by omega)]; congr 1; omega
   ·rw [if_neg (by omega), Array.getElem?_eq_none (by omega)]
 have hd := h.drawn; have h1 := h.os; have h2 := h.tape; have h3 := h.output; have e : ∀ (a b : World), a.heap = b.heap → a.tape = b.tape → a.drawn = b.drawn → a.os = b.os → a.output = b.output → a = b := by
  intro a b h1 h2 h3 h4 h5; cases a; cases b
  simp only at h1 h2 h3 h4 h5; subst h1 h2 h3 h4 h5; rfl
 refine e _ _ hh h2 ?_ h1 h3; show w'.drawn = W.drawn + (w'.drawn - W.drawn); omega
theorem cmp_lays {g : Gh} {B : Nat} {H : Heap} {w : World} (h : WRel g B H w) (S : Nat → List Int) (b size : Nat) (hfz : ∀ o, g.fz b o = none) (hfm : g.fm b = none) {α : Type} [Inhabited α] (nm : α → Nat) (enc : α → Value) (hv : ∀ x, VRel g (iL (S (nm x))) (enc x)) :
  ∀ (m : Nat) (os : Array Obj) (dk : Array α), dk.size = size → ∀ x y : α,
  Calls Tryz.prog 212 (#[enc x, enc y] ++ #[]) (Sort.grow (Sort.putRow enc (Sort.ahead w m) b 0 dk) os) fun e w' => e = .returned (.int .i64 (cmp (S (nm x)) (S (nm y)))) ∧ ∃ q os', w' = Sort.grow ((Sort.grow (Sort.putRow enc (Sort.ahead w m) b 0 dk) os).drewN q) os' := by
 intro m os dk hs x y; have hW := h.other b hfz hfm fun k hk hl => row_other enc w b 0 m dk os k hk hl; generalize (Sort.grow (Sort.putRow enc (Sort.ahead w m) b 0 dk) os) = W at hW ⊢; have hc := (cmp2_ok W.heap.size (S (nm x)) (S (nm y))).run []; refine (hc.2 g W _ hW ⟨rfl, fun i hi => ?_⟩).mono ?_
 ·obtain rfl | rfl : i = 0 ∨ i = 1 := by simp only [List.length_cons, List.length_nil] at hi; omega
  ·exact hv x
  ·exact hv y
 rintro e w' ⟨v, rfl, g', r, H', _, ⟨rfl, rfl⟩, hv2, _, hb⟩; cases hv2
 exact ⟨rfl, below_grow hb⟩
theorem WRel.sorted {g : Gh} {B : Nat} {H : Heap} {w : World} (h : WRel g B H w) {id b cap : Nat} {cs cs' : List AV} {c : Array Value} {el : TypeId} {α : Type} [Inhabited α] (enc : α → Value) (dk : Array α)
  (hi : H.get id = some (.cells 1 cs 0)) (hp : g.io id = some (.blk b cap)) (hb : w.heap[b]? = some (.cells c el (0, 0))) (hd : dk.size = cs.length) (hl : cs'.length = cs.length)
  (hv : ∀ k, k < cs'.length → VRel g (cs'.getD k nv) (enc dk[k]!)) (n : Nat) (os : Array Obj) :
  WRel g B (H.set id (.cells 1 cs' 0)) (Sort.grow (Sort.putRow enc (Sort.ahead w n) b 0 dk) os) ∧ Below B w (Sort.grow (Sort.putRow enc (Sort.ahead w n) b 0 dk) os) := by
 obtain ⟨p, hp', hr⟩ := h.ob id _ hi; rw [hp] at hp'; cases hp'; simp only [ObjRel] at hr; obtain ⟨h1, h2, h3, h4, c0, el0, h5, h6, h7, h8⟩ := hr; rw [hb] at h5; cases h5; have hbl : b < w.heap.size := (Array.getElem?_eq_some_iff.1 hb).1; have hsz : (Sort.putRow enc w b 0 dk).heap.size = w.heap.size := by simp [Sort.putRow, Sort.mapBlock]
 have hc' : (Sort.putRow enc w b 0 dk).heap[b]? = some (.cells (Sort.putCells enc 0 dk c) el (0, 0)) := by
  show (w.heap.modify b _)[b]? = _; rw [Array.getElem?_modify, if_pos rfl, hb]; rfl
 have hcs : (Sort.putCells enc 0 dk c).size = c.size := by simp [Sort.putCells]
 have hcell : ∀ k, k < dk.size → (Sort.putCells enc 0 dk c).getD k undef = enc dk[k]! := by
  intro k hk; have hk2 : k < c.size := by omega
  have hk3 : k < (Sort.putCells enc 0 dk c).size := by omega
  simp only [Array.getD, hk3, dif_pos]; simp [Sort.putCells, hk]
 have hW := h.write id b cap 1 cs cs' 0 c (Sort.putCells enc 0 dk c) el hi hp hb hc' hsz (fun k hk => by
  show (w.heap.modify b _)[k]? = _; rw [Array.getElem?_modify, if_neg (by omega)]) hcs (by omega) (by omega) (by omega) (by omega) fun k hk => by
   rw [hcell k (by omega)]; exact hv k hk
 have hsame : ∀ k, k < w.heap.size → (Sort.grow (Sort.putRow enc (Sort.ahead w n) b 0 dk) os).heap[k]? = (Sort.putRow enc w b 0 dk).heap[k]? := by
  intro k hk; rw [row_heap, Array.getElem?_append_left (by simpa using hk)]; rfl
 refine ⟨hW.grow ?_ fun k hk => hsame k (by omega), rfl, rfl, rfl, ?_, fun k hk => ?_, ?_⟩
 ·rw [row_heap, hsz]; simp
 ·rw [row_heap]; simp
 ·rw [hsame k (by omega)]; show (w.heap.modify b _)[k]? = _; rw [Array.getElem?_modify, if_neg (by omega)]
 ·show w.drawn ≤ w.drawn + n; omega
def LibSort (n : Nat) [Inhabited (Fin n)] (cf : Fin n → Fin n → Int) : Prop :=
 ∀ (b cap : Nat) (w : World) (enc : Fin n → Value), (∀ x, (enc x).oneCell' = true) →
  (∀ (m : Nat) (os : Array Obj) (dk : Array (Fin n)), dk.size = (Array.ofFn fun i : Fin n => i).size → ∀ x y : Fin n,
   Calls Tryz.prog 212 (#[enc x, enc y] ++ #[]) (Sort.grow (Sort.putRow enc (Sort.ahead w m) b 0 dk) os) fun e w' => e = .returned (.int .i64 (cf x y)) ∧ ∃ q os', w' = Sort.grow ((Sort.grow (Sort.putRow enc (Sort.ahead w m) b 0 dk) os).drewN q) os') →
  Sort.Holds enc w b 0 (Array.ofFn fun i : Fin n => i) → b < w.heap.size →
  Calls Tryz.prog 211 #[.slice (some ⟨b, 0, none⟩) (Array.ofFn fun i : Fin n => i).size cap, .func (.func 212) #[] #[]] w fun e w' =>
   e = .returned (.tuple #[]) ∧ ∃ d' m os, Sort.PermIn 0 (Array.ofFn fun i : Fin n => i).size (Array.ofFn fun i : Fin n => i) d' ∧ Sort.SortedIn (fun x y => decide (cf x y < 0)) 0 (Array.ofFn fun i : Fin n => i).size d' ∧ w' = Sort.grow (Sort.putRow enc (Sort.ahead w m) b 0 d') os
theorem sl_one {g : Gh} {l : List AV} {u : Value} (h : VRel g (.sl l) u) : u.oneCell' = true := by
 cases h <;> rfl
theorem sort_own (B : Nat) (S : List (List Int)) [Inhabited (Fin S.length)] (nd : S.Nodup) (hlib : LibSort S.length fun x y => cmp (S.getD x default) (S.getD y default)) (hent : Enters Tryz.prog 211) {H0 H : Heap} {l : List (Nat × MObj)} {id : Nat} {K : Kont}
  (o : Owns H0 H ((id, .cells 1 (S.map iL) 0) :: l)) (hk : ∀ (H' : Heap) (S' : List (List Int)), S'.Perm S → (S'.Pairwise fun s t => cmp s t < 0) → Owns H0 H' ((id, .cells 1 (S'.map iL) 0) :: l) → K (.tup []) H') :
  CallH Tryz.prog B 211 [.buf id S.length, .fn (.func 212) []] H K := by
 refine ⟨hent, fun g w vs hW hv => ?_⟩; have hS0 : 0 < S.length := (default : Fin S.length).pos; have h0 := o.h0; simp only at h0; obtain ⟨p, hp, hr⟩ := hW.ob id _ h0; cases p with
 | nil => simp only [ObjRel] at hr; have := hr.1; simp at this; rw [this] at hS0; simp at hS0
 | mp b => simp [ObjRel] at hr
 | blk b cap =>
  simp only [ObjRel] at hr; obtain ⟨r1, r2, r3, r4, c, el, r5, r6, r7, r8⟩ := hr; rw [List.length_map] at r7 r8; obtain ⟨hv0, hv1⟩ := hv; obtain ⟨v0, v1, rfl⟩ : ∃ v0 v1, vs = #[v0, v1] := by
   rcases vs with ⟨l⟩
   simp only [List.length_cons, List.length_nil] at hv0
   match l, hv0 with
   | [a, b], _ => exact ⟨a, b, rfl⟩
  have e0 : VRel g (.buf id S.length) v0 := hv1 0 (by simp); have e1 : VRel g (.fn (.func 212) []) v1 := hv1 1 (by simp); have hv0' : ∃ cap', v0 = .slice (some ⟨b, 0, none⟩) S.length cap' := by
   generalize hn : S.length = n at *; cases e0 with
   | bufnil _ hq => rw [hq] at hp; cases hp
   | buf _ _ b' cap' hq => rw [hq] at hp; cases hp; exact ⟨_, rfl⟩
  obtain ⟨cap', rfl⟩ := hv0'; have hv1' : v1 = .func (.func 212) #[] #[] := by
   cases e1 with
   | fn _ _ vs hs _ =>
    have : vs = #[] := Array.eq_empty_of_size_eq_zero (by simpa using hs); rw [this]
  subst hv1'; have hsz : (Array.ofFn fun i : Fin S.length => i).size = S.length := by simp
  have hbl : b < w.heap.size := (Array.getElem?_eq_some_iff.1 r5).1; have hfm : g.fm b = none := by
   cases e : g.fm b with
   | none => rfl
   | some es => obtain ⟨clk, h⟩ := hW.fm _ _ e; rw [r5] at h; cases h
  have henc : ∀ x : Fin S.length, VRel g (iL (S.getD x default)) (c.getD x undef) := fun x => by
   have := r8 x x.2; rw [getD_map S x.2] at this; exact this
  have hl := hlib b cap' w (fun x => c.getD x undef) (fun x => by
   have := henc x; exact sl_one this) (cmp_lays hW (fun i => S.getD i default) b _ (fun o => r4 o (Nat.zero_le _)) hfm (fun x : Fin S.length => x.val) _ henc) (fun j hj => ?_) hbl
  ·rw [hsz] at hl; refine hl.mono ?_; rintro e w' ⟨rfl, d', m, os, hp2, hs2, rfl⟩; have hd' : d'.size = S.length := by rw [hp2.1, hsz]
   have hperm : d'.toList.Perm (Array.ofFn fun i : Fin S.length => i).toList := by
    have := hp2.2.2; rw [Array.extract_eq_self_of_le (by omega), Array.extract_eq_self_of_le (by omega)] at this; exact this
   have hmap : (Array.ofFn fun i : Fin S.length => i).toList.map (fun i : Fin S.length => S.getD i default) = S := by
    apply List.ext_getElem (by simp); intro i h1 h2; simp [gQ, h2]
   have hSp : (d'.toList.map fun i : Fin S.length => S.getD i default).Perm S := by
    have := hperm.map fun i : Fin S.length => S.getD i default
    rwa [hmap] at this
   have hget : ∀ k (hk : k < d'.size), d'[k]! = d'[k] := fun k hk => getElem!_pos d' k hk; have hpw : (d'.toList.map fun i : Fin S.length => S.getD i default).Pairwise fun s t => cmp s t < 0 := by
    rw [List.pairwise_iff_getElem]; intro i j hi hj hij; rw [List.length_map, Array.length_toList] at hi hj; have h1 := hs2 i j (Nat.zero_le _) hij (by omega); rw [hget i hi, hget j hj] at h1; have h2 : ¬ cmp (S.getD d'[j] default) (S.getD d'[i] default) < 0 := of_decide_eq_false h1; have hne := (hSp.nodup_iff.mpr nd); rw [List.nodup_iff_pairwise_ne, List.pairwise_iff_getElem] at hne; have h3 := hne i j (by simpa using hi) (by simpa using hj) hij; simp only [List.getElem_map, Array.getElem_toList] at h3 ⊢; have h4 := cmp_neg (S.getD d'[i] default) (S.getD d'[j] default); have h5 : cmp (S.getD d'[i] default) (S.getD d'[j] default) ≠ 0 := fun e => h3 (cmp_zero.mp e); show cmp (S.getD d'[i] default) (S.getD d'[j] default) < 0; generalize cmp (S.getD d'[i] default) (S.getD d'[j] default) = A at *; generalize cmp (S.getD d'[j] default) (S.getD d'[i] default) = C at *; omega
   obtain ⟨q1, q2⟩ := hW.sorted (fun x : Fin S.length => c.getD x undef) d' h0 hp r5 (by rw [hd']; simp) (cs' := (d'.toList.map fun i : Fin S.length => S.getD i default).map iL) (by simp [hd']) (fun k hk => by
    rw [List.length_map, List.length_map, Array.length_toList] at hk; rw [hget k hk]; have : ((d'.toList.map fun i : Fin S.length => S.getD i default).map iL).getD k nv = iL (S.getD d'[k] default) := by simp [gQ, hk]
    rw [this]; exact henc _) m os
   exact ⟨_, rfl, g, .tup [], _, .refl g, hk _ _ hSp hpw (o.put _), .tup [] #[] rfl (by simp), q1, q2⟩
  ·rw [hsz] at hj; have hjc : j < c.size := by omega
   refine ⟨?_, ?_⟩
   ·simp [World.cell?, r5, hjc, hj]
   ·simp [World.frozen?, r5]
end Go.AW
namespace Go.Proofs.Shf
open Go.AW Go.Proofs Go.Shf
def OwnK {α : Type} (f : α → AV) (H0 : Heap) (l : List (Nat × MObj)) (Q : List α → Prop) : Kont := fun r H' => ∃ id A, r = .buf id A.length ∧ Owns H0 H' ((id, .cells 1 (A.map f) 0) :: l) ∧ Q A
theorem own_ret {α : Type} {f : α → AV} {H0 H : Heap} {l : List (Nat × MObj)} {Q : List α → Prop} {id n : Nat} {A : List α} (o : Owns H0 H ((id, .cells 1 (A.map f) 0) :: l)) (hn : n = A.length) (hq : Q A) :
  subW (OwnK f H0 l Q) (.buf id n) H := ⟨H, .refl H, id, A, by rw [hn], o, hq⟩
end Go.Proofs.Shf
namespace Go.AW
open Go.Proofs Go.Shf Go.Proofs.Shf
theorem CallH.own {P : Program} {α : Type} {f : α → AV} {B : Nat} {fn : FuncId} {args : List AV} {H0 H : Heap} {l : List (Nat × MObj)} {Q : List α → Prop} {K : Kont} (h : CallH P B fn args H (OwnK f H0 l Q))
  (hk : ∀ id A H', Owns H0 H' ((id, .cells 1 (A.map f) 0) :: l) → Q A → K (.buf id A.length) H') : CallH P B fn args H K :=
 h.mono fun r H' ⟨id, A, e, o, q⟩ => by subst e; exact hk id A H' o q
end Go.AW
namespace Go.Proofs.Shf
open Go.AW Go.Proofs Go.Shf
theorem l01Own_own (B : Nat) (l : List Int) (H0 H : Heap) (r : List (Nat × MObj)) (o : Owns H0 H r) : CallH Tryz.prog B 140 [iL l] H (OwnK iI H0 r (· = l)) := by
 refine c140p (by simp) fun ⟨hf, _⟩ => ?_; have hl := fine_mL_le hf; unfold s140p; simp only [go_sem, reduceAdd]; refine new_list iI o fun id H o => ?_; simp only [go_sem]; refine app_list (f := iI) o rfl (by simpa using hl) fun id H o => ?_; simp only [go_sem]; exact own_ret o rfl rfl
theorem clone_own (B : Nat) (l : List Int) (H0 H : Heap) (r : List (Nat × MObj)) (o : Owns H0 H r) : CallH Tryz.prog B 141 [iL l] H (OwnK iI H0 r (· = l)) := by
 refine c141p (by simp) fun ⟨hf, _⟩ => ?_; have hl := fine_mL_le hf; unfold s141p; simp only [go_sem, reduceAdd]; refine new_list iI o fun id H o => ?_; simp only [go_sem]; refine app_list (f := iI) o rfl (by simpa using hl) fun id H o => ?_; simp only [go_sem]; exact own_ret o rfl rfl
theorem l25Grow_own (B : Nat) (c : Cat) (hc : c.Is) (x : Int) : ∀ (n : Nat) (s : List Int), missing c x s = n → c.Sieve x s → ∀ (H0 H : Heap) (l : List (Nat × MObj)) (id : Nat) (found : List (List Int)),
  Owns H0 H ((id, .cells 1 (found.map iL) 0) :: l) → found.Nodup → (∀ t, t ∈ found → c.Sieve x t) → found.length ≤ 17 →
  CallH Tryz.prog B 200 [.agg c.cells, iL (outs c x), iL s, .buf id found.length] H (OwnK iL H0 l (GrowQ c x s found)) := by
 intro n
 induction n using Nat.strongRecOn with
 | _ n ih =>
 intro s hn hs H0 H l id found o nd sv le; refine c200p (by simp) fun ⟨_, hfo, hfs, _⟩ => ?_; have hlo := fine_mL_le hfo; have hls := fine_mL_le hfs; simp only [maxL] at hlo hls; have hsh := hc.1; have hm := hsh.m; unfold s200p; simp only [go_sem, reduceAdd]; refine call_lent 0 rfl o rfl (.int _ _) (l05Place_ok ..).run ?_; simp only [go_sem]; have hix := indexOf_mem found s; refine ⟨fun h0 => At.mk ?_, fun h0 => At.mk ?_⟩; rotate_left
 ·simp only [go_sem, h0]; have hin := hix.mp (of_decide h0); exact own_ret o rfl (GrowQ.stop nd sv le (.inl hin))
 simp only [go_sem, h0]; have hin : s ∉ found := fun h => of_ndecide h0 (hix.mpr h); refine ⟨fun h1 => At.mk ?_, fun h1 => At.mk ?_⟩
 ·simp only [go_sem, h1]; have h1p := h1; simp only [dT] at h1p; exact own_ret o rfl (GrowQ.stop nd sv le (.inr (by omega)))
 simp only [go_sem, reduceAdd, h1]; have h1p := h1; simp only [dF, Int.not_lt] at h1p; refine app_own s o rfl rfl (by simp only [maxL]; omega) fun id H o => ?_; simp only [go_sem]; refine awp_for [1, 2, 4] (G := Nat × List (List Int)) (fun k g => [(3, some (.buf g.1 g.2.length)), (9, some (.int .i64 (k : Int)))]) (fun k g H => GrowL c x s found k g.2 ∧ Owns H0 H ((g.1, .cells 1 (g.2.map iL) 0) :: l)) (outs c x).length (id, found ++ [s]) ⟨.zero nd sv hs hin (by omega), o⟩ rfl ?_; rintro k ⟨id, out⟩ H hk ⟨hq, o⟩; replace hq : GrowL c x s found k out := hq; replace o : Owns H0 H ((id, .cells 1 (out.map iL) 0) :: l) := o; simp only [go_sem]; refine ⟨fun h2 => At.mk ?_, fun h2 => At.mk ?_⟩; rotate_left
 ·simp only [go_sem]; have h2p := h2; simp only [dF, Nat.not_lt] at h2p; exact own_ret o rfl (hq.done (by omega))
 simp only [go_sem]; have h2p := h2; simp only [dT] at h2p; have w1 := wsucc (k := k) (by omega); have hmem : (outs c x).getD k default ∈ outs c x := mem_getD.mpr ⟨k, h2p, rfl⟩; refine ⟨h2p, (l01Has_ok ..).go fun _ => ?_⟩; simp only [go_sem]; refine ⟨fun h3 => At.mk ?_, fun h3 => At.mk ?_⟩; rotate_left
 ·simp only [go_sem, h3, w1]; have h3p := h3; simp only [bnf, dect] at h3p; exact for_next (_, _) (by omega) ⟨hq.skip h2p (add_self hc hs h3p), o⟩ rfl
 simp only [go_sem, reduceAdd, h3]; have h3p := h3; simp only [bnt, decf] at h3p; refine ⟨h2p, (l01Own_own B s H0 H _ o).own ?_⟩; rintro ida A H oa rfl; have hAl := hs.len; simp only [go_sem]; refine app_own ((outs c x).getD k default) oa rfl rfl (by simp only [maxL]; omega) fun ida H oa => ?_; simp only [go_sem]; refine call_fz 1 rfl oa rfl fun H o => ?_; simp only [sY, sZ]; have hlA : ∀ b, b ∈ A ++ [(outs c x).getD k default] → 0 ≤ b ∧ b.toNat < c.frm.length := by
  intro b hb; rcases List.mem_append.mp hb with hb | hb
  ·exact (hs.arr hb).1
  ·rw [List.mem_singleton] at hb; subst hb; have := mem_outs.mp hmem; exact ⟨this.1, this.2.1⟩
 refine (l25Close_ok B c hsh _ hlA).go fun _ => ?_; simp only [go_sem]; refine (ih _ (hn ▸ missing_lt hc hs hmem h3p) _ rfl (add_sieve hc hs hmem) H0 H l id out o hq.nd hq.sv hq.le).own ?_; rintro id' out' H o q; simp only [go_sem, w1]; exact for_next (_, _) (by omega) ⟨hq.step h2p q, o⟩ rfl
theorem l25Sorted_ok (B : Nat) (l : List (List Int)) (H0 : Heap) : CallH Tryz.prog B 201 [iLL l] H0 (fun r H' => H' = H0 ∧ ∃ M, r = iLL M ∧ M.Perm l ∧ M.Pairwise fun s t => cmp s t ≤ 0) := by
 refine c201 (by simp) fun ⟨hf, _⟩ => ?_; have hl := fine_mL_le hf; have hl2 := hl; simp only [maxL] at hl; unfold s201; simp only [go_sem, reduceAdd]; refine new_list iL (.nil _) fun id H o => ?_; simp only [go_sem]; refine app_list (f := iL) o rfl (by simpa using hl2) fun id H o => ?_; rw [List.nil_append] at *; simp only [go_sem]; refine awp_for [3] (fun k _ => [(4, some (.int .i64 ((k + 1 : Nat) : Int)))]) (fun k A H => (A.Perm l ∧ ∀ a b, a < b → b ≤ k → b < l.length → cmp (A.getD a default) (A.getD b default) ≤ 0) ∧ Owns H0 H [(id, .cells 1 (A.map iL) 0)]) l.length l ⟨⟨.refl _, fun a b h1 h2 => by omega⟩, o⟩ rfl ?_; rintro k A H hk ⟨⟨hp, hs⟩, o⟩; have hAl := hp.length_eq; simp only [go_sem]; refine ⟨fun h1 => At.mk ?_, fun h1 => At.mk ?_⟩
 ·simp only [go_sem]; have h1p := h1; simp only [dT] at h1p; have w1 := wsucc (k := k + 1) (by omega); refine awp_while [3, 4] (fun (g : Nat × List (List Int)) => [(5, some (.int .i64 (g.1 : Int)))]) (fun m g H => m = g.1 ∧ SortI l (k + 1) g.1 g.2 ∧ Owns H0 H [(id, .cells 1 (g.2.map iL) 0)]) (k + 1) (k + 1, A)
   ⟨rfl, ⟨hp, Nat.le_refl _, by omega, fun a b h2 h3 h4 => hs a b h2 (by omega) (by omega)⟩, o⟩ rfl ?_
  rintro j ⟨j', A⟩ H ⟨hj, hI, o⟩; obtain rfl : j = j' := hj; replace hI : SortI l (k + 1) j A := hI; have hIl := hI.le; have hIt := hI.lt; have hIp := hI.pm.length_eq; replace o : Owns H0 H [(id, .cells 1 (A.map iL) 0)] := o; simp only [go_sem]; refine ⟨fun h2 => At.mk ?_, fun h2 => At.mk ?_⟩
  ·simp only [go_sem, h2]; have h2p := h2; simp only [dT] at h2p; obtain ⟨j, rfl⟩ : ∃ i, j = i + 1 := ⟨j - 1, by omega⟩; have w2 := wpred (k := j + 1) (by omega) (by omega); rw [Nat.add_sub_cancel] at w2; refine ⟨by omega, rd_own o (by omega) ?_⟩; simp only [go_sem, w2]; refine ⟨by omega, rd_own o (by omega) ?_⟩; simp only [go_sem]; refine ⟨_, (l01Less_ok ..).run, ?_⟩; simp only [go_sem]; refine ⟨fun h3 => At.mk ?_, fun h3 => At.mk ?_⟩
   ·simp only [go_sem]; have h3p := h3; simp only [dect] at h3p; refine ⟨by omega, rd_own o (by omega) ?_⟩; simp only [go_sem, w2]; refine ⟨by omega, rd_own o (by omega) ?_⟩; simp only [go_sem]; refine ⟨by omega, set_own (A.getD j default) o rfl (by omega) fun H o => ?_⟩; simp only [go_sem, w2]; refine ⟨by omega, set_own (A.getD (j + 1) default) o rfl (by rw [List.length_set]; omega) fun H o => ?_⟩; simp only [go_sem, w2]; exact while_next j (j, _) (by omega) ⟨rfl, hI.swap h3p, o⟩ rfl
   ·simp only [go_sem, w1]; have h3p := h3; simp only [decf, Int.not_lt] at h3p; exact for_next A (by omega) ⟨⟨hI.pm, fun a b h4 h5 h6 => hI.stop (.inr ⟨by omega, by simpa using h3p⟩) a b h4 (by omega)⟩, o⟩ rfl
  ·simp only [go_sem, h2, w1]; have h2p := h2; simp only [dF, Int.not_lt] at h2p; exact for_next A (by omega) ⟨⟨hI.pm, fun a b h4 h5 h6 => hI.stop (.inl (by omega)) a b h4 (by omega)⟩, o⟩ rfl
 ·simp only [go_sem]; have h1p := h1; simp only [dF, Nat.not_lt] at h1p; rw [← hAl]; refine fz_own o rfl fun H o => ?_; simp only [go_sem]; exact ⟨_, o.sub, rfl, A, rfl, hp, sorted_getD fun a b h2 h3 => hs a b h2 (by omega) (by omega)⟩
theorem l25All_ok (B : Nat) (c : Cat) (hc : c.Is) (x : Int) (H0 : Heap) : CallH Tryz.prog B 190 [.agg c.cells, .int .i64 x] H0 (fun r H' => H' = H0 ∧ ∃ L, r = .tup [iLL L, .bool (dec (Few c x))] ∧ (Few c x → L = allS c x)) := by
 refine c190p (by simp) fun _ => ?_; have hs := hc.1; have hm := hs.m; unfold s190p; simp only [go_sem, reduceAdd]; refine ⟨_, (l25Out_ok ..).run, ?_⟩; refine new_list iL (.nil _) fun id H o => ?_; simp only [go_sem]; refine (l25Grow_own B c hc x _ [] rfl (nil_sieve x) H0 H _ id [] o (by simp) (by simp) (by simp)).own ?_; rintro id L H o q; simp only [go_sem]; refine fz_own o rfl fun H o => ?_; simp only [go_sem]; refine (l25Sorted_ok ..).mono ?_; rintro r H' ⟨rfl, M, rfl, hp, hso⟩; simp only [go_sem]; have ha := all_of_grow hc q.nd q.sv hp hso (q.all.imp_right fun ⟨h1, h2⟩ => ⟨h1, fun t ht => h2 t ht (by simp)⟩); refine ⟨_, o.sub, rfl, M, ?_, ha.2⟩
 congr 3
 rw [← ha.1, ← decide_dec]
 congr 1; rw [Bool.eq_iff_iff]; simp only [dT]; omega
theorem l25Lists_ok (B : Nat) (c : Cat) (hc : c.Is) : Pur Tryz.prog B 175 [.agg c.cells] (.tup [iLLL (tabS c), .bool (dec (AllFew c))]) := by
 refine ⟨fun H0 => c175 (by simp) fun ⟨_, _⟩ => ?_⟩; have hs := hc.1; have hm := hs.m; have hob := hs.o; unfold s175; simp only [go_sem, reduceAdd]; refine new_list iLL (.nil _) fun id H o => ?_; simp only [go_sem]; refine awp_for [1] (G := Nat × List (List (List Int))) (fun k g => [(4, some (.buf g.1 g.2.length)), (5, some (.int .i64 (k : Int)))]) (fun k g H => (g.2 = ((List.range k).map fun x : Nat => allS c (x : Int)) ∧ ∀ x, x < k → Few c x) ∧ Owns H0 H [(g.1, .cells 1 (g.2.map iLL) 0)]) c.objs.toNat (id, []) ⟨⟨by simp, by simp⟩, o⟩ rfl ?_; rintro k ⟨id, out⟩ H hk ⟨hout, o⟩; replace hout : out = ((List.range k).map fun x : Nat => allS c (x : Int)) ∧ ∀ x, x < k → Few c x := hout; simp only [go_sem, reduceAdd, reduceLeDiff]; refine ⟨fun h1 => At.mk ?_, fun h1 => At.mk ?_⟩
 ·have h1 := of_decide h1; have w1 := wsucc (k := k) (by omega); simp only [go_sem, reduceAdd]; refine (l25All_ok B c hc k H).mono ?_; rintro r H' ⟨rfl, L, rfl, hL⟩; simp only [go_sem, reduceAdd, reduceLT]; refine ⟨fun h2 => At.mk ?_, fun h2 => At.mk ?_⟩
  ·simp only [go_sem]; have h2p := h2; simp only [bnt, decf] at h2p; have hno : ¬ AllFew c := fun h => h2p (h k (by omega)); exact pure_ret (by rw [tabS_f hno, dec_f hno]; rfl) o.sub
  ·simp only [go_sem, reduceAdd]; have h2p := h2; simp only [bnf, dect] at h2p; refine app_own (allS c k) o (by rw [hL h2p]) rfl (by simp only [maxL]; rw [hout.1]; simp; omega) fun id H o => ?_; simp only [go_sem, w1]; exact for_next (_, _) (by omega) ⟨⟨by rw [hout.1, map_range_succ], lt_succ_all hout.2 h2p⟩, o⟩ rfl
 ·simp only [go_sem]; have h1 := of_ndecide h1; refine fz_own o rfl fun H o => ?_; simp only [go_sem]; exact pure_ret (by have hall : AllFew c := fun x hx => hout.2 x (by omega); rw [tabS_t hall, dec_t hall, hout.1, show k = c.objs.toNat by omega]; rfl) o.sub
theorem l25Tops_ok (B : Nat) (c : Cat) (L : List (List (List Int))) : Pur Tryz.prog B 177 [.agg c.cells, iLLL L] (iL (topsOf c L)) := by
 refine ⟨fun H0 => c177 (by simp) fun ⟨_, hf, _⟩ => ?_⟩; have hl := fine_mL_le hf; simp only [maxL] at hl; unfold s177; simp only [go_sem, reduceAdd]; refine new_list iI (.nil _) fun id H o => ?_; simp only [go_sem]; refine awp_for [1, 2] (G := Nat × List (Int)) (fun k g => [(5, some (.buf g.1 g.2.length)), (6, some (.int .i64 (k : Int)))]) (fun k g H => g.2 = ((List.range k).map (topOf c L)) ∧ Owns H0 H [(g.1, .cells 1 (g.2.map iI) 0)]) L.length (id, []) ⟨by simp, o⟩ rfl ?_; rintro k ⟨id, out⟩ H hk ⟨hout, o⟩; replace hout : out = ((List.range k).map (topOf c L)) := hout; simp only [go_sem]; refine ⟨fun h1 => At.mk ?_, fun h1 => At.mk ?_⟩
 ·have h1 := of_decide h1; have w1 := wsucc (k := k) (by omega); simp only [go_sem, reduceAdd]; refine ⟨h1, _, (l25Out_ok ..).run, ?_⟩; refine ⟨_, (l05Place_ok ..).run, ?_⟩; simp only [go_sem, reduceAdd]; refine app_own (topOf c L k) o rfl rfl (by rw [hout]; simp [maxL] <;> omega) fun id H o => ?_; simp only [go_sem, w1]; exact for_next (_, _) (by omega) ⟨by rw [hout, map_range_succ], o⟩ rfl
 ·simp only [go_sem]; have h1 := of_ndecide h1; refine fz_own o rfl fun H o => ?_; simp only [go_sem]; exact pure_ret (by rw [hout, show k = L.length by omega]; rfl) o.sub
end Go.Proofs.Shf
namespace Go.AW
open Go.Proofs Go.Shf Go.Proofs.Shf
theorem Owns.rc {H0 H : Heap} {l : List (Nat × MObj)} {id sz fr : Nat} {cs : List AV} (o : Owns H0 H ((id, .cells sz cs fr) :: l)) (n off : Nat) (h : off + n ≤ cs.length) : rc1 (some n) off (H.get id) = some (.agg ((cs.drop off).take n)) := by
 have h0 := o.h0; simp only at h0; rw [h0, rc1_n, if_pos h]
end Go.AW
namespace Go.Proofs.Shf
open Go.AW Go.Proofs Go.Shf
theorem l25Make_ok (B : Nat) (c : Cat) (hs : c.Shape) (L : List (List (List Int))) (hL : (L.length : Int) = c.objs) : Pur Tryz.prog B 176 [.agg c.cells, iLLL L] (.agg (c.cells ++ [iL (L.map fun l => (l.length : Int)), iLL (pullsOf c L)])) := by
 refine ⟨fun H0 => c176p (by simp) fun ⟨_, hfL, _⟩ => ?_⟩; have hm := hs.m; have hob := hs.o; have htl := hs.tol; unfold s176p; simp only [go_sem, reduceAdd]; refine ⟨by simp [maxL], newRef_own (.nil _) fun id4 H o => ?_⟩; simp only [go_sem, reduceAdd]; refine (l02Own_ok ..).go fun _ => ?_; simp only [go_sem, reduceAdd, reduceLeDiff]; refine ⟨by simp [maxL], newRef_own o fun id5 H o => ?_⟩; simp only [go_sem]; refine st_cells o (by simp) rfl (by simp only [memcons, memnil]; exact ⟨rfl, rfl, rfl, rfl, rfl, rfl, rfl, trivial⟩) fun H o => ?_; simp only [wr_cons, wr_nil, sZ, sY] at o; simp only [go_sem]; have hfl := fine_mL_le hfL; simp only [maxL] at hfl; refine awp_for [1, 2, 4, 5] (fun k _ => [(6, some (.int .i64 (k : Int)))]) (fun k X H => LsO iI H0 H ((id5, .cells 7 [iI c.objs, iL c.frm, iL c.to, iL c.idn, iLL c.comp, X, .nilsl] 0) ::
  [(id4, .cells 7 [.int .i64 0, .nilsl, .nilsl, .nilsl, .nilsl, .nilsl, .nilsl] 0)]) X ((L.take k).map fun l => (l.length : Int))) L.length .nilsl (.inl ⟨rfl, rfl, o⟩) rfl ?_
 rintro k X H hk hX; simp only [go_sem]; refine ⟨fun h1 => At.mk ?_, fun h1 => At.mk ?_⟩
 ·simp only [go_sem, reduceAdd]; have h1p := h1; simp only [dT] at h1p; have w1 := wsucc (k := k) (by omega); refine rd_get hX.obj (by simp) ?_; simp only [go_sem, reduceAdd]; refine ⟨h1p, ?_⟩; refine hX.app ((L.getD k default).length : Int) rfl (by rw [List.length_map, List.length_take]; simp only [maxL]; omega) fun id H o => ?_; simp only [go_sem, reduceAdd]; refine st_cells o.swap (by simp) rfl (by simp only [memcons, memnil]; exact ⟨rfl, trivial⟩) fun H o => ?_; simp only [wr_cons, wr_nil, sZ, sY] at o; simp only [go_sem, w1]; exact for_next _ (by omega) (.inr ⟨id, rfl, by rw [take_map_succ L _ h1p]; exact o.swap⟩) rfl
 ·simp only [go_sem]; have h1p := h1; simp only [dF, Nat.not_lt] at h1p; obtain rfl : k = L.length := by omega
  rw [List.take_length] at hX; refine wk_ls 5 hX rfl fun H o => wkW_done ?_; simp only [sZ, sY] at o; clear hX; simp only [go_sem]; refine awp_for [1, 2, 4, 5] (fun k _ => [(7, some (.int .i64 (k : Int)))]) (fun k Y H => LsO iL H0 H ((id5, .cells 7 [iI c.objs, iL c.frm, iL c.to, iL c.idn, iLL c.comp, iL (L.map fun l => (l.length : Int)), Y] 0) ::
   [(id4, .cells 7 [.int .i64 0, .nilsl, .nilsl, .nilsl, .nilsl, .nilsl, .nilsl] 0)]) Y ((List.range k).map (rowP c L))) c.frm.length .nilsl (.inl ⟨rfl, rfl, o⟩) rfl ?_
  rintro k Y H hk hY; simp only [go_sem, reduceAdd, reduceLeDiff]; refine ⟨fun h2 => At.mk ?_, fun h2 => At.mk ?_⟩
  ·simp only [go_sem]; have h2p := h2; simp only [dT] at h2p; have w1 := wsucc (k := k) (by omega); have hf := hs.frm' h2p; have ht := hs.to' h2p; have hil := hs.il; obtain ⟨p, o, hp⟩ := hY.split; clear hY; refine new_list iI o fun idr H o => ?_; simp only [go_sem]; generalize hLf : L.getD (c.frm.getD k default).toNat default = Lf at *; have hLL : Lf.length ≤ maxL := by
    rw [← hLf]; exact fine_mL_le (fine_mL_ix (i := c.frm.getD k default) hfL (by omega))
   simp only [maxL] at hLL; refine awp_for [1, 2, 4, 5, 7] (G := Nat × List Int) (fun j g => [(8, some (.buf g.1 g.2.length)), (9, some (.int .i64 (j : Int)))])
    (fun j g H => g.2 = ((Lf.take j).map fun s => indexOf (L.getD (c.to.getD k default).toNat default) (pullS c k s)) ∧ Owns H0 H ((g.1, .cells 1 (g.2.map iI) 0) :: (p ++ [(id5, .cells 7 [iI c.objs, iL c.frm, iL c.to, iL c.idn, iLL c.comp, iL (L.map fun l => (l.length : Int)), Y] 0), (id4, .cells 7 [.int .i64 0, .nilsl, .nilsl, .nilsl, .nilsl, .nilsl, .nilsl] 0)]))) Lf.length (idr, []) ⟨by simp, o⟩ rfl ?_
   rintro j ⟨idr, row⟩ H hj ⟨hrow, o⟩; replace hrow : row = ((Lf.take j).map fun s => indexOf (L.getD (c.to.getD k default).toNat default) (pullS c k s)) := hrow; have hrl : row.length ≤ j := by rw [hrow]; simp; omega
   simp only [go_sem, reduceAdd, reduceLeDiff]; refine ⟨h2p, ⟨hf.1, by omega⟩, ?_⟩; have hix : ix L (c.frm.getD k default) = Lf := by rw [← hLf]; rfl
   rw [hix]; refine ⟨fun h3 => At.mk ?_, fun h3 => At.mk ?_⟩
   ·simp only [go_sem, reduceAdd, reduceLeDiff]; have h3p := h3; simp only [dT] at h3p; have w3 := wsucc (k := j) (by omega); refine ⟨by omega, ⟨ht.1, by omega⟩, h2p, ⟨hf.1, by omega⟩, ?_⟩; rw [hix]; refine ⟨h3p, _, (l25Pull_ok B c hs k ⟨by omega, by simpa using h2p⟩ _).run, ?_⟩; refine ⟨_, (l05Place_ok ..).run, ?_⟩; simp only [go_sem, reduceAdd]; refine app_own _ o rfl rfl (by simp only [maxL]; omega) fun idr H o => ?_; simp only [go_sem, w3]; exact for_next (_, _) (by omega) ⟨by rw [take_map_succ Lf _ h3p, hrow]; rfl, o⟩ rfl
   ·simp only [go_sem]; have h3p := h3; simp only [dF, Nat.not_lt] at h3p; refine fz_own o rfl fun H o => ?_; have hY := LsO.mk o hp; have hg := hY.obj; simp only [go_sem, reduceAdd]; refine rd_get hg (by simp) ?_; simp only [go_sem, reduceAdd]; refine hY.app row rfl (by simp only [maxL]; simp; omega) fun id H o => ?_; simp only [go_sem, reduceAdd]; refine st_cells o.swap (by simp) rfl (by simp only [memcons, memnil]; exact ⟨rfl, trivial⟩) fun H o => ?_; simp only [wr_cons, wr_nil, sZ, sY] at o; simp only [go_sem, w1]; refine for_next _ (by omega) (.inr ⟨id, rfl, ?_⟩) rfl; have e : row = rowP c L k := by rw [hrow, show j = Lf.length by omega, List.take_length, rowP, hLf]
    rw [map_range_succ, ← e]; exact o.swap
  ·simp only [go_sem]; have h2p := h2; simp only [dF, Nat.not_lt] at h2p; obtain rfl : k = c.frm.length := by omega
   refine wk_ls 6 hY rfl fun H o => wkW_done ?_; simp only [sZ, sY] at o; clear hY; simp only [go_sem]; refine rd_celln o (by simp) ?_; simp only [go_sem]; refine st_cells o.swap (by simp) rfl (by simp only [memcons, memnil]; exact ⟨rfl, rfl, rfl, rfl, rfl, rfl, rfl, trivial⟩) fun H o => ?_; simp only [wr_cons, wr_nil, sZ, sY] at o; simp only [go_sem]; rw [o.rc 7 0 (by simp)]; simp only [go_sem]; exact pure_ret rfl o.sub
theorem l27Local_ok (B : Nat) (c : Cat) (L : List (List (List Int))) (t : TabOk c L) (M : List (List Bool)) (hM : MarkOk L M) (x s k : Nat) (hx : x < L.length) (hs : s < (L.getD x default).length) (hk : k < (L.getD x default).length) :
  Pur Tryz.prog B 178 [.agg (tabCells c L), bLL M, .int .i64 x, .int .i64 s, .int .i64 k] (.bool (dec (LocP c L M x s k))) := by
 refine ⟨fun H0 => c178 (by simp) fun _ => ?_⟩; have hsv := t.sv hx hs; have hcl := hsv.len; have hm := t.is.1.m; have hto := t.is.1.tol; unfold s178; simp only [go_sem, reduceAdd, reduceLeDiff]; refine ⟨hx, hs, ?_⟩; generalize hcv : (L.getD x default).getD s default = cv at *; refine awp_for [1, 4, 5, 11] (fun i _ => [(12, some (.int .i64 (i : Int)))]) (fun i _ H => H = H0 ∧ ∀ j, j < i → mg M (ix c.to (cv.getD j default)) ((ix (pullsOf c L) (cv.getD j default)).getD k default) = true) cv.length () ⟨rfl, by simp⟩ rfl ?_; rintro i _ H hi ⟨rfl, hall⟩; simp only [go_sem]; refine ⟨fun h1 => At.mk ?_, fun h1 => At.mk ?_⟩
 ·simp only [go_sem, reduceAdd, reduceLeDiff]; have h1p := h1; simp only [dT] at h1p; have w1 := wsucc (k := i) (by omega); have ha := hsv.arr (mem_getD.mpr ⟨i, h1p, rfl⟩); have hkr : k < (ix L (ix c.frm (cv.getD i default))).length := by rw [ha.2, ix_nat]; exact hk
  have hp := t.pull ha.1 hkr; have htt := t.to ha.1; have hrow := hM.row _ htt.2; have hpl := pulls_len (c := c) (L := L); have hpr := pulls_row (L := L) ha.1; have hml := hM.len; refine ⟨h1p, ⟨ha.1.1, by omega⟩, ⟨htt.1, by omega⟩, h1p, ⟨ha.1.1, by omega⟩, by omega, ⟨hp.1.1, ?_⟩, ?_⟩
  ·have := hp.1.2; simp only [ix] at this hrow ⊢; omega
  refine ⟨fun h2 => At.mk ?_, fun h2 => At.mk ?_⟩
  ·simp only [go_sem]; have h2p := h2; simp only [bnt] at h2p; refine pure_ret ?_ (.refl _); rw [dec_f]; intro h; have := h i (by rw [hcv]; exact h1p); rw [hcv] at this; simp only [mg] at this; rw [this] at h2p; cases h2p
  ·simp only [go_sem, w1]; have h2p := h2; simp only [bnf] at h2p; exact for_next () (by omega) ⟨rfl, lt_succ_all hall h2p⟩ rfl
 ·simp only [go_sem]; have h1p := h1; simp only [dF, Nat.not_lt] at h1p; refine pure_ret ?_ (.refl _); rw [dec_t]; intro i hi; rw [hcv] at hi ⊢; exact hall i (by omega)
theorem map_snd_get {α : Type} [Inhabited α] (ms : List (Nat × List α)) {x : Nat} (hx : x < ms.length) : (ms.map Prod.snd).getD x default = (ms.getD x default).2 := by
 simp [gQ, hx]
theorem l27Step_ok (B : Nat) (c : Cat) (L : List (List (List Int))) (t : TabOk c L) (ms : List (Nat × List Bool)) (hM : MarkOk L (ms.map Prod.snd)) (id : Nat) (H0 H : Heap) (l : List (Nat × MObj))
  (o : Owns H0 H ((id, .cells 1 (ms.map bufE) 0) :: (inner AV.bool ms ++ l))) :
  CallH Tryz.prog B 155 [.agg (tabCells c L), .buf id ms.length] H (fun r H' => r = .bool (dec (¬ TopM c L (ms.map Prod.snd))) ∧ H' = H0) := by
 refine c155p (by simp) fun _ => ?_; have hm := t.is.1.m; have hto := t.is.1.tol; have hml := hM.len; have hmM : (ms.map Prod.snd).length = ms.length := List.length_map ..; have htp := tops_len (c := c) (L := L); have hpl := pulls_len (c := c) (L := L); have hLo := t.len; have hob := t.is.1.o; have gM : ∀ x : Nat, x < ms.length → ((ms.getD x default).2).length = (L.getD x default).length := fun x hx => by rw [← map_snd_get ms hx]; exact hM.row x (by omega)
 have mgM : ∀ (x : Nat) (k : Int), x < ms.length → mg (ms.map Prod.snd) x k = ix (ms.getD x default).2 k := fun x k hx => by rw [mg, ix_nat, map_snd_get ms hx]
 have stop : ∀ {Hn : Heap} {v : AV}, H0.sub Hn → ¬ TopM c L (ms.map Prod.snd) → v = .bool true → subW (fun r H' => r = .bool (dec (¬ TopM c L (ms.map Prod.snd))) ∧ H' = H0) v Hn := by
  intro Hn v h1 h2 h3; exact pure_ret (by rw [h3, dec_t h2]) h1
 unfold s155p; simp only [go_sem, reduceAdd]; refine awp_for [1, 2] (fun x _ => [(5, some (.int .i64 (x : Int)))]) (fun x _ H' => H' = H ∧ ∀ y, y < x → XOk c L (ms.map Prod.snd) y) ms.length () ⟨rfl, by simp⟩ rfl ?_; rintro x _ H' hxl ⟨rfl, hall⟩; simp only [go_sem]; refine ⟨fun h1 => At.mk ?_, fun h1 => At.mk ?_⟩; rotate_left
 ·simp only [go_sem]; have h1p := h1; simp only [dF, Nat.not_lt] at h1p; refine pure_ret ?_ o.sub; rw [dec_f]; intro h; exact h fun y hy => hall y (by omega)
 simp only [go_sem]; have h1p := h1; simp only [dT] at h1p; have w1 := wsucc (k := x) (by omega); have htop := t.top (x := x) (by omega); have hrow := gM x h1p; have hfew := t.few x (by omega); have hgx := o.inner_get h1p; refine ⟨h1p, rd_own o h1p ?_⟩; simp only [go_sem, reduceAdd, reduceLeDiff]; refine ⟨by omega, ⟨htop.1.1, by omega⟩, rd_inner hgx (by omega) ?_⟩; simp only [go_sem]; refine ⟨fun h2 => At.mk ?_, fun h2 => At.mk ?_⟩
 ·simp only [go_sem, h2]; have h2p := h2; simp only [bnt] at h2p; refine ⟨h1p, rd_own o h1p ?_⟩; simp only [go_sem, reduceAdd, reduceLeDiff]; refine ⟨by omega, ⟨htop.1.1, by omega⟩, ?_⟩; rw [hgx, st1_c]; refine ⟨⟨by omega, by rw [List.length_map]; omega, rfl, by simp [AV.one]⟩, ?_⟩; simp only [go_sem]; refine stop ?_ ?_ rfl
  ·exact o.sub_inner h1p _
  ·intro h; have := (h x (by omega)).1; rw [mgM _ _ h1p, ix] at this; rw [this] at h2p; cases h2p
 simp only [go_sem, h2]; have h2p := h2; simp only [bnf] at h2p; have hxt : mg (ms.map Prod.snd) x ((topsOf c L).getD x default) = true := by rw [mgM _ _ h1p]; exact h2p
 refine awp_for [1, 2, 5] (fun s _ => [(6, some (.int .i64 (s : Int)))]) (fun s _ H2 => H2 = H' ∧ ∀ y, y < s → SOk c L (ms.map Prod.snd) x y) (ms.getD x default).2.length () ⟨rfl, by simp⟩ rfl ?_; rintro s _ H2 hsl ⟨rfl, hsall⟩; simp only [go_sem]; refine ⟨h1p, rd_own o h1p ?_⟩; simp only [go_sem]; refine ⟨fun h3 => At.mk ?_, fun h3 => At.mk ?_⟩; rotate_left
 ·simp only [go_sem, w1]; have h3p := h3; simp only [dF, Nat.not_lt] at h3p; exact for_next () h1p ⟨rfl, lt_succ_all hall ⟨hxt, fun y hy => hsall y (by rw [map_snd_get ms h1p] at hy; omega)⟩⟩ rfl
 simp only [go_sem]; have h3p := h3; simp only [dT] at h3p; have w3 := wsucc (k := s) (by omega); refine ⟨h1p, rd_own o h1p ?_⟩; simp only [go_sem]; refine ⟨h3p, rd_inner hgx h3p ?_⟩; simp only [go_sem]; refine ⟨fun h4 => At.mk ?_, fun h4 => At.mk ?_⟩
 ·simp only [go_sem, h4, w3]; have h4p := h4; simp only [bnt] at h4p; exact for_next () h3p ⟨rfl, lt_succ_all hsall fun e => by rw [map_snd_get ms h1p, h4p] at e; cases e⟩ rfl
 simp only [go_sem, h4]; have h4p := h4; simp only [bnf] at h4p; refine awp_for [1, 2, 5, 6] (fun a _ => [(7, some (.int .i64 (a : Int)))]) (fun a _ H3 => H3 = H2 ∧ ∀ y, y < a → AOk c L (ms.map Prod.snd) x s y) c.frm.length () ⟨rfl, by simp⟩ rfl ?_; rintro a _ H3 hal ⟨rfl, haall⟩; simp only [go_sem, reduceAdd, reduceLeDiff]; rw [hpl]; refine ⟨fun h5 => At.mk ?_, fun h5 => At.mk ?_⟩
 ·simp only [go_sem, reduceAdd, reduceLeDiff]; have h5p := h5; simp only [dT] at h5p; have w5 := wsucc (k := a) (by omega); have haa : 0 ≤ (a : Int) ∧ (a : Int).toNat < c.frm.length := ⟨by omega, by simpa using h5p⟩; refine ⟨h5p, ?_⟩; refine ⟨fun h6 => At.mk ?_, fun h6 => At.mk ?_⟩; rotate_left
  ·simp only [go_sem, h6, w5]; have h6p := h6; simp only [dF] at h6p; exact for_next () h5p ⟨rfl, lt_succ_all haall fun e => absurd e h6p⟩ rfl
  simp only [go_sem, reduceAdd, reduceLeDiff, h6]; have h6p := h6; simp only [dT] at h6p; have hto := t.to haa; simp only [ix_nat, toNat_nat] at hto; have hpr := pulls_row (L := L) haa; simp only [ix_nat] at hpr; have hsr : s < (ix L (ix c.frm a)).length := by rw [ix_nat, h6p, ix_nat, ← hrow]; exact h3p
  have hp := (t.pull haa hsr).1; simp only [ix_nat] at hp; have hy : (c.to.getD a default).toNat < ms.length := by omega
  have hgy := o.inner_get hy; have hrowy := gM _ hy; have hix : ix ms (c.to.getD a default) = ms.getD (c.to.getD a default).toNat default := rfl; have hixL : ix L (c.to.getD a default) = L.getD (c.to.getD a default).toNat default := rfl; simp only [ix_nat] at hsr; rw [hixL] at hp; refine ⟨by omega, ⟨hto.1, hy⟩, rd_own o hy ?_⟩; simp only [go_sem, reduceAdd, reduceLeDiff]; refine ⟨by omega, by omega, ⟨hp.1, by omega⟩, rd_inner hgy (by omega) ?_⟩; simp only [go_sem]; have hmg : mg (ms.map Prod.snd) (c.to.getD a default) (((pullsOf c L).getD a default).getD s default) = (ms.getD (c.to.getD a default).toNat default).2.getD (((pullsOf c L).getD a default).getD s default).toNat default := by
   have := mgM (c.to.getD a default).toNat (((pullsOf c L).getD a default).getD s default) hy; rw [Int.toNat_of_nonneg hto.1] at this; rw [this]; rfl
  refine ⟨fun h7 => At.mk ?_, fun h7 => At.mk ?_⟩
  ·simp only [go_sem, reduceAdd, reduceLeDiff, h7]; have h7p := h7; simp only [bnt] at h7p; refine ⟨by omega, ⟨hto.1, hy⟩, rd_own o hy ?_⟩; simp only [go_sem, reduceAdd, reduceLeDiff]; refine ⟨by omega, by omega, ⟨hp.1, by omega⟩, ?_⟩; rw [hgy, st1_c]; refine ⟨⟨by omega, by rw [List.length_map]; omega, rfl, by simp [AV.one]⟩, ?_⟩; simp only [go_sem]; refine stop (o.sub_inner hy _) (fun h => ?_) rfl; have := ((h x (by omega)).2 s (by rw [map_snd_get ms h1p]; omega) (by rw [map_snd_get ms h1p]; exact h4p)).1 a h5p h6p; rw [hmg, h7p] at this; cases this
  ·simp only [go_sem, h7, w5]; have h7p := h7; simp only [bnf] at h7p; exact for_next () h5p ⟨rfl, lt_succ_all haall fun _ => by rw [hmg]; exact h7p⟩ rfl
 ·simp only [go_sem]; have h5p := h5; simp only [dF, Nat.not_lt] at h5p; have ha0 : ∀ y, y < c.frm.length → AOk c L (ms.map Prod.snd) x s y := fun y hy => haall y (by omega); refine awp_for [1, 2, 5, 6] (fun k _ => [(8, some (.int .i64 (k : Int)))]) (fun k _ H4 => H4 = H3 ∧ ∀ y, y < k → KOk c L (ms.map Prod.snd) x s y) (ms.getD x default).2.length () ⟨rfl, by simp⟩ rfl ?_; rintro k _ H4 hkl ⟨rfl, hkall⟩; simp only [go_sem]; refine ⟨h1p, rd_own o h1p ?_⟩; simp only [go_sem]; refine ⟨fun h8 => At.mk ?_, fun h8 => At.mk ?_⟩
  ·simp only [go_sem]; have h8p := h8; simp only [dT] at h8p; have w8 := wsucc (k := k) (by omega); refine ⟨h1p, rd_own o h1p ?_⟩; simp only [go_sem]; refine ⟨h8p, rd_inner hgx h8p ?_⟩; simp only [go_sem]; refine ⟨fun h9 => At.mk ?_, fun h9 => At.mk ?_⟩
   ·simp only [go_sem, reduceAdd, h9]; have h9p := h9; simp only [bnt] at h9p; refine CallH.lentPure (r := .bool (dec (LocP c L (ms.map Prod.snd) x s k))) (es := [.agg (tabCells c L), bLL (ms.map Prod.snd), .int .i64 x, .int .i64 s, .int .i64 k]) (.bool _) rfl (fun i hi => ?_)
     (l27Local_ok B c L t (ms.map Prod.snd) hM x s k (by omega) (by omega) (by omega)).run ?_
    ·obtain rfl | rfl | rfl | rfl | rfl : i = 0 ∨ i = 1 ∨ i = 2 ∨ i = 3 ∨ i = 4 := by simp only [List.length_cons, List.length_nil] at hi; omega
     ·exact val_arg _
     ·exact lent_nest o rfl
     ·exact val_arg _
     ·exact val_arg _
     ·exact val_arg _
    simp only [go_sem]; refine ⟨fun h10 => At.mk ?_, fun h10 => At.mk ?_⟩
    ·simp only [go_sem]; have h10p := h10; simp only [dect] at h10p; refine ⟨h1p, rd_own o h1p ?_⟩; simp only [go_sem]; refine ⟨h8p, ?_⟩; rw [hgx, st1_c]; refine ⟨⟨by omega, by rw [List.length_map]; omega, rfl, by simp [AV.one]⟩, ?_⟩; simp only [go_sem]; refine stop (o.sub_inner h1p _) (fun h => ?_) rfl; have := ((h x (by omega)).2 s (by rw [map_snd_get ms h1p]; omega) (by rw [map_snd_get ms h1p]; exact h4p)).2 k (by rw [map_snd_get ms h1p]; omega); rcases this with h | h
     ·rw [map_snd_get ms h1p, h9p] at h; cases h
     ·exact h h10p
    ·simp only [go_sem, w8]; have h10p := h10; simp only [decf] at h10p; exact for_next () h8p ⟨rfl, lt_succ_all hkall (.inr h10p)⟩ rfl
   ·simp only [go_sem, h9, w8]; have h9p := h9; simp only [bnf] at h9p; exact for_next () h8p ⟨rfl, lt_succ_all hkall (.inl (by rw [map_snd_get ms h1p]; exact h9p))⟩ rfl
  ·simp only [go_sem, w3]; have h8p := h8; simp only [dF, Nat.not_lt] at h8p; exact for_next () h3p ⟨rfl, lt_succ_all hsall fun _ => ⟨ha0, fun y hy => hkall y (by rw [map_snd_get ms h1p] at hy; omega)⟩⟩ rfl
end Go.Proofs.Shf
