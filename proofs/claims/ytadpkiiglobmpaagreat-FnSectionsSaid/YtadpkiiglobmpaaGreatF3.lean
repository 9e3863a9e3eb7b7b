/- Contracts, part 3. -/
import Derived.Test.YtadpkiiglobmpaaGreatF2
set_option linter.unusedVariables false
set_option linter.unusedSimpArgs false
set_option linter.unusedSectionVars false
open Nat (reduceEqDiff reduceAdd reduceMul reduceLeDiff reduceLT)
namespace Go.Proofs.Shf
open Go.AW Go.Proofs Go.Shf
theorem sfFault_ok (B : Nat) (f : SF) (s : f.Shape) (H0 : Heap) : CallH Tryz.prog B 176 [.ptr f.cells] H0 (faultK f.Laws H0) := by
 refine c176 (by simp) fun ⟨hf, _⟩ => ?_
 have hs := s.is.1
 have hm := hs.m
 have hcl := hs.cl
 have htl := hs.tol
 have hil := hs.il
 have hal := s.al
 have hsl := s.sl
 have hob := hs.o
 unfold s176
 try simp only [go_sem, reduceAdd, reduceLeDiff]
 refine awp_for [0, 6, 23, 24] (fun k _ => [(25, some (.int .i64 (k : Int)))]) (fun k _ H => H = H0 ∧ ∀ x, x < k → ∀ e : Nat, e < (ix f.acts (f.shape.idn.getD x default)).length → (ix f.acts (f.shape.idn.getD x default)).getD e default = e) f.shape.idn.length () ⟨rfl, by simp⟩ rfl ?_
 rintro x _ H hx ⟨rfl, hall⟩
 try simp only [go_sem]
 refine ⟨fun g1 => At.mk ?_, fun g1 => At.mk ?_⟩
 ·have g1p := g1; simp only [decide_eq_true_eq] at g1p
  have wx := wsucc (k := x) (by omega)
  have hid := hs.idn _ (mem_getD.mpr ⟨x, g1p, rfl⟩)
  have hlen := s.idLen g1p
  have hz : f.sizes.getD x default < 17 := (s.sz _ (mem_getD.mpr ⟨x, by omega, rfl⟩)).2
  try simp only [go_sem, reduceAdd, reduceLeDiff]
  refine ⟨g1p, ⟨hid.1, by omega⟩, ?_⟩
  refine awp_for [0, 6, 7, 23, 24, 25, 36, 37] (fun k _ => [(38, some (.int .i64 (k : Int)))]) (fun k _ H' => H' = H ∧ ∀ e : Nat, e < k → (ix f.acts (f.shape.idn.getD x default)).getD e default = e) (ix f.acts (f.shape.idn.getD x default)).length () ⟨rfl, by simp⟩ rfl ?_
  rintro e _ H' he ⟨rfl, hall2⟩
  try simp only [go_sem]
  refine ⟨fun g2 => At.mk ?_, fun g2 => At.mk ?_⟩
  rotate_left
  ·try simp only [go_sem, wx]
   have g2p := g2; simp only [decide_eq_false_iff_not, Nat.not_lt] at g2p
   exact for_next () g1p ⟨rfl, lt_succ_all hall fun e he => hall2 e (by omega)⟩ rfl
  have g2p := g2; simp only [decide_eq_true_eq] at g2p
  have we := wsucc (k := e) (by omega)
  try simp only [go_sem]
  refine ⟨g2p, ?_⟩
  refine ⟨fun g3 => At.mk ?_, fun g3 => At.mk ?_⟩
  ·try simp only [go_sem]
   have g3p := g3; simp only [bnt, decide_eq_false_iff_not] at g3p
   exact fault_ret (by constructor; (intro h; cases h); intro l; exact absurd (l.idl x g1p e g2p) g3p) (.refl _)
  ·try simp only [go_sem, we]
   have g3p := g3; simp only [bnf, decide_eq_true_eq] at g3p
   exact for_next () g2p ⟨rfl, lt_succ_all hall2 g3p⟩ rfl
 have g1p := g1; simp only [decide_eq_false_iff_not, Nat.not_lt] at g1p
 have hidl : ∀ x : Nat, x < f.shape.idn.length → ∀ e : Nat, e < (ix f.acts (f.shape.idn.getD x default)).length → (ix f.acts (f.shape.idn.getD x default)).getD e default = e := fun x hx => hall x (by omega)
 try simp only [go_sem, reduceAdd, reduceLeDiff]
 refine awp_for [0, 53, 54] (fun k _ => [(55, some (.int .i64 (k : Int)))]) (fun k _ H' => H' = H ∧ ∀ a, a < k → ∀ b, b < f.shape.frm.length → f.CompAt a b) f.shape.comp.length () ⟨rfl, by simp⟩ rfl ?_
 rintro a _ H' ha ⟨rfl, hA⟩
 try simp only [go_sem]
 refine ⟨fun g1 => At.mk ?_, fun g1 => At.mk ?_⟩
 rotate_left
 ·try simp only [go_sem]
  have g1p := g1; simp only [decide_eq_false_iff_not, Nat.not_lt] at g1p
  exact fault_ret (by simp only [true_iff]; exact ⟨hidl, fun a b ha hb => hA a (by omega) b hb⟩) (.refl _)
 have g1p := g1; simp only [decide_eq_true_eq] at g1p
 have ham : a < f.shape.frm.length := by omega
 have wa := wsucc (k := a) (by omega)
 have ra := hs.row a ham
 have fa := hs.frm' ham
 have la := s.actLen (a := (a : Int)) (by omega)
 rw [ix_nat2, ix_nat2] at la
 have za := s.sz _ (ix_mem (l := f.sizes) (i := f.shape.frm.getD a default) (by omega))
 try simp only [go_sem]
 refine ⟨g1p, ?_⟩
 refine awp_for [0, 11, 53, 54, 55, 60, 61] (fun k _ => [(62, some (.int .i64 (k : Int)))]) (fun k _ H => H = H' ∧ ∀ b, b < k → f.CompAt a b) (f.shape.comp.getD a default).length () ⟨rfl, by simp⟩ rfl ?_
 rintro b _ H hb ⟨rfl, hB⟩
 try simp only [go_sem]
 refine ⟨fun g2 => At.mk ?_, fun g2 => At.mk ?_⟩
 rotate_left
 ·try simp only [go_sem, wa]
  have g2p := g2; simp only [decide_eq_false_iff_not, Nat.not_lt] at g2p
  exact for_next () g1p ⟨rfl, lt_succ_all hA fun b hb => hB b (by omega)⟩ rfl
 have g2p := g2; simp only [decide_eq_true_eq] at g2p
 have hbm : b < f.shape.frm.length := by omega
 have wb := wsucc (k := b) (by omega)
 try simp only [go_sem]
 refine ⟨g2p, ?_⟩
 refine ⟨fun g3 => At.mk ?_, fun g3 => At.mk ?_⟩
 ·try simp only [go_sem, wb]
  have g3p := g3; simp only [decide_eq_true_eq] at g3p
  exact for_next () g2p ⟨rfl, lt_succ_all hB fun e => by have := (hs.pos ham hbm).mpr e; omega⟩ rfl
 have g3p := g3; simp only [decide_eq_false_iff_not, Int.not_lt] at g3p
 have g3q := (hs.pos ham hbm).mp g3p
 have hy := hs.yes a b ham hbm g3q
 have lc := s.actLen (a := (f.shape.comp.getD a default).getD b default) (by omega)
 rw [hy.2.1] at lc
 have lb := s.actLen (a := (b : Int)) (by omega)
 rw [ix_nat2, ix_nat2] at lb
 try simp only [go_sem, reduceAdd, reduceLeDiff]
 refine ⟨by omega, ?_⟩
 refine awp_for [0, 11, 13, 14, 53, 54, 55, 60, 61, 62, 75, 76] (fun k _ => [(77, some (.int .i64 (k : Int)))]) (fun k _ H' => H' = H ∧ ∀ e : Nat, e < k →
  (ix f.acts ((f.shape.comp.getD a default).getD b default)).getD e default = ix (f.acts.getD b default) ((f.acts.getD a default).getD e default)) (f.acts.getD a default).length () ⟨rfl, by simp⟩ rfl ?_
 rintro e _ H' he ⟨rfl, hE⟩
 try simp only [go_sem]
 refine ⟨fun g4 => At.mk ?_, fun g4 => At.mk ?_⟩
 rotate_left
 ·try simp only [go_sem, wb]
  have g4p := g4; simp only [decide_eq_false_iff_not, Nat.not_lt] at g4p
  exact for_next () g2p ⟨rfl, lt_succ_all hB fun _ e he => hE e (by omega)⟩ rfl
 have g4p := g4; simp only [decide_eq_true_eq] at g4p
 have we := wsucc (k := e) (by omega)
 have hv := (s.act a (by omega)).2 _ (mem_getD.mpr ⟨e, g4p, rfl⟩)
 rw [g3q] at hv
 try simp only [go_sem, reduceAdd, reduceLeDiff]
 refine ⟨g4p, ⟨g3p, by omega⟩, by omega, by omega, ⟨hv.1, by omega⟩, ?_⟩
 refine ⟨fun g5 => At.mk ?_, fun g5 => At.mk ?_⟩
 ·try simp only [go_sem]
  have g5p := g5; simp only [bnt, decide_eq_false_iff_not] at g5p
  exact fault_ret (by constructor; (intro h; cases h); intro l; exact absurd (l.comp a b ham hbm g3q e g4p) g5p) (.refl _)
 ·try simp only [go_sem, we]
  have g5p := g5; simp only [bnf, decide_eq_true_eq] at g5p
  exact for_next () g4p ⟨rfl, lt_succ_all hE g5p⟩ rfl
end Go.Proofs.Shf
namespace Go.Proofs.Shf
open Go.AW Go.Proofs Go.Shf
theorem l19Is_ok (B : Nat) (f : SF) : Pur Tryz.prog B 82 [.agg f.cells] (.bool (dec f.Is)) := by
 refine ⟨fun H0 => c82 (by simp) fun hf => ?_⟩
 unfold s82
 try simp only [go_sem, reduceAdd]
 refine (l19Shape_ok B f).go fun _ => ?_
 try simp only [go_sem]
 refine ⟨fun h1 => At.mk ?_, fun h1 => At.mk ?_⟩
 ·try simp only [go_sem]
  have h1p := h1; simp only [bnt, decf] at h1p
  exact pure_ret (by rw [dec_f]; intro s; exact h1p s.1) (.refl _)
 have h1p := h1; simp only [bnf, dect] at h1p
 try simp only [go_sem, reduceAdd]
 refine (l19Fault_ok B f h1p H0).mono' ?_
 rintro _ _ _ ⟨rfl, k, a, b, d, rfl, hk⟩
 try simp only [go_sem, reduceAdd, reduceLT]
 exact pure_ret (by rw [decide_dec]; congr 1; exact dec_congr ⟨fun h => ⟨h1p, hk.mp h⟩, fun h => hk.mpr h.2⟩) (.refl _)
theorem isSetFunctor_ok (B : Nat) (f : SF) : Pur Tryz.prog B 80 [.ptr f.cells] (.bool (dec f.Is)) := by
 refine ⟨fun H0 => c80 (by simp) fun hf => ?_⟩
 unfold s80
 try simp only [go_sem, reduceAdd]
 refine (sfIsShape_ok B f).go fun _ => ?_
 try simp only [go_sem]
 refine ⟨fun h1 => At.mk ?_, fun h1 => At.mk ?_⟩
 ·try simp only [go_sem]
  have h1p := h1; simp only [bnt, decf] at h1p
  exact pure_ret (by rw [dec_f]; intro s; exact h1p s.1) (.refl _)
 have h1p := h1; simp only [bnf, dect] at h1p
 try simp only [go_sem]
 refine (sfFault_ok B f h1p H0).mono' ?_
 rintro _ _ _ ⟨rfl, k, a, b, d, rfl, hk⟩
 try simp only [go_sem, reduceAdd, reduceLT]
 exact pure_ret (by rw [decide_dec]; congr 1; exact dec_congr ⟨fun h => ⟨h1p, hk.mp h⟩, fun h => hk.mpr h.2⟩) (.refl _)
instance : Inhabited SF := ⟨⟨⟨0, [], [], [], []⟩, [], []⟩⟩
abbrev sfP (f : SF) : AV := .ptr f.cells
instance : One sfP := ⟨fun _ => rfl, fun _ => rfl⟩
theorem areSetFunctors_ok (B : Nat) (l : List SF) : Pur Tryz.prog B 166 [mL sfP l] (.bool (dec (∀ f, f ∈ l → f.Is))) := by
 refine ⟨fun H0 => c166 (by simp) fun ⟨hf, _⟩ => ?_⟩
 have hl := fine_mL_le hf
 simp only [maxL] at hl
 unfold s166
 try simp only [go_sem, reduceAdd]
 refine awp_for [5, 6] (fun k _ => [(7, some (.int .i64 (k : Int)))]) (fun k _ H => H = H0 ∧ ∀ i, i < k → (l.getD i default).Is) l.length () ⟨rfl, by simp⟩ rfl ?_
 rintro k _ H hk ⟨rfl, hall⟩
 try simp only [go_sem]
 refine ⟨fun h1 => At.mk ?_, fun h1 => At.mk ?_⟩
 ·have h1p := h1; simp only [decide_eq_true_eq] at h1p
  have w1 := wsucc (k := k) (by omega)
  try simp only [go_sem]
  refine ⟨h1p, (isSetFunctor_ok B _).go fun _ => ?_⟩
  try simp only [go_sem]
  refine ⟨fun h2 => At.mk ?_, fun h2 => At.mk ?_⟩
  ·try simp only [go_sem]
   have h2p := h2; simp only [bnt, decf] at h2p
   exact pure_ret (by rw [dec_f]; intro h; exact h2p (h _ (mem_getD.mpr ⟨k, h1p, rfl⟩))) (.refl _)
  ·try simp only [go_sem, w1]
   have h2p := h2; simp only [bnf, dect] at h2p
   exact for_next () (by omega) ⟨rfl, lt_succ_all hall h2p⟩ rfl
 ·try simp only [go_sem]
  have h1p := h1; simp only [decide_eq_false_iff_not, Nat.not_lt] at h1p
  exact pure_ret (by rw [dec_t]; exact all_getD.mpr fun i hi => hall i (by omega)) (.refl _)
end Go.Proofs.Shf
namespace Go.Proofs.Shf
open Go.AW Go.Proofs Go.Shf
theorem sameCategory_ok (B : Nat) (a b : Cat) : Pur Tryz.prog B 167 [.ptr a.cells, .ptr b.cells] (.bool (dec (a = b))) := by
 refine ⟨fun H0 => c167 (by simp) fun ⟨hf, hg, _⟩ => ?_⟩
 have hl := fine_mL_le (hf.ptr (c := iLL a.comp) (by simp [Cat.cells]))
 simp only [maxL] at hl
 unfold s167
 try simp only [go_sem, reduceAdd, reduceLeDiff]
 refine ⟨fun h0 => At.mk ?_, fun h0 => At.mk ?_⟩
 rotate_left
 ·try simp only [go_sem, h0]
  have h0p := h0; simp only [bnt, decide_eq_false_iff_not] at h0p
  exact pure_ret (by rw [dec_f]; rintro rfl; exact h0p rfl) (.refl _)
 try simp only [go_sem, reduceAdd, reduceLeDiff, h0]
 have h0p := h0; simp only [bnf, decide_eq_true_eq] at h0p
 refine ⟨_, (same_ok B a.frm b.frm).run, ?_⟩
 try simp only [go_sem]
 refine ⟨fun h1 => At.mk ?_, fun h1 => At.mk ?_⟩
 rotate_left
 ·try simp only [go_sem, h1]
  have h1p := h1; simp only [bnt, decf] at h1p
  exact pure_ret (by rw [dec_f]; rintro rfl; exact h1p rfl) (.refl _)
 try simp only [go_sem, reduceAdd, reduceLeDiff, h1]
 have h1p := h1; simp only [bnf, dect] at h1p
 refine ⟨_, (same_ok B a.to b.to).run, ?_⟩
 try simp only [go_sem]
 refine ⟨fun h2 => At.mk ?_, fun h2 => At.mk ?_⟩
 rotate_left
 ·try simp only [go_sem, h2]
  have h2p := h2; simp only [bnt, decf] at h2p
  exact pure_ret (by rw [dec_f]; rintro rfl; exact h2p rfl) (.refl _)
 try simp only [go_sem, reduceAdd, reduceLeDiff, h2]
 have h2p := h2; simp only [bnf, dect] at h2p
 refine ⟨_, (same_ok B a.idn b.idn).run, ?_⟩
 try simp only [go_sem]
 refine ⟨fun h3 => At.mk ?_, fun h3 => At.mk ?_⟩
 rotate_left
 ·try simp only [go_sem, h3]
  have h3p := h3; simp only [bnt, decf] at h3p
  exact pure_ret (by rw [dec_f]; rintro rfl; exact h3p rfl) (.refl _)
 try simp only [go_sem, reduceAdd, reduceLeDiff, h3]
 have h3p := h3; simp only [bnf, dect] at h3p
 refine ⟨fun h4 => At.mk ?_, fun h4 => At.mk ?_⟩
 ·try simp only [go_sem, h4]
  have h4p := h4; simp only [bnt, decide_eq_false_iff_not] at h4p
  exact pure_ret (by rw [dec_f]; rintro rfl; exact h4p rfl) (.refl _)
 try simp only [go_sem, reduceAdd, reduceLeDiff, h4]
 have h4p := h4; simp only [bnf, decide_eq_true_eq] at h4p
 refine awp_for [0, 1, 68] (fun k _ => [(69, some (.int .i64 (k : Int)))]) (fun k _ H => H = H0 ∧ ∀ i, i < k → a.comp.getD i default = b.comp.getD i default) a.comp.length () ⟨rfl, by simp⟩ rfl ?_
 rintro k _ H hk ⟨rfl, hall⟩
 try simp only [go_sem]
 refine ⟨fun g1 => At.mk ?_, fun g1 => At.mk ?_⟩
 ·have g1p := g1; simp only [decide_eq_true_eq] at g1p
  have w1 := wsucc (k := k) (by omega)
  try simp only [go_sem, reduceAdd, reduceLeDiff]
  refine ⟨g1p, by omega, _, (same_ok ..).run, ?_⟩
  try simp only [go_sem]
  refine ⟨fun g2 => At.mk ?_, fun g2 => At.mk ?_⟩
  ·try simp only [go_sem]
   have g2p := g2; simp only [bnt, decf] at g2p
   exact pure_ret (by rw [dec_f]; rintro rfl; exact g2p rfl) (.refl _)
  ·try simp only [go_sem, w1]
   have g2p := g2; simp only [bnf, dect] at g2p
   exact for_next () g1p ⟨rfl, lt_succ_all hall g2p⟩ rfl
 ·try simp only [go_sem]
  have g1p := g1; simp only [decide_eq_false_iff_not, Nat.not_lt] at g1p
  refine pure_ret ?_ (.refl _)
  rw [dec_t]
  have e : a.comp = b.comp := by
   refine List.ext_getElem h4p fun i hi hj => ?_
   have := hall i (by omega)
   simpa [List.getD_eq_getElem?_getD, hi, hj] using this
  cases a; cases b; simp_all
end Go.Proofs.Shf
namespace Go.Proofs.Shf
open Go.AW Go.Proofs Go.Shf
end Go.Proofs.Shf
namespace Go.Proofs.Shf
open Go.AW Go.Proofs Go.Shf
end Go.Proofs.Shf
namespace Go.Proofs.Shf
open Go.AW Go.Proofs Go.Shf
end Go.Proofs.Shf
namespace Go.Proofs.Shf
open Go.AW Go.Proofs Go.Shf
theorem set_getD_selfT (A : List Int) (i : Nat) : A.set i (A.getD i default) = A := by
 apply List.ext_getElem?
 intro j
 by_cases e : i = j
 ·subst e
  by_cases h : i < A.length
  ·simp [List.getD_eq_getElem?_getD, h]
  ·rw [List.getElem?_eq_none (by simp; omega), List.getElem?_eq_none (by omega)]
 ·rw [List.getElem?_set_ne e]
theorem classes_ok (B : Nat) (l : List Int) (hl : l.length ≤ 100000) : Pur Tryz.prog B 282 [iL l] (iL (classL l)) := by
 refine ⟨fun H0 => c282p (by simp) fun _ => ?_⟩
 unfold s282p
 have o : Owns H0 H0 [] := .nil _
 try simp only [go_sem, reduceAdd]
 refine new_list iI o fun id3 H o => ?_
 try simp only [go_sem]
 refine new_list iI o fun id4 H o => ?_
 try simp only [go_sem]
 refine awp_for [0] (G := (Nat × List Int) × (Nat × List Int)) (fun k g => [(3, some (.buf g.1.1 g.1.2.length)), (4, some (.buf g.2.1 g.2.2.length)), (5, some (.int .i64 (k : Int)))])
  (fun k g H => (g.1.2 = classL (l.take k) ∧ g.2.2 = seenL (l.take k)) ∧ Owns H0 H [(g.2.1, .cells 1 (g.2.2.map iI) 0), (g.1.1, .cells 1 (g.1.2.map iI) 0)]) l.length ((id3, []), (id4, [])) ⟨⟨rfl, rfl⟩, o⟩ rfl ?_
 clear o
 rintro k ⟨⟨id3, out⟩, ⟨id4, seen⟩⟩ H hk ⟨⟨hout, hseen⟩, o⟩
 replace o : Owns H0 H [(id4, .cells 1 (seen.map iI) 0), (id3, .cells 1 (out.map iI) 0)] := o
 replace hout : out = classL (l.take k) := hout
 replace hseen : seen = seenL (l.take k) := hseen
 have hol : out.length = k := by rw [hout, classL_len, List.length_take]; omega
 have hsl : seen.length ≤ k := by rw [hseen]; exact Nat.le_trans (seenL_len _ _ rfl) (by rw [List.length_take]; omega)
 try simp only [go_sem]
 refine ⟨fun h1 => At.mk ?_, fun h1 => At.mk ?_⟩
 ·try simp only [go_sem]
  have h1p := h1; simp only [decide_eq_true_eq] at h1p
  have w1 := wsucc (k := k) (by omega)
  have hs1 := seenL_snoc (l.take k) (l.getD k default)
  have ho1 := classL_snoc (l.take k) (l.getD k default)
  rw [← take_one l h1p, ← hseen] at hs1
  rw [← take_one l h1p, ← hout] at ho1
  refine ⟨h1p, call_lent 0 rfl o rfl (.int _ _) (l01Index_ok ..).run ?_⟩
  have hb := indexOf_bd seen (l.getD k default)
  have hm := indexOf_mem seen (l.getD k default)
  try simp only [go_sem]
  refine ⟨fun h2 => At.mk ?_, fun h2 => At.mk ?_⟩
  ·try simp only [go_sem, reduceAdd]
   have h2p := h2; simp only [decide_eq_true_eq] at h2p
   have hni : l.getD k default ∉ seen := fun h => by have := hm.mpr h; omega
   rw [if_neg hni] at hs1
   rw [hs1, indexOf_newT hni] at ho1
   refine ⟨h1p, ?_⟩
   refine app_own (l.getD k default) o rfl rfl (by simp only [maxL]; omega) fun id4 H o => ?_
   try simp only [go_sem, reduceAdd]
   refine app_own ((seen.length : Nat) : Int) o.swap rfl rfl (by simp only [maxL]; omega) fun id3 H o => ?_
   try simp only [go_sem, w1]
   exact for_next ((_, _), (_, _)) (by omega) ⟨⟨ho1.symm, hs1.symm⟩, o.swap⟩ rfl
  ·try simp only [go_sem, reduceAdd]
   have h2p := h2; simp only [decide_eq_false_iff_not, Int.not_lt] at h2p
   have hi : l.getD k default ∈ seen := hm.mp (by omega)
   rw [if_pos hi] at hs1
   rw [hs1] at ho1
   refine app_own (indexOf seen (l.getD k default)) o.swap rfl rfl (by simp only [maxL]; omega) fun id3 H o => ?_
   try simp only [go_sem, w1]
   exact for_next ((_, _), (_, _)) (by omega) ⟨⟨ho1.symm, hs1.symm⟩, o.swap⟩ rfl
 ·try simp only [go_sem]
  have h1p := h1; simp only [decide_eq_false_iff_not, Nat.not_lt] at h1p
  obtain rfl : k = l.length := by omega
  refine fz_own o.swap rfl fun H o => ?_
  try simp only [go_sem]
  exact pure_ret (by rw [hout, List.take_length]) o.sub
theorem join_pok (B : Nat) (n : Nat) (hn : n ≤ 100000) (ps : List (List Int)) (hp : ∀ q, q ∈ ps → 2 ≤ q.length ∧ (0 ≤ q.getD 0 default ∧ (q.getD 0 default).toNat < n) ∧ (0 ≤ q.getD 1 default ∧ (q.getD 1 default).toNat < n)) :
  Pur Tryz.prog B 197 [iI n, iLL ps] (iL (joinL n ps)) := by
 refine ⟨fun H0 => c197p (by simp) fun ⟨_, hf, _⟩ => ?_⟩
 have hl := fine_mL_le hf
 simp only [maxL] at hl
 unfold s197p
 have o : Owns H0 H0 [] := .nil _
 try simp only [go_sem, reduceAdd]
 refine new_list iI o fun id H o => ?_
 try simp only [go_sem]
 refine awp_for [0, 1] (G := Nat × List Int) (fun k g => [(5, some (.buf g.1 g.2.length)), (6, some (.int .i64 (k : Int)))]) (fun k g H => g.2 = (List.range k).map Int.ofNat ∧ Owns H0 H [(g.1, .cells 1 (g.2.map iI) 0)]) n (id, []) ⟨rfl, o⟩ rfl ?_
 clear o
 rintro k ⟨id, A⟩ H hk ⟨hA, o⟩
 replace hA : A = (List.range k).map Int.ofNat := hA
 replace o : Owns H0 H [(id, .cells 1 (A.map iI) 0)] := o
 have hAl : A.length = k := by rw [hA]; simp
 try simp only [go_sem]
 refine ⟨fun h1 => At.mk ?_, fun h1 => At.mk ?_⟩
 ·try simp only [go_sem, reduceAdd]
  have h1p := h1; simp only [decide_eq_true_eq] at h1p
  have w1 := wsucc (k := k) (by omega)
  refine app_own (k : Int) o rfl rfl (by simp only [maxL]; omega) fun id H o => ?_
  try simp only [go_sem, w1]
  exact for_next (_, _) (by omega) ⟨by rw [hA, List.range_succ]; simp, o⟩ rfl
 ·try simp only [go_sem]
  have h1p := h1; simp only [decide_eq_false_iff_not, Nat.not_lt] at h1p
  obtain rfl : k = n := by omega
  refine awp_for [1, 5] (fun q _ => [(7, some (.int .i64 (q : Int)))]) (fun q A H => A = labs k (ps.take q) ∧ Owns H0 H [(id, .cells 1 (A.map iI) 0)]) ps.length A ⟨hA, o⟩ rfl ?_
  clear o
  rintro q A2 H hq ⟨hA2, o⟩
  have hl2 : A2.length = k := by rw [hA2, labs_len]
  try simp only [go_sem]
  refine ⟨fun h2 => At.mk ?_, fun h2 => At.mk ?_⟩
  ·try simp only [go_sem]
   have h2p := h2; simp only [decide_eq_true_eq] at h2p
   have w2 := wsucc (k := q) (by omega)
   have hqq := hp _ (mem_getD.mpr ⟨q, h2p, rfl⟩)
   have e0 : ix (ps.getD q default) 0 = (ps.getD q default).getD 0 default := rfl
   have e1 : ix (ps.getD q default) 1 = (ps.getD q default).getD 1 default := rfl
   have hstep := labs_succ k ps h2p
   rw [← hA2, e0, e1] at hstep
   refine ⟨h2p, ⟨by omega, Nat.lt_of_lt_of_le (by decide) hqq.1⟩, ⟨by rw [e0]; omega, by rw [e0]; omega⟩, rd_own o (by rw [e0]; omega) ?_⟩
   try simp only [go_sem]
   refine ⟨h2p, ⟨by omega, Nat.lt_of_lt_of_le (by decide) hqq.1⟩, ⟨by rw [e1]; omega, by rw [e1]; omega⟩, rd_own o (by rw [e1]; omega) ?_⟩
   try simp only [go_sem]
   rw [e0, e1]
   have ea : A2.getD ((ps.getD q default).getD 0 default).toNat default = ix A2 ((ps.getD q default).getD 0 default) := rfl
   have eb : A2.getD ((ps.getD q default).getD 1 default).toNat default = ix A2 ((ps.getD q default).getD 1 default) := rfl
   rw [ea, eb]
   generalize ix A2 ((ps.getD q default).getD 0 default) = va at hstep ⊢
   generalize ix A2 ((ps.getD q default).getD 1 default) = vb at hstep ⊢
   refine awp_for [1, 5, 7, 8, 9] (fun i _ => [(10, some (.int .i64 (i : Int)))]) (fun i A H => A = relabTo A2 va vb i ∧ Owns H0 H [(id, .cells 1 (A.map iI) 0)]) k A2 ⟨(relabTo_zero _ _ _).symm, o⟩ rfl ?_
   clear o
   rintro i A3 H hi ⟨hA3, o⟩
   have hl3 : A3.length = k := by rw [hA3, relabTo_len _ _ _ (by omega)]; exact hl2
   rw [hAl]
   try simp only [go_sem]
   refine ⟨fun h3 => At.mk ?_, fun h3 => At.mk ?_⟩
   ·try simp only [go_sem, h3]
    have h3p := h3; simp only [decide_eq_true_eq] at h3p
    have w3 := wsucc (k := i) (by omega)
    have hg := relabTo_get A2 va vb (i := i) (by omega)
    have hs := relabTo_succ A2 va vb (i := i) (by omega)
    rw [← hA3] at hg hs
    refine ⟨fun h4 => At.mk ?_, fun h4 => At.mk ?_⟩
    ·try simp only [go_sem]
     have h4p := h4; simp only [bnt, decide_eq_false_iff_not] at h4p
     refine ⟨h3p, rd_own o (by omega) ?_⟩
     try simp only [go_sem]
     refine ⟨fun h5 => At.mk ?_, fun h5 => At.mk ?_⟩
     ·try simp only [go_sem]
      have h5p := h5; simp only [decide_eq_true_eq] at h5p
      refine ⟨h3p, set_own _ o rfl (by omega) fun H o => ?_⟩
      try simp only [go_sem, w3]
      exact for_next _ (by omega) ⟨by rw [hs, if_pos (by rw [← hg]; exact h5p)], o⟩ rfl
     ·try simp only [go_sem, w3]
      have h5p := h5; simp only [decide_eq_false_iff_not] at h5p
      refine for_next A3 (by omega) ⟨?_, o⟩ rfl
      rw [hs, if_neg (by rw [← hg]; exact h5p), ← hg, set_getD_selfT]
    ·try simp only [go_sem, w2]
     have h4p := h4; simp only [bnf, decide_eq_true_eq] at h4p
     refine for_next A3 (by omega) ⟨?_, o⟩ rfl
     subst h4p
     have : ∀ i, relabTo A2 va va i = A2 := fun i => by rw [relabTo, relab_same, List.take_append_drop]
     rw [hA3, this, hstep, relab_same]
   ·try simp only [go_sem, h3, w2]
    have h3p := h3; simp only [decide_eq_false_iff_not, Nat.not_lt] at h3p
    refine for_next A3 (by omega) ⟨?_, o⟩ rfl
    have hik : i = A2.length := by omega
    rw [hA3, hik, relabTo_all, hstep]
  ·try simp only [go_sem]
   have h2p := h2; simp only [decide_eq_false_iff_not, Nat.not_lt] at h2p
   obtain rfl : q = ps.length := by omega
   rw [List.take_length] at hA2
   rw [hAl]
   refine fz_own o hl2.symm fun H o => ?_
   try simp only [go_sem]
   refine (classes_ok B A2 (by omega)).go fun _ => ?_
   try simp only [go_sem]
   exact pure_ret (by rw [joinL, hA2]) o.sub
theorem l01Pairs_own (B : Nat) (p : List Int) (H0 H : Heap) (l : List (Nat × MObj)) (o : Owns H0 H l) : CallH Tryz.prog B 240 [iL p] H (OwnK iL H0 l (· = pairsOf p)) := by
 refine c240p (by simp) fun ⟨hf, _⟩ => ?_
 have hl := fine_mL_le hf
 simp only [maxL] at hl
 unfold s240p
 try simp only [go_sem, reduceAdd]
 refine new_list iL o fun id H o => ?_
 try simp only [go_sem]
 refine awp_for [0] (G := Nat × List (List Int)) (fun k g => [(3, some (.buf g.1 g.2.length)), (4, some (.int .i64 (k : Int)))])
  (fun k g H => g.2 = (List.range k).map (fun i : Nat => [indexOf p (p.getD i default), (i : Int)]) ∧ Owns H0 H ((g.1, .cells 1 (g.2.map iL) 0) :: l)) p.length (id, []) ⟨rfl, o⟩ rfl ?_
 clear o
 rintro k ⟨id, out⟩ H hk ⟨hout, o⟩
 replace hout : out = (List.range k).map (fun i : Nat => [indexOf p (p.getD i default), (i : Int)]) := hout
 replace o : Owns H0 H ((id, .cells 1 (out.map iL) 0) :: l) := o
 have hol : out.length = k := by rw [hout]; simp
 try simp only [go_sem]
 refine ⟨fun h1 => At.mk ?_, fun h1 => At.mk ?_⟩
 ·try simp only [go_sem]
  have h1p := h1; simp only [decide_eq_true_eq] at h1p
  have w1 := wsucc (k := k) (by omega)
  refine ⟨h1p, (l01Index_ok ..).go fun _ => ?_⟩
  try simp only [go_sem, reduceAdd]
  refine app_own [indexOf p (p.getD k default), (k : Int)] o rfl rfl (by simp only [maxL]; omega) fun id H o => ?_
  try simp only [go_sem, w1]
  exact for_next (_, _) (by omega) ⟨by rw [hout, List.range_succ]; simp, o⟩ rfl
 ·try simp only [go_sem]
  have h1p := h1; simp only [decide_eq_false_iff_not, Nat.not_lt] at h1p
  obtain rfl : k = p.length := by omega
  exact own_ret o rfl (by rw [hout]; rfl)
end Go.Proofs.Shf
namespace Go.Proofs.Shf
open Go.AW Go.Proofs Go.Shf
@[go_sem] def taskCells (sizes : List Int) (ls : List Lk) (at' : List (List Int)) (most : Nat) (X : AV) : List AV := [iL sizes, mL lkE ls, iLL at', .int .i64 most, X]
end Go.Proofs.Shf
namespace Go.Proofs.Shf
open Go.AW Go.Proofs Go.Shf
end Go.Proofs.Shf
