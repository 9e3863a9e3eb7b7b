/- Contracts, part 5. -/
import Derived.Test.YtadpkiiglobmpaaGreatF4
set_option linter.unusedVariables false
set_option linter.unusedSimpArgs false
set_option linter.unusedSectionVars false
open Nat (reduceEqDiff reduceAdd reduceMul reduceLeDiff reduceLT)
namespace Go.Shf
open Go.AW
structure Cov where
 shape : Cat
 sizes : List Int
 pulls : List (List Int)
 sieves : List (List (List Int))
 marks : List (List Bool)
@[go_sem] def Cov.cls (v : Cov) : List AV := [iI v.shape.objs, iL v.shape.frm, iL v.shape.to, iL v.shape.idn, iLL v.shape.comp, iL v.sizes, iLL v.pulls, iLLL v.sieves]
@[go_sem] def Cov.cells (v : Cov) (cnt : AV) : List AV := [.ptr v.cls, .ptr v.shape.cells, mL (mL AV.bool) v.marks, cnt]
end Go.Shf
namespace Go.Proofs.Shf
open Go.AW Go.Proofs Go.Shf
end Go.Proofs.Shf
namespace Go.Shf
open Go.AW
end Go.Shf
namespace Go.AW
end Go.AW
namespace Go.Shf
open Go.AW
def plE (L : List (List Int)) : AV := .imap (plS L L.length).1 (plS L L.length).2
instance : One plE := ⟨fun _ => rfl, fun _ => rfl⟩
end Go.Shf
namespace Go.Proofs.Shf
open Go.AW Go.Proofs Go.Shf
@[go_sem] noncomputable def stepVal (f : SF) (V : List (List Int)) : AV := .ptr [.ptr f.cells, iI f.shape.objs, iL f.shape.frm, iL f.shape.to, iL f.shape.idn, iLL f.shape.comp, iL (stepSizes f V), iLL (stepActs f V), iLL V, iLLL (famsOf f V), mL plE (famsOf f V)]
end Go.Proofs.Shf
namespace Go.Shf
open Go.AW
end Go.Shf
namespace Go.Proofs.Shf
open Go.AW Go.Proofs Go.Shf
abbrev z7 : List AV := [.int .i64 0, .nilsl, .nilsl, .nilsl, .nilsl, .nilsl, .nilsl]
end Go.Proofs.Shf
namespace Go.Proofs.Shf
open Go.AW Go.Proofs Go.Shf
end Go.Proofs.Shf
namespace Go.Proofs.Shf
open Go.AW Go.Proofs Go.Shf
end Go.Proofs.Shf
namespace Go.AW
@[go_sem] theorem cells_emsl : AV.emsl.cells = [.emsl] := rfl
@[go_sem] theorem one_emsl : AV.emsl.one = true := rfl
@[go_sem] theorem le_maxL3 : (3 ≤ maxL) = True := by simp [maxL]
@[go_sem] theorem le_maxL4 : (4 ≤ maxL) = True := by simp [maxL]
@[go_sem] theorem le_maxL5 : (5 ≤ maxL) = True := by simp [maxL]
theorem permC {l r : Ob} (h : ∀ x, @List.count _ (@instBEqOfDecidableEq _ (Classical.typeDecidableEq _)) x l = @List.count _ (@instBEqOfDecidableEq _ (Classical.typeDecidableEq _)) x r) : l.Perm r := by
 letI : DecidableEq (Nat × MObj) := Classical.typeDecidableEq _
 exact List.perm_iff_count.mpr h
def EmP {α : Type} (f : α → AV) (p : List (Nat × MObj)) (X : AV) (A : List α) : Prop :=
 (p = [] ∧ X = .emsl ∧ A = []) ∨ ∃ id, p = [(id, .cells 1 (A.map f) 0)] ∧ X = .buf id A.length
theorem EmP.o {α : Type} {f : α → AV} {H0 H : Heap} {l p : List (Nat × MObj)} {X : AV} {A : List α} (h : EmP f p X A) (o : Owns H0 H (p ++ l)) : EmO f H0 H l X A := by
 rcases h with ⟨rfl, h1, h2⟩ | ⟨id, rfl, h1⟩
 ·exact .inl ⟨h1, h2, o⟩
 ·exact .inr ⟨id, h1, o⟩
theorem wk_emc {F : Env → Heap → Prop} {σ : Env} {H0 H : Heap} {l : List (Nat × MObj)} {id sz fr : Nat} {cs : List AV} (k : Nat)
  (o : Owns H0 H ((id, .cells sz cs fr) :: l)) (hc : cs[k]? = some .emsl) (hk : ∀ H', Owns H0 H' ((id, .cells sz (cs.set k (.sl [])) fr) :: l) → wkW F σ H') : wkW F σ H := by
 have h1 := o.h0
 simp only at h1
 refine wkW_step (σ1 := σ) ?_ (hk _ (o.put (.cells sz (cs.set k (.sl [])) fr)))
 intro g B w tm hW hE
 refine ⟨g, .refl g, hW.recell h1 (by simp) fun j v hj hv => ?_, hE⟩
 by_cases e : j = k
 ·subst e
  have e1 : cs.getD j nv = .emsl := by rw [List.getD_eq_getElem?_getD, hc]; rfl
  have e2 : (cs.set j (.sl [])).getD j nv = .sl [] := by simp [List.getD_eq_getElem?_getD, hj]
  rw [e1] at hv; rw [e2]
  cases hv; exact .slnil _ 0
 ·have e2 : (cs.set k (.sl [])).getD j nv = cs.getD j nv := by
   rw [List.getD_eq_getElem?_getD, List.getElem?_set_ne (by omega), ← List.getD_eq_getElem?_getD]
  rw [e2]; exact hv
theorem wk_em {α : Type} [Inhabited α] {f : α → AV} [One f] {F : Env → Heap → Prop} {σ : Env} {H0 H : Heap} {l p : List (Nat × MObj)} {id sz fr : Nat} {cs : List AV} {X : AV} {A : List α} (k : Nat)
  (h : EmP f p X A) (o : Owns H0 H (p ++ ((id, .cells sz cs fr) :: l))) (hc : cs[k]? = some X)
  (hk : ∀ H', Owns H0 H' ((id, .cells sz (cs.set k (mL f A)) fr) :: l) → wkW F σ H') : wkW F σ H := by
 rcases h with ⟨rfl, rfl, rfl⟩ | ⟨id2, rfl, rfl⟩
 ·exact wk_emc k o hc hk
 ·exact wk_cell k o.swap hc rfl hk
end Go.AW
namespace Go.Shf
open Go.AW
structure Cat.Sh (N : Nat) (c : Cat) : Prop where
 ob : 0 ≤ c.objs ∧ c.objs ≤ N
 il : (c.idn.length : Int) = c.objs
 ml : c.frm.length ≤ N
 tl : c.to.length = c.frm.length
 cl : c.comp.length = c.frm.length
 row : ∀ f : Nat, f < c.frm.length → (c.comp.getD f default).length = c.frm.length
theorem Cat.Sh.mono {N M : Nat} {c : Cat} (h : c.Sh N) (hm : N ≤ M) : c.Sh M := ⟨by have := h.ob; omega, h.il, by have := h.ml; omega, h.tl, h.cl, h.row⟩
def CatQ (N : Nat) (r : AV) : Prop := ∃ c : Cat, r = .agg c.cells ∧ c.Sh N
def SqT (n : Nat) (T : List (List Int)) : Prop := T.length ≤ n ∧ ∀ i, i < T.length → (T.getD i default).length = T.length
def SqQ (n : Nat) (r : AV) : Prop := ∃ T : List (List Int), r = iLL T ∧ SqT n T
end Go.Shf
namespace Go.Proofs.Shf
open Go.AW Go.Proofs Go.Shf
theorem l02Monoid_ok (B : Nat) : Rd B 350 [] (SqQ 4) := by
 intro id s H0 H hs o
 refine c350 (by simp) fun hf => ?_
 unfold s350
 try simp only [go_sem, reduceAdd]
 refine (l01Next_ok B 8).go hs o fun r s' H hr ⟨k, e, h0, h1, _⟩ hs o => ?_
 subst e
 try simp only [go_sem]
 refine ⟨fun q0 => At.mk ?_, fun q0 => At.mk ?_⟩
 ·try simp only [go_sem, reduceAdd]
  exact src_ret ⟨[[0]], rfl, by decide, by decide⟩ hs o
 try simp only [go_sem]
 refine ⟨fun q1 => At.mk ?_, fun q1 => At.mk ?_⟩
 ·try simp only [go_sem, reduceAdd]
  exact src_ret ⟨[[0, 1], [1, 0]], rfl, by decide, by decide⟩ hs o
 try simp only [go_sem]
 refine ⟨fun q2 => At.mk ?_, fun q2 => At.mk ?_⟩
 ·try simp only [go_sem, reduceAdd]
  exact src_ret ⟨[[0, 1], [1, 1]], rfl, by decide, by decide⟩ hs o
 try simp only [go_sem]
 refine ⟨fun q3 => At.mk ?_, fun q3 => At.mk ?_⟩
 ·try simp only [go_sem, reduceAdd]
  exact src_ret ⟨[[0, 1, 2], [1, 2, 0], [2, 0, 1]], rfl, by decide, by decide⟩ hs o
 try simp only [go_sem]
 refine ⟨fun q4 => At.mk ?_, fun q4 => At.mk ?_⟩
 ·try simp only [go_sem, reduceAdd]
  exact src_ret ⟨[[0, 1, 2], [1, 1, 2], [2, 2, 2]], rfl, by decide, by decide⟩ hs o
 try simp only [go_sem]
 refine ⟨fun q5 => At.mk ?_, fun q5 => At.mk ?_⟩
 ·try simp only [go_sem, reduceAdd]
  exact src_ret ⟨[[0, 1, 2], [1, 1, 2], [2, 1, 2]], rfl, by decide, by decide⟩ hs o
 try simp only [go_sem]
 refine ⟨fun q6 => At.mk ?_, fun q6 => At.mk ?_⟩
 ·try simp only [go_sem, reduceAdd]
  exact src_ret ⟨[[0, 1, 2, 3], [1, 0, 2, 3], [2, 3, 2, 3], [3, 2, 2, 3]], rfl, by decide, by decide⟩ hs o
 try simp only [go_sem, reduceAdd]
 exact src_ret ⟨[[0, 1, 2], [1, 2, 2], [2, 2, 2]], rfl, by decide, by decide⟩ hs o
theorem l02Split_ok (B : Nat) : Rets B 351 [] (CatQ 6) := by
 intro H0
 refine c351 (by simp) fun hf => ?_
 unfold s351
 try simp only [go_sem, reduceAdd]
 refine fun i1 n1 => ?_
 try simp only [go_sem, ↓reduceIte, reduceAdd, reduceLeDiff]
 refine rets_ret ⟨⟨2, [0, 1, 0, 0, 1], [0, 1, 0, 1, 0], [0, 1], [[0, -1, 2, 3, -1], [-1, 1, -1, -1, 4], [2, -1, 2, 3, -1], [-1, 3, -1, -1, 2], [4, -1, 4, 1, -1]]⟩, rfl, by decide, by decide, by decide, by decide, by decide, by decide⟩ ?_
 repeat (first | exact .refl _ | refine sub_set ?_ n1)
theorem l02Fits_ok (B : Nat) (c : Cat) : Pur Tryz.prog B 316 [.agg c.cells] (.bool (dec (c.objs ≤ 8 ∧ c.frm.length ≤ 40))) := by
 refine ⟨fun H0 => c316 (by simp) fun hf => ?_⟩
 unfold s316
 try simp only [go_sem, reduceAdd, reduceLeDiff]
 refine ⟨fun h1 => At.mk ?_, fun h1 => At.mk ?_⟩
 ·try simp only [go_sem, reduceAdd, reduceLeDiff, h1]
  exact pure_ret (by
   have h1p := of_decide h1
   congr 1
   rw [decide_dec]
   exact dec_congr ⟨fun h => ⟨h1p, by omega⟩, fun h => by have := h.2; omega⟩) (.refl _)
 ·try simp only [go_sem, h1]
  exact pure_ret (by rw [dec_f (fun h => of_ndecide h1 h.1)]) (.refl _)
theorem l03Monoid_ok (B : Nat) (T : List (List Int)) (hT : SqT 4 T) : Rets B 349 [iLL T] (CatQ 4) := by
 intro H0
 refine c349p (by simp) fun hf => ?_
 unfold s349p
 try simp only [go_sem, reduceAdd]
 refine newRef_own (.nil _) fun id H o => ?_
 try simp only [go_sem, reduceAdd]
 refine ⟨_, (l01Own2_ok ..).run, ?_⟩
 have hT4 := hT.1
 have hc : (T.length : Int) ≤ T.length ∧ T.length ≤ maxL ∧ T.length ≤ maxL := ⟨by omega, by simp only [maxL]; omega, by simp only [maxL]; omega⟩
 refine ⟨?_, ?_⟩
 ·refine ⟨hc, mks_list iI 0 rfl o fun i7 H o => ?_⟩
  try simp only [go_sem]
  refine ⟨hc, mks_list iI 0 rfl o fun i9 H o => ?_⟩
  try simp only [go_sem, reduceAdd, reduceLeDiff]
  have o := o.pull [_, _]
  simp only [List.cons_append, List.nil_append] at o
  refine stc o fun H o => ?_
  simp only [wr_cons, wr_nil, List.set_cons_zero, List.set_cons_succ] at o
  try simp only [go_sem]
  refine wk_cell 2 o rfl (by simp) fun H o => ?_
  simp only [List.set_cons_zero, List.set_cons_succ] at o
  refine wk_cell 1 o rfl (by simp) fun H o => wkW_done ?_
  simp only [List.set_cons_zero, List.set_cons_succ] at o
  try simp only [go_sem]
  have hr := o.rc 5 0 (by simp)
  simp only [List.drop_zero] at hr
  rw [hr]
  try simp only [go_sem]
  exact rets_ret ⟨⟨1, List.replicate T.length 0, List.replicate T.length 0, [0], T⟩, rfl, by simp, by simp, by simpa using hT4, by simp, by simp, fun f hf => by simpa using hT.2 f (by simpa using hf)⟩ o.sub
 ·refine ⟨hc, mks_list iI 0 rfl o fun i9 H o => ?_⟩
  try simp only [go_sem]
  refine ⟨hc, mks_list iI 0 rfl o fun i7 H o => ?_⟩
  try simp only [go_sem, reduceAdd, reduceLeDiff]
  have o := o.pull [_, _]
  simp only [List.cons_append, List.nil_append] at o
  refine stc o fun H o => ?_
  simp only [wr_cons, wr_nil, List.set_cons_zero, List.set_cons_succ] at o
  try simp only [go_sem]
  refine wk_cell 1 o rfl (by simp) fun H o => ?_
  simp only [List.set_cons_zero, List.set_cons_succ] at o
  refine wk_cell 2 o rfl (by simp) fun H o => wkW_done ?_
  simp only [List.set_cons_zero, List.set_cons_succ] at o
  try simp only [go_sem]
  have hr := o.rc 5 0 (by simp)
  simp only [List.drop_zero] at hr
  rw [hr]
  try simp only [go_sem]
  exact rets_ret ⟨⟨1, List.replicate T.length 0, List.replicate T.length 0, [0], T⟩, rfl, by simp, by simp, by simpa using hT4, by simp, by simp, fun f hf => by simpa using hT.2 f (by simpa using hf)⟩ o.sub
theorem l03Op_ok (B : Nat) (N : Nat) (hN : N ≤ 4096) (c : Cat) (hc : c.Sh N) : Rets B 352 [.agg c.cells] (CatQ N) := by
 intro H0
 refine c352p (by simp) fun hf => ?_
 have hob := hc.ob
 have hml := hc.ml
 have htl := hc.tl
 have hcl := hc.cl
 have hrow := hc.row
 unfold s352p
 try simp only [go_sem, reduceAdd]
 refine newRef_own (.nil _) fun id2 H o => ?_
 try simp only [go_sem, reduceAdd, reduceLeDiff]
 refine ⟨_, (l01Own_ok ..).run, ?_⟩
 try simp only [go_sem, reduceAdd, reduceLeDiff]
 refine ⟨_, (l01Own_ok ..).run, ?_⟩
 try simp only [go_sem, reduceAdd, reduceLeDiff]
 refine ⟨_, (l01Own_ok ..).run, ?_⟩
 try simp only [go_sem, reduceAdd, reduceLeDiff]
 refine newRef_own o fun id3 H o => ?_
 try simp only [go_sem]
 refine stc o fun H o => ?_
 simp only [wr_cons, wr_nil, List.set_cons_zero, List.set_cons_succ] at o
 try simp only [go_sem]
 refine awp_for [1, 2, 3] (G := AV × Ob × List (List Int)) (fun k _ => [(4, some (.int .i64 (k : Int)))])
  (fun k g H => EmP iL g.2.1 g.1 g.2.2 ∧ g.2.2.length = k ∧ (∀ r, r ∈ g.2.2 → r.length = c.frm.length) ∧ Owns H0 H (g.2.1 ++ [(id3, MObj.cells 5 [iI c.objs, iL c.to, iL c.frm, iL c.idn, g.1] 0), (id2, MObj.cells 5 [iI 0, .nilsl, .nilsl, .nilsl, .nilsl] 0)])) c.frm.length (.emsl, [], [])
  ⟨.inl ⟨rfl, rfl, rfl⟩, rfl, by simp, o⟩ rfl ?_
 clear o
 rintro k ⟨X, p, A⟩ H hk ⟨hX, hA, hr, o⟩
 replace hX : EmP iL p X A := hX
 replace hA : A.length = k := hA
 replace hr : ∀ r, r ∈ A → r.length = c.frm.length := hr
 replace o : Owns H0 H (p ++ [(id3, MObj.cells 5 [iI c.objs, iL c.to, iL c.frm, iL c.idn, X] 0), (id2, MObj.cells 5 [iI 0, .nilsl, .nilsl, .nilsl, .nilsl] 0)]) := o
 try simp only [go_sem, reduceAdd, reduceLeDiff]
 refine ⟨fun h1 => At.mk ?_, fun h1 => At.mk ?_⟩
 ·have h1p := of_decide h1
  try simp only [go_sem]
  refine newBuf_own o fun idr H o => ?_
  try simp only [go_sem]
  refine awp_for [1, 2, 3, 4] (G := Nat × List Int) (fun j g => [(5, some (.buf g.1 g.2.length)), (6, some (.int .i64 (j : Int)))])
   (fun j g H => g.2.length = j ∧ Owns H0 H ((g.1, .cells 1 (g.2.map iI) 0) :: (p ++ [(id3, MObj.cells 5 [iI c.objs, iL c.to, iL c.frm, iL c.idn, X] 0), (id2, MObj.cells 5 [iI 0, .nilsl, .nilsl, .nilsl, .nilsl] 0)]))) c.frm.length (idr, []) ⟨rfl, o⟩ rfl ?_
  clear o
  rintro j ⟨idr, row⟩ H hj ⟨hrl, o⟩
  replace hrl : row.length = j := hrl
  replace o : Owns H0 H ((idr, .cells 1 (row.map iI) 0) :: (p ++ [(id3, MObj.cells 5 [iI c.objs, iL c.to, iL c.frm, iL c.idn, X] 0), (id2, MObj.cells 5 [iI 0, .nilsl, .nilsl, .nilsl, .nilsl] 0)])) := o
  try simp only [go_sem, reduceAdd, reduceLeDiff]
  refine ⟨fun h2 => At.mk ?_, fun h2 => At.mk ?_⟩
  ·have h2p := of_decide h2
   have w := wsucc (k := j) (by omega)
   have hrj := hrow j h2p
   try simp only [go_sem, reduceAdd, reduceLeDiff]
   refine ⟨by omega, by omega, ?_⟩
   refine app_own _ o rfl rfl (by simp only [maxL]; omega) fun idr H o => ?_
   try simp only [go_sem, w]
   exact for_next (idr, _) h2p ⟨by simp [hrl], o⟩ rfl
  ·have h2p := of_ndecide h2
   try simp only [go_sem]
   refine fz_own o rfl fun H o => ?_
   try simp only [go_sem, reduceAdd]
   refine rd_get (o.get (id3, MObj.cells 5 [iI c.objs, iL c.to, iL c.frm, iL c.idn, X] 0) (by simp)) (by simp) ?_
   try simp only [go_sem, reduceAdd]
   refine (hX.o o).app row rfl (by simp only [maxL]; omega) fun id' H o => ?_
   try simp only [go_sem, reduceAdd]
   refine stc o.swap fun H o => ?_
   simp only [wr_cons, wr_nil, List.set_cons_zero, List.set_cons_succ] at o
   have w := wsucc (k := k) (by omega)
   try simp only [go_sem, w]
   exact for_next (_, [(id', .cells 1 ((A ++ [row]).map iL) 0)], A ++ [row]) h1p ⟨.inr ⟨id', rfl, rfl⟩, by simp [hA], by
    intro r hr'
    rcases List.mem_append.mp hr' with h | h
    ·exact hr r h
    ·rw [List.mem_singleton] at h; subst h; omega, o.swap⟩ rfl
 ·have h1p := of_ndecide h1
  try simp only [go_sem]
  refine wk_em 4 hX o rfl fun H o => wkW_done ?_
  simp only [List.set_cons_zero, List.set_cons_succ] at o
  try simp only [go_sem]
  refine rd_celln o (by simp) ?_
  try simp only [go_sem]
  refine stc o.swap fun H o => ?_
  simp only [wr_cons, wr_nil, List.set_cons_zero, List.set_cons_succ] at o
  try simp only [go_sem]
  have hr2 := o.rc 5 0 (by simp)
  simp only [List.drop_zero] at hr2
  rw [hr2]
  try simp only [go_sem]
  exact rets_ret ⟨⟨c.objs, c.to, c.frm, c.idn, A⟩, rfl, hob, hc.il, by show c.to.length ≤ N; omega, by show c.frm.length = c.to.length; omega, by show A.length = c.to.length; omega, fun f hf => by
   show (A.getD f default).length = c.to.length
   rw [hr _ (mem_getD.mpr ⟨f, by have : f < c.to.length := hf; omega, rfl⟩)]; omega⟩ o.sub
end Go.Proofs.Shf
namespace Go.Proofs.Shf
open Go.AW Go.Proofs Go.Shf
theorem l03Poset_ok (B : Nat) (R : List (List Int)) (hR : SqT 4 R) : Rets B 77 [iLL R] (CatQ 16) := by
 intro H0
 refine c77p (by simp) fun hf => ?_
 obtain ⟨hR4, hrow⟩ := hR
 unfold s77p
 try simp only [go_sem, reduceAdd]
 refine newRef_own (.nil _) fun id2 H o => ?_
 try simp only [go_sem]
 refine newBuf_own o fun idN H o => ?_
 try simp only [go_sem]
 refine newBuf_own o fun a H o => ?_
 try simp only [go_sem]
 refine newBuf_own o fun b H o => ?_
 try simp only [go_sem]
 refine newBuf_own o fun i H o => ?_
 try simp only [go_sem]
 refine newBuf_own o fun d H o => ?_
 try simp only [go_sem, reduceAdd, reduceLeDiff]
 refine newRef_own o fun id5 H o => ?_
 try simp only [go_sem]
 refine stc o fun H o => ?_
 simp only [wr_cons, wr_nil, List.set_cons_zero, List.set_cons_succ] at o
 try simp only [go_sem]
 generalize hn : R.length = n at *
 refine awp_for [0, 2, 3, 5] (G := (Nat × List Int) × (Nat × List Int) × (Nat × List (List Int))) (fun k g => [(4, some (.buf g.2.2.1 g.2.2.2.length)), (6, some (.int .i64 (k : Int)))])
  (fun k g H => g.2.1.2.length = g.1.2.length ∧ g.1.2.length ≤ k * n ∧ (∀ y, y ∈ g.1.2 → 0 ≤ y ∧ y < n) ∧ (∀ y, y ∈ g.2.1.2 → 0 ≤ y ∧ y < n) ∧ g.2.2.2.length = k ∧ (∀ r, r ∈ g.2.2.2 → r.length = n) ∧
   Owns H0 H [(id5, MObj.cells 5 [iI n, .buf g.1.1 g.1.2.length, .buf g.2.1.1 g.2.1.2.length, .buf i 0, .buf d 0] 0), (g.1.1, MObj.cells 1 (g.1.2.map iI) 0), (g.2.1.1, MObj.cells 1 (g.2.1.2.map iI) 0), (g.2.2.1, MObj.cells 1 (g.2.2.2.map iL) 0),
    (i, MObj.cells 1 [] 0), (d, MObj.cells 1 [] 0), (id2, MObj.cells 5 [iI 0, .nilsl, .nilsl, .nilsl, .nilsl] 0)]) n ((a, []), (b, []), (idN, []))
  ⟨rfl, by simp, by simp, by simp, rfl, by simp, o.perm (permC fun x => by (try dsimp only); simp only [List.append_eq, List.count_append, List.count_cons, List.count_nil, List.map_nil, List.length_nil, List.length_append, List.length_cons, List.length_set, Nat.zero_add, List.nil_append, iI, iL]; omega)⟩ rfl ?_
 clear o
 rintro k ⟨⟨a, A⟩, ⟨b, C⟩, ⟨idN, rows⟩⟩ H hk ⟨hC, hA, hAr, hCr, hrl, hrr, o⟩
 replace hC : C.length = A.length := hC
 replace hA : A.length ≤ k * n := hA
 replace hAr : ∀ y, y ∈ A → 0 ≤ y ∧ y < (n : Int) := hAr
 replace hCr : ∀ y, y ∈ C → 0 ≤ y ∧ y < (n : Int) := hCr
 replace hrl : rows.length = k := hrl
 replace hrr : ∀ r, r ∈ rows → r.length = n := hrr
 replace o : Owns H0 H [(id5, MObj.cells 5 [iI n, .buf a A.length, .buf b C.length, .buf i 0, .buf d 0] 0), (a, MObj.cells 1 (A.map iI) 0), (b, MObj.cells 1 (C.map iI) 0), (idN, MObj.cells 1 (rows.map iL) 0),
    (i, MObj.cells 1 [] 0), (d, MObj.cells 1 [] 0), (id2, MObj.cells 5 [iI 0, .nilsl, .nilsl, .nilsl, .nilsl] 0)] := o
 try simp only [go_sem]
 refine ⟨fun h1 => At.mk ?_, fun h1 => At.mk ?_⟩
 ·have h1p := of_decide h1
  try simp only [go_sem]
  refine newBuf_own o fun idr H o => ?_
  try simp only [go_sem]
  have hkn : k * n + n ≤ 16 := by
   have : (k + 1) * n ≤ 4 * 4 := Nat.mul_le_mul (by omega) (by omega)
   rw [Nat.succ_mul] at this; omega
  refine awp_for [0, 2, 3, 4, 5, 6] (G := (Nat × List Int) × (Nat × List Int) × (Nat × List Int)) (fun j g => [(7, some (.buf g.1.1 g.1.2.length)), (8, some (.int .i64 (j : Int)))])
   (fun j g H => g.1.2.length = j ∧ g.2.2.2.length = g.2.1.2.length ∧ g.2.1.2.length ≤ k * n + j ∧ (∀ y, y ∈ g.2.1.2 → 0 ≤ y ∧ y < n) ∧ (∀ y, y ∈ g.2.2.2 → 0 ≤ y ∧ y < n) ∧
    Owns H0 H [(g.1.1, MObj.cells 1 (g.1.2.map iI) 0), (id5, MObj.cells 5 [iI n, .buf g.2.1.1 g.2.1.2.length, .buf g.2.2.1 g.2.2.2.length, .buf i 0, .buf d 0] 0), (g.2.1.1, MObj.cells 1 (g.2.1.2.map iI) 0), (g.2.2.1, MObj.cells 1 (g.2.2.2.map iI) 0), (idN, MObj.cells 1 (rows.map iL) 0),
    (i, MObj.cells 1 [] 0), (d, MObj.cells 1 [] 0), (id2, MObj.cells 5 [iI 0, .nilsl, .nilsl, .nilsl, .nilsl] 0)]) n ((idr, []), (a, A), (b, C))
   ⟨rfl, hC, by omega, hAr, hCr, o⟩ rfl ?_
  clear o hA hAr hCr hC
  rintro j ⟨⟨idr, row⟩, ⟨a, A⟩, ⟨b, C⟩⟩ H hj ⟨hrow', hC, hA, hAr, hCr, o⟩
  replace hrow' : row.length = j := hrow'
  replace hC : C.length = A.length := hC
  replace hA : A.length ≤ k * n + j := hA
  replace hAr : ∀ y, y ∈ A → 0 ≤ y ∧ y < (n : Int) := hAr
  replace hCr : ∀ y, y ∈ C → 0 ≤ y ∧ y < (n : Int) := hCr
  replace o : Owns H0 H [(idr, MObj.cells 1 (row.map iI) 0), (id5, MObj.cells 5 [iI n, .buf a A.length, .buf b C.length, .buf i 0, .buf d 0] 0), (a, MObj.cells 1 (A.map iI) 0), (b, MObj.cells 1 (C.map iI) 0), (idN, MObj.cells 1 (rows.map iL) 0),
    (i, MObj.cells 1 [] 0), (d, MObj.cells 1 [] 0), (id2, MObj.cells 5 [iI 0, .nilsl, .nilsl, .nilsl, .nilsl] 0)] := o
  try simp only [go_sem]
  refine ⟨fun h2 => At.mk ?_, fun h2 => At.mk ?_⟩
  ·have h2p := of_decide h2
   have w := wsucc (k := j) (by omega)
   try simp only [go_sem, reduceAdd]
   refine rd_cells o.tl (by simp) ?_
   try simp only [go_sem, reduceAdd]
   refine app_own _ o rfl rfl (by simp only [maxL]; omega) fun idr H o => ?_
   have hR1 := hrow k (by omega)
   try simp only [go_sem]
   refine ⟨by omega, by omega, ?_⟩
   refine ⟨fun h3 => At.mk ?_, fun h3 => At.mk ?_⟩
   ·try simp only [go_sem, reduceAdd]
    refine rd_cells o.tl (by simp) ?_
    try simp only [go_sem, reduceAdd]
    refine app_own _ (o.pull [_, _]) rfl rfl (by simp only [maxL]; omega) fun a H o => ?_
    try simp only [go_sem, reduceAdd]
    refine stc (o.pull [_, _]) fun H o => ?_
    simp only [wr_cons, wr_nil, List.set_cons_zero, List.set_cons_succ] at o
    try simp only [go_sem, reduceAdd]
    refine rd_cells o (by simp) ?_
    try simp only [go_sem, reduceAdd]
    refine app_own _ (o.pull [_, _, _]) rfl rfl (by simp only [maxL]; omega) fun b H o => ?_
    try simp only [go_sem, reduceAdd]
    refine stc o.swap fun H o => ?_
    simp only [wr_cons, wr_nil, List.set_cons_zero, List.set_cons_succ] at o
    try simp only [go_sem, w]
    refine for_next ((idr, _), (a, A ++ [(k : Int)]), (b, C ++ [(j : Int)])) h2p ⟨by simp [hrow'], by simp [hC], by simp; omega, ?_, ?_, o.perm (permC fun x => by (try dsimp only); simp only [List.append_eq, List.count_append, List.count_cons, List.count_nil, List.map_nil, List.length_nil, List.length_append, List.length_cons, List.length_set, Nat.zero_add, List.nil_append, iI, iL]; omega)⟩ rfl
    ·intro y hy
     rcases List.mem_append.mp hy with h | h
     ·exact hAr y h
     ·rw [List.mem_singleton] at h; subst h; omega
    ·intro y hy
     rcases List.mem_append.mp hy with h | h
     ·exact hCr y h
     ·rw [List.mem_singleton] at h; subst h; omega
   ·try simp only [go_sem, w]
    exact for_next ((idr, _), (a, A), (b, C)) h2p ⟨by simp [hrow'], hC, by show A.length ≤ _; omega, hAr, hCr, o⟩ rfl
  ·have h2p := of_ndecide h2
   try simp only [go_sem]
   refine fz_own o rfl fun H o => ?_
   try simp only [go_sem, reduceAdd]
   refine app_own row (o.pull [_, _, _]) rfl rfl (by simp only [maxL]; omega) fun idN H o => ?_
   have w := wsucc (k := k) (by omega)
   try simp only [go_sem, w]
   refine for_next ((a, A), (b, C), (idN, rows ++ [row])) h1p ⟨hC, by show A.length ≤ _; rw [Nat.succ_mul]; omega, hAr, hCr, by simp [hrl], ?_, o.perm (permC fun x => by (try dsimp only); simp only [List.append_eq, List.count_append, List.count_cons, List.count_nil, List.map_nil, List.length_nil, List.length_append, List.length_cons, List.length_set, Nat.zero_add, List.nil_append, iI, iL]; omega)⟩ rfl
   intro r hr
   rcases List.mem_append.mp hr with h | h
   ·exact hrr r h
   ·rw [List.mem_singleton] at h; subst h; omega
 ·have h1p := of_ndecide h1
  have hkn : k = n := by omega
  subst hkn
  have hA16 : A.length ≤ 16 := Nat.le_trans hA (Nat.mul_le_mul hR4 hR4)
  try simp only [go_sem]
  refine fz_own (o.pull [_, _, _]) rfl fun H o => ?_
  try simp only [go_sem]
  refine awp_for [2, 3, 4, 5] (G := (Nat × List Int)) (fun j g => [(9, some (.int .i64 (j : Int)))])
   (fun j g H => g.2.length = j ∧ Owns H0 H [(id5, MObj.cells 5 [iI k, .buf a A.length, .buf b C.length, .buf g.1 g.2.length, .buf d 0] 0), (g.1, MObj.cells 1 (g.2.map iI) 0), (a, MObj.cells 1 (A.map iI) 0), (b, MObj.cells 1 (C.map iI) 0),
    (d, MObj.cells 1 [] 0), (id2, MObj.cells 5 [iI 0, .nilsl, .nilsl, .nilsl, .nilsl] 0)]) k (i, []) ⟨rfl, o.perm (permC fun x => by (try dsimp only); simp only [List.append_eq, List.count_append, List.count_cons, List.count_nil, List.map_nil, List.length_nil, List.length_append, List.length_cons, List.length_set, Nat.zero_add, List.nil_append, iI, iL]; omega)⟩ rfl ?_
  clear o
  rintro j ⟨i, I⟩ H hj ⟨hI, o⟩
  replace hI : I.length = j := hI
  replace o : Owns H0 H [(id5, MObj.cells 5 [iI k, .buf a A.length, .buf b C.length, .buf i I.length, .buf d 0] 0), (i, MObj.cells 1 (I.map iI) 0), (a, MObj.cells 1 (A.map iI) 0), (b, MObj.cells 1 (C.map iI) 0),
    (d, MObj.cells 1 [] 0), (id2, MObj.cells 5 [iI 0, .nilsl, .nilsl, .nilsl, .nilsl] 0)] := o
  try simp only [go_sem]
  refine ⟨fun h2 => At.mk ?_, fun h2 => At.mk ?_⟩
  ·have h2p := of_decide h2
   have w := wsucc (k := j) (by omega)
   have hrj := hrr (rows.getD j default) (mem_getD.mpr ⟨j, by omega, rfl⟩)
   try simp only [go_sem, reduceAdd]
   refine rd_cells o (by simp) ?_
   try simp only [go_sem, reduceAdd]
   refine ⟨by omega, by omega, ?_⟩
   refine app_own _ o.swap rfl rfl (by simp only [maxL]; omega) fun i H o => ?_
   try simp only [go_sem, reduceAdd]
   refine stc o.swap fun H o => ?_
   simp only [wr_cons, wr_nil, List.set_cons_zero, List.set_cons_succ] at o
   try simp only [go_sem, w]
   exact for_next (i, _) h2p ⟨by simp [hI], o⟩ rfl
  ·have h2p := of_ndecide h2
   have hIk : I.length = k := by omega
   try simp only [go_sem]
   refine wk_cell 3 o rfl rfl fun H o => ?_
   simp only [List.set_cons_zero, List.set_cons_succ] at o
   refine wk_cell 1 o rfl rfl fun H o => ?_
   simp only [List.set_cons_zero, List.set_cons_succ] at o
   refine wk_cell 2 o rfl rfl fun H o => wkW_done ?_
   simp only [List.set_cons_zero, List.set_cons_succ] at o
   clear h2 h2p hj hI
   try simp only [go_sem]
   refine awp_for [2, 4, 5] (G := (Nat × List (List Int))) (fun j g => [(10, some (.int .i64 (j : Int)))])
    (fun j g H => g.2.length = j ∧ (∀ r, r ∈ g.2 → r.length = A.length) ∧ Owns H0 H [(id5, MObj.cells 5 [iI k, iL A, iL C, iL I, .buf g.1 g.2.length] 0), (g.1, MObj.cells 1 (g.2.map iL) 0), (id2, MObj.cells 5 [iI 0, .nilsl, .nilsl, .nilsl, .nilsl] 0)]) A.length (d, []) ⟨rfl, by simp, o⟩ rfl ?_
   clear o
   rintro f ⟨d, D⟩ H hf' ⟨hD, hDr, o⟩
   replace hD : D.length = f := hD
   replace hDr : ∀ r, r ∈ D → r.length = A.length := hDr
   replace o : Owns H0 H [(id5, MObj.cells 5 [iI k, iL A, iL C, iL I, .buf d D.length] 0), (d, MObj.cells 1 (D.map iL) 0), (id2, MObj.cells 5 [iI 0, .nilsl, .nilsl, .nilsl, .nilsl] 0)] := o
   try simp only [go_sem, reduceAdd]
   refine rd_cells o (by simp) ?_
   try simp only [go_sem]
   refine ⟨fun h2 => At.mk ?_, fun h2 => At.mk ?_⟩
   ·have h2p := of_decide h2
    try simp only [go_sem]
    refine newBuf_own o fun idr H o => ?_
    try simp only [go_sem]
    refine awp_for [2, 4, 5, 10] (G := Nat × List Int) (fun g r => [(11, some (.buf r.1 r.2.length)), (12, some (.int .i64 (g : Int)))])
     (fun g r H => r.2.length = g ∧ Owns H0 H [(r.1, MObj.cells 1 (r.2.map iI) 0), (id5, MObj.cells 5 [iI k, iL A, iL C, iL I, .buf d D.length] 0), (d, MObj.cells 1 (D.map iL) 0), (id2, MObj.cells 5 [iI 0, .nilsl, .nilsl, .nilsl, .nilsl] 0)]) A.length (idr, []) ⟨rfl, o⟩ rfl ?_
    clear o
    rintro g ⟨idr, row⟩ H hg ⟨hrl', o⟩
    replace hrl' : row.length = g := hrl'
    replace o : Owns H0 H [(idr, MObj.cells 1 (row.map iI) 0), (id5, MObj.cells 5 [iI k, iL A, iL C, iL I, .buf d D.length] 0), (d, MObj.cells 1 (D.map iL) 0), (id2, MObj.cells 5 [iI 0, .nilsl, .nilsl, .nilsl, .nilsl] 0)] := o
    try simp only [go_sem, reduceAdd]
    refine rd_cells o.tl (by simp) ?_
    try simp only [go_sem]
    refine ⟨fun h3 => At.mk ?_, fun h3 => At.mk ?_⟩
    ·have h3p := of_decide h3
     have w := wsucc (k := g) (by omega)
     try simp only [go_sem, reduceAdd]
     refine rd_cells o.tl (by simp) ?_
     try simp only [go_sem, reduceAdd]
     refine ⟨by omega, ?_⟩
     refine rd_cells o.tl (by simp) ?_
     try simp only [go_sem]
     refine ⟨by omega, ?_⟩
     have hAf := hAr (A.getD f default) (mem_getD.mpr ⟨f, h2p, rfl⟩)
     have hCg := hCr (C.getD g default) (mem_getD.mpr ⟨g, by omega, rfl⟩)
     have hrx := hrr (ix rows (A.getD f default)) (ix_mem (by omega))
     refine ⟨fun h4 => At.mk ?_, fun h4 => At.mk ?_⟩
     ·try simp only [go_sem, reduceAdd]
      refine rd_cells o.tl (by simp) ?_
      try simp only [go_sem, reduceAdd]
      refine ⟨h2p, ⟨by omega, by omega⟩, ?_⟩
      refine rd_cells o.tl (by simp) ?_
      try simp only [go_sem, reduceAdd]
      refine ⟨by omega, ⟨by omega, by omega⟩, ?_⟩
      refine app_own _ o rfl rfl (by simp only [maxL]; omega) fun idr H o => ?_
      try simp only [go_sem, w]
      exact for_next (idr, _) h3p ⟨by simp [hrl'], o⟩ rfl
     ·try simp only [go_sem, reduceAdd]
      refine app_own _ o rfl rfl (by simp only [maxL]; omega) fun idr H o => ?_
      try simp only [go_sem, w]
      exact for_next (idr, _) h3p ⟨by simp [hrl'], o⟩ rfl
    ·have h3p := of_ndecide h3
     have w := wsucc (k := f) (by omega)
     try simp only [go_sem]
     refine fz_own o rfl fun H o => ?_
     try simp only [go_sem, reduceAdd]
     refine rd_cells o (by simp) ?_
     try simp only [go_sem, reduceAdd]
     refine app_own row o.swap rfl rfl (by simp only [maxL]; omega) fun d H o => ?_
     try simp only [go_sem, reduceAdd]
     refine stc o.swap fun H o => ?_
     simp only [wr_cons, wr_nil, List.set_cons_zero, List.set_cons_succ] at o
     try simp only [go_sem, w]
     refine for_next (d, D ++ [row]) h2p ⟨by simp [hD], ?_, o⟩ rfl
     intro r hr
     rcases List.mem_append.mp hr with h | h
     ·exact hDr r h
     ·rw [List.mem_singleton] at h; subst h; omega
   ·have h2p := of_ndecide h2
    try simp only [go_sem]
    refine wk_cell 4 o rfl rfl fun H o => wkW_done ?_
    simp only [List.set_cons_zero, List.set_cons_succ] at o
    try simp only [go_sem]
    refine rd_celln o (by simp) ?_
    try simp only [go_sem]
    refine stc o.swap fun H o => ?_
    simp only [wr_cons, wr_nil, List.set_cons_zero, List.set_cons_succ] at o
    try simp only [go_sem]
    have hr2 := o.rc 5 0 (by simp)
    simp only [List.drop_zero] at hr2
    rw [hr2]
    try simp only [go_sem]
    have hDA : D.length = A.length := by omega
    refine rets_ret ⟨⟨k, A, C, I, D⟩, rfl, ⟨by show (0 : Int) ≤ (k : Int); omega, by show (k : Int) ≤ ((16 : Nat) : Int); omega⟩, by show (I.length : Int) = k; omega, hA16, hC, hDA, fun x hx => ?_⟩ o.sub
    exact hDr _ (mem_getD.mpr ⟨x, by rw [hDA]; exact hx, rfl⟩)
end Go.Proofs.Shf
namespace Go.AW
theorem LsR.inner {α : Type} {f : α → AV} : ∀ (ms : List (Nat × List α)), LsR f (ms.map bufE) (ms.map Prod.snd) (inner f ms)
 | [] => .nil
 | m :: ms => LsR.cons (p := [(m.1, .cells 1 (m.2.map f) 0)]) (.inr ⟨m.1, rfl, rfl⟩) (LsR.inner ms)
theorem app_own' {α : Type} [Inhabited α] {f : α → AV} [One f] {H0 H : Heap} {l : Ob} {K : Kont} {id fr n : Nat} {out : List α} (a : α) {v : AV} (h : Owns H0 H ((id, .cells 1 (out.map f) fr) :: l)) (hv : v = f a) (hn : n = out.length) (hm : out.length + 1 ≤ maxL)
  (hk : ∀ id' H' A, A = out ++ [a] → A.length = out.length + 1 → Owns H0 H' ((id', .cells 1 (A.map f) fr) :: l) → K (.buf id' A.length) H') : appW 1 (some (.buf id n)) (some (.sl [v])) K H :=
 app_own a h hv hn hm fun id' H' o => hk id' H' _ rfl (by simp) o
end Go.AW
namespace Go.Proofs.Shf
open Go.AW Go.Proofs Go.Shf
theorem l01Own2_own (B : Nat) (T : List (List Int)) (H0 H : Heap) (l : Ob) (o : Owns H0 H l) :
  CallH Tryz.prog B 250 [iLL T] H (fun r H' => ∃ d Xs ob, r = .buf d Xs.length ∧ LsR iI Xs T ob ∧ Owns H0 H' ((d, .cells 1 Xs 0) :: (ob ++ l))) := by
 refine c250p (by simp) fun ⟨hf, _⟩ => ?_
 have hl := fine_mL_le hf
 simp only [maxL] at hl
 unfold s250p
 try simp only [go_sem, reduceAdd]
 refine newBuf_own o fun d H o => ?_
 try simp only [go_sem]
 refine awp_for [0] (G := Nat × List (Nat × List Int)) (fun k g => [(3, some (.buf g.1 g.2.length)), (4, some (.int .i64 (k : Int)))])
  (fun k g H => g.2.map Prod.snd = T.take k ∧ Owns H0 H ((g.1, MObj.cells 1 (g.2.map bufE) 0) :: (inner iI g.2 ++ l))) T.length (d, []) ⟨by simp, o⟩ rfl ?_
 clear o
 rintro k ⟨d, ms⟩ H hk ⟨hms, o⟩
 replace hms : ms.map Prod.snd = T.take k := hms
 replace o : Owns H0 H ((d, MObj.cells 1 (ms.map bufE) 0) :: (inner iI ms ++ l)) := o
 have hml : ms.length = k := by
  have := congrArg List.length hms
  simpa [Nat.min_eq_left hk] using this
 try simp only [go_sem]
 refine ⟨fun h1 => At.mk ?_, fun h1 => At.mk ?_⟩
 ·have h1p := of_decide h1
  have w := wsucc (k := k) (by omega)
  try simp only [go_sem]
  refine ⟨h1p, ?_⟩
  refine (l01Own_own B (T.getD k default) H0 H _ o).own fun id A H o hA => ?_
  subst hA
  try simp only [go_sem, reduceAdd]
  refine app_own (f := bufE) (id, T.getD k default) o.swap rfl rfl (by simp only [maxL]; omega) fun d H o => ?_
  try simp only [go_sem, w]
  refine for_next (d, ms ++ [(id, T.getD k default)]) h1p ⟨by rw [List.map_append, hms, take_succ' T h1p]; rfl, ?_⟩ rfl
  refine o.perm (.cons _ ?_)
  simp only [inner, List.map_append, List.map_cons, List.map_nil, List.append_assoc, List.cons_append, List.nil_append]
  exact List.perm_middle.symm
 ·have h1p := of_ndecide h1
  obtain rfl : k = T.length := by omega
  rw [List.take_length] at hms
  try simp only [go_sem]
  refine ⟨H, .refl H, d, ms.map bufE, inner iI ms, by simp, ?_, o⟩
  rw [← hms]; exact LsR.inner ms
theorem New.go' {P : Program} {B : Nat} {fn : FuncId} {args : List AV} {O : Ob → AV → Prop} {H0 H : Heap} {l : Ob} {K : Kont} (h : New P B fn args O) (o : Owns H0 H l) (hk : ∀ r p H', O p r → Owns H0 H' (p ++ l) → H.sub H' → K r H') : CallH P B fn args H K :=
 (h.run H).mono fun r H' ⟨p, q1, q2⟩ => hk r p H' q1 (o.trans q2) q2.sub
def OLb (l : List Int) (p : Ob) (X : AV) : Prop := ∃ id, X = .buf id l.length ∧ p = [(id, .cells 1 (l.map iI) 0)]
theorem l01Own_new (B : Nat) (l : List Int) : New Tryz.prog B 114 [iL l] (OLb l) :=
 ⟨fun H => (l01Own_own B l H H [] (.nil H)).mono fun r H' ⟨id, A, e, o, q⟩ => by
  subst e q
  exact ⟨_, ⟨id, rfl, rfl⟩, o⟩⟩
def OLLb (T : List (List Int)) (p : Ob) (X : AV) : Prop := ∃ d Xs ob, X = .buf d Xs.length ∧ LsR iI Xs T ob ∧ p = (d, .cells 1 Xs 0) :: ob
theorem l01Own2_new (B : Nat) (T : List (List Int)) : New Tryz.prog B 250 [iLL T] (OLLb T) :=
 ⟨fun H => (l01Own2_own B T H H [] (.nil H)).mono fun r H' ⟨d, Xs, ob, e, h, o⟩ => by
  rw [List.append_nil] at o
  exact ⟨_, ⟨d, Xs, ob, e, h, rfl⟩, o⟩⟩
def OCb (c : Cat) (p : Ob) (X : AV) : Prop := ∃ a b i d Xs ob, X = .agg [iI c.objs, .buf a c.frm.length, .buf b c.to.length, .buf i c.idn.length, .buf d Xs.length] ∧ LsR iI Xs c.comp ob ∧
 p = (a, .cells 1 (c.frm.map iI) 0) :: (b, .cells 1 (c.to.map iI) 0) :: (i, .cells 1 (c.idn.map iI) 0) :: (d, .cells 1 Xs 0) :: ob
theorem l02Own_new (B : Nat) (c : Cat) : New Tryz.prog B 171 [.agg c.cells] (OCb c) := by
 refine ⟨fun H0 => c171p (by simp) fun _ => ?_⟩
 unfold s171p
 try simp only [go_sem, reduceAdd]
 refine newRef_own (.nil _) fun id H o => ?_
 try simp only [go_sem, reduceAdd, reduceLeDiff]
 refine New.go' (l01Own_new B c.frm) o fun X1 p1 H ⟨a, e1, e2⟩ o hs => ⟨hs, ?_⟩
 subst e1 e2
 try simp only [go_sem, reduceAdd, reduceLeDiff]
 refine New.go' (l01Own_new B c.to) o fun X1 p1 H ⟨b, e1, e2⟩ o hs => ⟨hs, ?_⟩
 subst e1 e2
 try simp only [go_sem, reduceAdd, reduceLeDiff]
 refine New.go' (l01Own_new B c.idn) o fun X1 p1 H ⟨i, e1, e2⟩ o hs => ⟨hs, ?_⟩
 subst e1 e2
 try simp only [go_sem, reduceAdd, reduceLeDiff]
 refine New.go' (l01Own2_new B c.comp) o fun X1 p1 H ⟨d, Xs, ob, e1, h, e2⟩ o hs => ⟨hs, ?_⟩
 subst e1 e2
 try simp only [go_sem, reduceAdd]
 have o : Owns H0 H ((id, MObj.cells 5 [iI 0, .nilsl, .nilsl, .nilsl, .nilsl] 0) :: (a, MObj.cells 1 (c.frm.map iI) 0) :: (b, MObj.cells 1 (c.to.map iI) 0) :: (i, MObj.cells 1 (c.idn.map iI) 0) :: (d, MObj.cells 1 Xs 0) :: ob) := o.perm (permC fun x => by (try dsimp only); simp only [List.append_eq, List.count_append, List.count_cons, List.count_nil, List.map_nil, List.length_nil, List.length_append, List.length_cons, List.length_set, Nat.zero_add, List.nil_append, iI, iL]; omega)
 refine stc o fun H o => ?_
 simp only [wr_cons, wr_nil, List.set_cons_zero, List.set_cons_succ] at o
 try simp only [go_sem]
 have hr := o.rc 5 0 (by simp)
 simp only [List.drop_zero] at hr
 rw [hr]
 exact ⟨H, .refl H, _, ⟨a, b, i, d, Xs, ob, rfl, h, rfl⟩, o.tl⟩
end Go.Proofs.Shf
