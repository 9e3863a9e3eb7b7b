/- A part of a proof. -/
import Derived.Test.YtnpimpkmgmnhhaaGreatF6
set_option linter.unusedVariables false
set_option linter.unusedSimpArgs false
set_option linter.unusedSectionVars false
set_option maxRecDepth 100000
open Nat (reduceEqDiff reduceAdd reduceMul reduceLeDiff reduceLT)
namespace Go.Proofs.Shf
open Go.AW Go.Proofs Go.Shf
def EndAt (k : FU) (a : Nat) : Prop:=ix k.tgt.frm (k.ar.getD a default)=ix k.ob (k.src.frm.getD a default)∧ix k.tgt.to (k.ar.getD a default)=ix k.ob (k.src.to.getD a default)
def IdnAt (k : FU) (x : Nat) : Prop:=ix k.ar (k.src.idn.getD x default)=ix k.tgt.idn (k.ob.getD x default)
def CmpAt (k : FU) (a b : Nat) : Prop:=0≤(k.src.comp.getD a default).getD b default→ix k.ar ((k.src.comp.getD a default).getD b default)=ix (ix k.tgt.comp (k.ar.getD a default)) (k.ar.getD b default)
theorem fits_ok (B : Nat) (k : FU) (hc : k.src.Shape) (hd : k.tgt.Shape) : Pur Tryz.prog B 148 [.ptr k.cells] (.bool (dec (k.Fit∧k.Laws))):=by
 refine ⟨fun H0=>c148p (by simp) fun hfi=>?_⟩;unfold s148p
 have hcm:=hc.m
 have hdm:=hd.m
 have hco:=hc.o
 have hdo:=hd.o
 have hctl:=hc.tol
 have hdtl:=hd.tol;refine tt ?_
 by_cases f1 : (k.ob.length : Int)=k.src.objs
 rotate_left
 ·have f1':=decide_eq_false f1;try simp only [go_sem,↓reduceIte,reduceEqDiff,reduceAdd,reduceMul,reduceLeDiff,reduceLT,f1',Bool.not_false]
  exact pure_ret (congrArg AV.bool (dec_f fun h=>f1 h.1.ol).symm) (.refl _)
 have f1':=decide_eq_true f1;try simp only [go_sem,↓reduceIte,reduceEqDiff,reduceAdd,reduceMul,reduceLeDiff,reduceLT,f1',Bool.not_true]
 refine ⟨_,(arrows_ok B k.src).run, ?_⟩
 by_cases f2 : (k.ar.length : Int)=k.src.frm.length
 rotate_left
 ·have f2':=decide_eq_false f2;try simp only [go_sem,↓reduceIte,reduceEqDiff,reduceAdd,reduceMul,reduceLeDiff,reduceLT,f2',Bool.not_false]
  exact pure_ret (congrArg AV.bool (dec_f fun h=>f2 (by have:=h.1.al; omega)).symm) (.refl _)
 have f2':=decide_eq_true f2;try simp only [go_sem,↓reduceIte,reduceEqDiff,reduceAdd,reduceMul,reduceLeDiff,reduceLT,f2',Bool.not_true]
 refine ⟨_,(within_ok B k.ob k.tgt.objs (by omega)).run, ?_⟩
 by_cases f3 : ∀ y,y∈k.ob→0≤y∧y<k.tgt.objs
 rotate_left
 ·rw [dec_f f3];try simp only [go_sem,↓reduceIte,reduceEqDiff,reduceAdd,reduceMul,reduceLeDiff,reduceLT,Bool.not_false]
  exact pure_ret (congrArg AV.bool (dec_f fun h=>f3 h.1.obr).symm) (.refl _)
 rw [dec_t f3];try simp only [go_sem,↓reduceIte,reduceEqDiff,reduceAdd,reduceMul,reduceLeDiff,reduceLT,Bool.not_true]
 refine ⟨_,(arrows_ok B k.tgt).run,tt ?_⟩;refine ⟨_,(within_ok B k.ar k.tgt.frm.length (by omega)).run, ?_⟩
 by_cases f4 : ∀ y,y∈k.ar→0≤y∧y<(k.tgt.frm.length : Int)
 rotate_left
 ·rw [dec_f f4];try simp only [go_sem,↓reduceIte,reduceEqDiff,reduceAdd,reduceMul,reduceLeDiff,reduceLT,Bool.not_false]
  exact pure_ret (congrArg AV.bool (dec_f fun h=>f4 h.1.arr).symm) (.refl _)
 rw [dec_t f4]
 have hF : k.Fit:=⟨f1,by omega,f3,f4⟩;try simp only [go_sem,↓reduceIte,reduceEqDiff,reduceAdd,reduceMul,reduceLeDiff,reduceLT,Bool.not_true]
 refine awp_for [0,3,4,64,65] (fun a _=>[(66,some (.int .i64 (a : Int)))]) (fun a _ H=>H=H0∧∀ i,i<a→EndAt k i) k.ar.length () ⟨rfl,by simp⟩ rfl ?_
 rintro a _ H ha ⟨rfl,hall⟩;refine tt ?_;apply bk <;> intro h1
 ·have h1p : a<k.ar.length:=of_decide h1
  have w1:=wsucc (k:=a) (by omega)
  have va:=f4 _ (mem_getD.mpr ⟨a,h1p,rfl⟩)
  have vs:=hc.frm' (f:=a) (by omega)
  have vt:=hc.to' (f:=a) (by omega)
  have hcil:=hc.il;refine tt ?_;refine ⟨h1p,⟨va.1,by omega⟩,by omega,⟨vs.1,by omega⟩, ?_⟩
  by_cases e1 : ix k.tgt.frm (k.ar.getD a default)=ix k.ob (k.src.frm.getD a default)
  rotate_left
  ·have e1':=decide_eq_false e1;try simp only [go_sem,↓reduceIte,reduceEqDiff,reduceAdd,reduceMul,reduceLeDiff,reduceLT,e1',Bool.not_false]
   exact pure_ret (congrArg AV.bool (dec_f fun h=>e1 (h.2.ends a (by omega)).1).symm) (.refl _)
  have e1':=decide_eq_true e1;try simp only [go_sem,↓reduceIte,reduceEqDiff,reduceAdd,reduceMul,reduceLeDiff,reduceLT,e1',Bool.not_true]
  refine ⟨⟨va.1,by omega⟩,by omega,⟨vt.1,by omega⟩, ?_⟩
  by_cases e2 : ix k.tgt.to (k.ar.getD a default)=ix k.ob (k.src.to.getD a default)
  rotate_left
  ·have e2':=decide_eq_false e2;try simp only [go_sem,↓reduceIte,reduceEqDiff,reduceAdd,reduceMul,reduceLeDiff,reduceLT,e2',Bool.not_false]
   exact pure_ret (congrArg AV.bool (dec_f fun h=>e2 (h.2.ends a (by omega)).2).symm) (.refl _)
  have e2':=decide_eq_true e2;try simp only [go_sem,↓reduceIte,reduceEqDiff,reduceAdd,reduceMul,reduceLeDiff,reduceLT,e2',Bool.not_true,w1]
  exact for_next () (by omega) ⟨rfl,lt_succ_all hall ⟨e1,e2⟩⟩ rfl
 have h1p : a=k.ar.length:=by have:=of_ndecide h1; omega
 have hends : ∀ i,i<k.src.frm.length→EndAt k i:=fun i hi=>hall i (by omega);clear h1 hall;subst h1p;refine tt ?_;refine awp_for [0,3,4,119,120] (fun x _=>[(121,some (.int .i64 (x : Int)))]) (fun x _ H'=>H'=H∧∀ i,i<x→IdnAt k i) k.src.idn.length () ⟨rfl,by simp⟩ rfl ?_
 rintro x _ H hx ⟨rfl,hall⟩;refine tt ?_;apply bk <;> intro h1
 ·have h1p : x<k.src.idn.length:=of_decide h1
  have hcil:=hc.il
  have hdil:=hd.il
  have w1:=wsucc (k:=x) (by omega)
  have vi:=hc.idn _ (mem_getD.mpr ⟨x,h1p,rfl⟩)
  have vo:=f3 _ (mem_getD.mpr ⟨x,(by omega : x<k.ob.length),rfl⟩);refine tt ?_;refine ⟨h1p,⟨vi.1,by omega⟩,by omega,⟨vo.1,by omega⟩, ?_⟩
  by_cases e1 : ix k.ar (k.src.idn.getD x default)=ix k.tgt.idn (k.ob.getD x default)
  rotate_left
  ·have e1':=decide_eq_false e1;try simp only [go_sem,↓reduceIte,reduceEqDiff,reduceAdd,reduceMul,reduceLeDiff,reduceLT,e1',Bool.not_false]
   exact pure_ret (congrArg AV.bool (dec_f fun h=>e1 (h.2.idn x h1p)).symm) (.refl _)
  have e1':=decide_eq_true e1;try simp only [go_sem,↓reduceIte,reduceEqDiff,reduceAdd,reduceMul,reduceLeDiff,reduceLT,e1',Bool.not_true,w1]
  exact for_next () (by omega) ⟨rfl,lt_succ_all hall e1⟩ rfl
 have h1p : x=k.src.idn.length:=by have:=of_ndecide h1; omega
 have hidn : ∀ i,i<k.src.idn.length→IdnAt k i:=fun i hi=>hall i (by omega);clear h1 hall;subst h1p;refine tt ?_
 have hccl:=hc.cl
 have hdcl:=hd.cl
 have hcmp : ∀ a b,a<k.src.frm.length→b<k.src.frm.length→0≤(k.src.comp.getD a default).getD b default→k.src.to.getD a default=k.src.frm.getD b default∧((k.src.comp.getD a default).getD b default).toNat<k.src.frm.length:=fun a b ha hb h=>by
  have e : k.src.to.getD a default=k.src.frm.getD b default:=by
   apply Classical.byContradiction; intro hn
   have:=hc.non a b ha hb hn;omega
  exact ⟨e,by have:=(hc.yes a b ha hb e).1; omega⟩
 refine awp_for [0,4,151,152] (fun a _=>[(153,some (.int .i64 (a : Int)))]) (fun a _ H'=>H'=H∧∀ i,i<a→∀ j,j<k.src.frm.length→CmpAt k i j) k.src.comp.length () ⟨rfl,by simp⟩ rfl ?_
 rintro a _ H ha ⟨rfl,hall⟩;refine tt ?_;apply bk <;> intro h1
 ·have h1p : a<k.src.comp.length:=of_decide h1
  have w1:=wsucc (k:=a) (by omega)
  have va:=f4 _ (mem_getD.mpr ⟨a,(by omega : a<k.ar.length),rfl⟩)
  have ra:=hc.row a (by omega)
  have rd:=hd.row' (a:=k.ar.getD a default) (by omega);refine tt ?_;refine ⟨h1p,tt ?_⟩;refine awp_for [0,4,9,151,152,153,158,159] (fun b _=>[(160,some (.int .i64 (b : Int)))]) (fun b _ H'=>H'=H∧∀ j,j<b→CmpAt k a j) (k.src.comp.getD a default).length () ⟨rfl,by simp⟩ rfl ?_
  rintro b _ H hb ⟨rfl,hrow⟩;refine tt ?_;apply bk <;> intro h2
  ·have h2p : b<(k.src.comp.getD a default).length:=of_decide h2
   have w2:=wsucc (k:=b) (by omega)
   have vb:=f4 _ (mem_getD.mpr ⟨b,(by omega : b<k.ar.length),rfl⟩);refine tt ?_;refine ⟨h2p, ?_⟩
   by_cases t : 0≤(k.src.comp.getD a default).getD b default
   ·obtain ⟨te,tl⟩:=hcmp a b (by omega) (by omega) t
    have t':=decide_eq_true t;try simp only [go_sem,↓reduceIte,reduceEqDiff,reduceAdd,reduceMul,reduceLeDiff,reduceLT,t']
    refine ⟨⟨t,by omega⟩,by omega,by omega,_,(catThen_ok B k.tgt (k.ar.getD a default) (k.ar.getD b default) ⟨va.1,by omega⟩ ⟨vb.1,by omega⟩).run, ?_⟩
    by_cases e1 : ix k.ar ((k.src.comp.getD a default).getD b default)=ix (ix k.tgt.comp (k.ar.getD a default)) (k.ar.getD b default)
    rotate_left
    ·have e1':=decide_eq_false e1;try simp only [go_sem,↓reduceIte,reduceEqDiff,reduceAdd,reduceMul,reduceLeDiff,reduceLT,e1',Bool.not_false]
     exact pure_ret (congrArg AV.bool (dec_f fun h=>e1 (h.2.comp a b (by omega) (by omega) te)).symm) (.refl _)
    have e1':=decide_eq_true e1;try simp only [go_sem,↓reduceIte,reduceEqDiff,reduceAdd,reduceMul,reduceLeDiff,reduceLT,e1',Bool.not_true,w2]
    exact for_next () (by omega) ⟨rfl,lt_succ_all hrow fun _=>e1⟩ rfl
   ·have t':=decide_eq_false t;try simp only [go_sem,↓reduceIte,reduceEqDiff,reduceAdd,reduceMul,reduceLeDiff,reduceLT,t',w2]
    exact for_next () (by omega) ⟨rfl,lt_succ_all hrow fun h=>absurd h t⟩ rfl
  have h2p : b=(k.src.comp.getD a default).length:=by have:=of_ndecide h2; omega
  have hrow2 : ∀ j,j<k.src.frm.length→CmpAt k a j:=fun j hj=>hrow j (by omega);clear h2 hrow;refine tw w1 ?_;exact for_next () (by omega) ⟨rfl,lt_succ_all hall hrow2⟩ rfl
 have h1p : a=k.src.comp.length:=by have:=of_ndecide h1; omega
 refine tt ?_;exact pure_ret (congrArg AV.bool (dec_t ⟨hF,hends,hidn,fun i j hi hj e=>hall i (by omega) j hj (hc.yes i j hi hj e).1.1⟩).symm) (.refl _)
theorem two_cats {c d : Cat} : (∀ e,e∈[c,d]→e.Is)↔c.Is∧d.Is:=by simp
theorem isFunctor_ok (B : Nat) (k : FU) : Pur Tryz.prog B 68 [.ptr k.cells] (.bool (dec k.Is)):=by
 refine ⟨fun H0=>c68p (by simp) fun _=>?_⟩;unfold s68p;refine tt ?_;refine ⟨_,(show Pur Tryz.prog B 57 [.sl [.ptr k.src.cells,.ptr k.tgt.cells]] _ from areCategories_ok B [k.src,k.tgt]).run, ?_⟩
 by_cases h : k.src.Is∧k.tgt.Is
 ·rw [dec_t (two_cats.mpr h)];refine tt ?_;refine ⟨_,(fits_ok B k h.1.1 h.2.1).run,tt ?_⟩;exact pure_ret (congrArg AV.bool (dec_congr ⟨fun q=>⟨h.1,h.2,q.1,q.2⟩,fun q=>⟨q.fit,q.laws⟩⟩)) (.refl _)
 ·rw [dec_f fun q=>h (two_cats.mp q)];refine tt ?_;exact pure_ret (congrArg AV.bool (dec_f fun q=>h ⟨q.sI,q.tI⟩).symm) (.refl _)
theorem thenFu_ok (B : Nat) (k l : FU) (h1 : ∀ y,y∈k.ob→0≤y∧y.toNat<l.ob.length) (h2 : ∀ y,y∈k.ar→0≤y∧y.toNat<l.ar.length) :
  Pur Tryz.prog B 72 [.ptr k.cells,.ptr l.cells] (.agg (FU.cells ⟨k.src,l.tgt,thenL k.ob l.ob,thenL k.ar l.ar⟩)):=by
 refine ⟨fun H0=>c72p (by simp) fun _=>?_⟩;unfold s72p
 have o : Owns H0 H0 []:=.nil _;refine tt ?_;refine nb o fun id4 H o=>tt ?_;refine ⟨_,(then_ok B k.ob l.ob h1).run,_,(then_ok B k.ar l.ar h2).run,_,(functor_ok B k.src l.tgt (thenL k.ob l.ob) (thenL k.ar l.ar)).run,tt ?_⟩;refine sw o fun H o=>tt ?_
 have hr:=o.rc 12 0 (by simp);simp only [List.drop_zero] at hr;rw [hr];exact pure_ret rfl o.sub
end Go.Proofs.Shf
namespace Go.Shf
open Go.AW
structure TR where
 s : FU
 t : FU
 c : List Int
 deriving Inhabited
@[go_sem] def TR.cells (m : TR) : List AV:=m.s.cells++(m.t.cells++[iL m.c])
end Go.Shf
namespace Go.Proofs.Shf
open Go.AW Go.Proofs Go.Shf
abbrev fuP (k : FU) : AV:=.ptr k.cells
instance : One fuP:=⟨fun _=>rfl,fun _=>rfl⟩
theorem areFunctors_ok (B : Nat) (l : List FU) : Pur Tryz.prog B 85 [mL fuP l] (.bool (dec (∀ c,c∈l→c.Is))):=by
 refine ⟨fun H0=>c85 (by simp) fun ⟨hf,_⟩=>?_⟩
 have hl:=fine_mL_le hf;simp only [maxL] at hl;unfold s85;refine tt ?_;refine awp_for [5,6] (fun k _=>[(7,some (.int .i64 (k : Int)))]) (fun k _ H=>H=H0∧∀ i,i<k→(l.getD i default).Is) l.length () ⟨rfl,by simp⟩ rfl ?_
 rintro k _ H hk ⟨rfl,hall⟩;refine tt ?_;apply bk <;> intro h1
 ·have h1:=of_decide h1
  have w1:=wsucc (k:=k) (by omega);refine tt ?_;refine ⟨h1, ?_⟩;refine (isFunctor_ok B (l.getD k default)).go fun _=>?_
  by_cases e : (l.getD k default).Is
  ·rw [dec_t e];refine tw w1 ?_;exact for_next () (by omega) ⟨rfl,lt_succ_all hall e⟩ rfl
  ·rw [dec_f e];refine tt ?_;exact pure_ret (by rw [dec_f fun q=>e (q _ (mem_getD.mpr ⟨k,h1,rfl⟩))]) (.refl _)
 ·refine tt ?_
  have h1:=of_ndecide h1
  have hA : ∀ c,c∈l→c.Is:=fun c hc=>by
   obtain ⟨i,hi,rfl⟩:=mem_getD.mp hc;exact hall i (by omega)
  exact pure_ret (by rw [dec_t hA]) (.refl _)
theorem dec_of {p q : Prop} [Decidable p] (h : p↔q) : decide p=dec q:=by
 by_cases e : p
 ·rw [decide_eq_true e,dec_t (h.mp e)]
 ·rw [decide_eq_false e,dec_f fun w=>e (h.mpr w)]
theorem dT5 {p : Decidable True} : @decide True p=true:=@decide_eq_true True p trivial
end Go.Proofs.Shf
