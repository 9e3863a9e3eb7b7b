/- A part of a proof. -/
import Derived.Test.YtphikjciekmijaaGreatDoorF11
set_option linter.unusedVariables false
set_option linter.unusedSimpArgs false
set_option linter.unusedSectionVars false
set_option maxRecDepth 100000
open Nat (reduceEqDiff reduceAdd reduceMul reduceLeDiff reduceLT)
namespace Go.Proofs.Shf
open Go.AW Go.Proofs Go.Shf
def WkV (a b : AV) : Prop:=∀ g v,VRel g a v→VRel g b v
end Go.Proofs.Shf
namespace Go.Shf
open Go.AW Go.Proofs.Shf
end Go.Shf
namespace Go.Proofs.Shf
open Go.AW Go.Proofs Go.Shf
def EndAt (k : FU) (a : Nat) : Prop:=ix k.tgt.frm (k.ar.getD a default)=ix k.ob (k.src.frm.getD a default)∧ix k.tgt.to (k.ar.getD a default)=ix k.ob (k.src.to.getD a default)
def IdnAt (k : FU) (x : Nat) : Prop:=ix k.ar (k.src.idn.getD x default)=ix k.tgt.idn (k.ob.getD x default)
def CmpAt (k : FU) (a b : Nat) : Prop:=0≤(k.src.comp.getD a default).getD b default→ix k.ar ((k.src.comp.getD a default).getD b default)=ix (ix k.tgt.comp (k.ar.getD a default)) (k.ar.getD b default)
theorem fuFits_ok (B : Nat) (k : FU) (hc : k.src.Shape) (hd : k.tgt.Shape) : Pur Tryz.prog B 45 [.ptr k.cells] (.bool (dec (k.Fit∧k.Laws))):=by
 refine ⟨fun H0=>c45p (by simp) fun hfi=>?_⟩;unfold s45p
 have hcm:=hc.m
 have hdm:=hd.m
 have hco:=hc.o
 have hdo:=hd.o
 have hctl:=hc.tol
 have hdtl:=hd.tol;refine tt ?_
 by_cases f1 : (k.ob.length : Int)=k.src.objs
 rotate_left
 ·have f1':=decide_eq_false f1;try simp only [go_sem,↓reduceIte,reduceEqDiff,reduceAdd,reduceMul,reduceLeDiff,reduceLT,f1',Bool.not_false]
  exact pure_ret (congrArg AV.bool (dec_f fun h=>f1 h.1.ol).symm) (.refl _)
 have f1':=decide_eq_true f1;try simp only [go_sem,↓reduceIte,reduceEqDiff,reduceAdd,reduceMul,reduceLeDiff,reduceLT,f1',Bool.not_true]
 refine ⟨_,(arrows_ok B k.src).run, ?_⟩
 by_cases f2 : (k.ar.length : Int)=k.src.frm.length
 rotate_left
 ·have f2':=decide_eq_false f2;try simp only [go_sem,↓reduceIte,reduceEqDiff,reduceAdd,reduceMul,reduceLeDiff,reduceLT,f2',Bool.not_false]
  exact pure_ret (congrArg AV.bool (dec_f fun h=>f2 (by have:=h.1.al; omega)).symm) (.refl _)
 have f2':=decide_eq_true f2;try simp only [go_sem,↓reduceIte,reduceEqDiff,reduceAdd,reduceMul,reduceLeDiff,reduceLT,f2',Bool.not_true]
 refine ⟨_,(within_ok B k.ob k.tgt.objs (by omega)).run, ?_⟩
 by_cases f3 : ∀ y,y∈k.ob→0≤y∧y<k.tgt.objs
 rotate_left
 ·rw [dec_f f3];try simp only [go_sem,↓reduceIte,reduceEqDiff,reduceAdd,reduceMul,reduceLeDiff,reduceLT,Bool.not_false]
  exact pure_ret (congrArg AV.bool (dec_f fun h=>f3 h.1.obr).symm) (.refl _)
 rw [dec_t f3];try simp only [go_sem,↓reduceIte,reduceEqDiff,reduceAdd,reduceMul,reduceLeDiff,reduceLT,Bool.not_true]
 refine ⟨_,(arrows_ok B k.tgt).run,tt ?_⟩;refine ⟨_,(within_ok B k.ar k.tgt.frm.length (by omega)).run, ?_⟩
 by_cases f4 : ∀ y,y∈k.ar→0≤y∧y<(k.tgt.frm.length : Int)
 rotate_left
 ·rw [dec_f f4];try simp only [go_sem,↓reduceIte,reduceEqDiff,reduceAdd,reduceMul,reduceLeDiff,reduceLT,Bool.not_false]
  exact pure_ret (congrArg AV.bool (dec_f fun h=>f4 h.1.arr).symm) (.refl _)
 rw [dec_t f4]
 have hF : k.Fit:=⟨f1,by omega,f3,f4⟩;try simp only [go_sem,↓reduceIte,reduceEqDiff,reduceAdd,reduceMul,reduceLeDiff,reduceLT,Bool.not_true]
 refine awp_for [0,3,4,64,65] (fun a _=>[(66,some (.int .i64 (a : Int)))]) (fun a _ H=>H=H0∧∀ i,i<a→EndAt k i) k.ar.length () ⟨rfl,by simp⟩ rfl ?_
 rintro a _ H ha ⟨rfl,hall⟩;refine tt ?_;apply bk <;> intro h1
 ·have h1p : a<k.ar.length:=of_decide h1
  have w1:=wsucc (k:=a) (by omega)
  have va:=f4 _ (mem_getD.mpr ⟨a,h1p,rfl⟩)
  have vs:=hc.frm' (f:=a) (by omega)
  have vt:=hc.to' (f:=a) (by omega)
  have hcil:=hc.il;refine tt ?_;refine ⟨h1p,⟨va.1,by omega⟩,by omega,⟨vs.1,by omega⟩, ?_⟩
  by_cases e1 : ix k.tgt.frm (k.ar.getD a default)=ix k.ob (k.src.frm.getD a default)
  rotate_left
  ·have e1':=decide_eq_false e1;try simp only [go_sem,↓reduceIte,reduceEqDiff,reduceAdd,reduceMul,reduceLeDiff,reduceLT,e1',Bool.not_false]
   exact pure_ret (congrArg AV.bool (dec_f fun h=>e1 (h.2.ends a (by omega)).1).symm) (.refl _)
  have e1':=decide_eq_true e1;try simp only [go_sem,↓reduceIte,reduceEqDiff,reduceAdd,reduceMul,reduceLeDiff,reduceLT,e1',Bool.not_true]
  refine ⟨⟨va.1,by omega⟩,by omega,⟨vt.1,by omega⟩, ?_⟩
  by_cases e2 : ix k.tgt.to (k.ar.getD a default)=ix k.ob (k.src.to.getD a default)
  rotate_left
  ·have e2':=decide_eq_false e2;try simp only [go_sem,↓reduceIte,reduceEqDiff,reduceAdd,reduceMul,reduceLeDiff,reduceLT,e2',Bool.not_false]
   exact pure_ret (congrArg AV.bool (dec_f fun h=>e2 (h.2.ends a (by omega)).2).symm) (.refl _)
  have e2':=decide_eq_true e2;try simp only [go_sem,↓reduceIte,reduceEqDiff,reduceAdd,reduceMul,reduceLeDiff,reduceLT,e2',Bool.not_true,w1]
  exact for_next () (by omega) ⟨rfl,lt_succ_all hall ⟨e1,e2⟩⟩ rfl
 have h1p : a=k.ar.length:=by have:=of_ndecide h1; omega
 have hends : ∀ i,i<k.src.frm.length→EndAt k i:=fun i hi=>hall i (by omega);clear h1 hall;subst h1p;refine tt ?_;refine awp_for [0,3,4,119,120] (fun x _=>[(121,some (.int .i64 (x : Int)))]) (fun x _ H'=>H'=H∧∀ i,i<x→IdnAt k i) k.src.idn.length () ⟨rfl,by simp⟩ rfl ?_
 rintro x _ H hx ⟨rfl,hall⟩;refine tt ?_;apply bk <;> intro h1
 ·have h1p : x<k.src.idn.length:=of_decide h1
  have hcil:=hc.il
  have hdil:=hd.il
  have w1:=wsucc (k:=x) (by omega)
  have vi:=hc.idn _ (mem_getD.mpr ⟨x,h1p,rfl⟩)
  have vo:=f3 _ (mem_getD.mpr ⟨x,(by omega : x<k.ob.length),rfl⟩);refine tt ?_;refine ⟨h1p,⟨vi.1,by omega⟩,by omega,⟨vo.1,by omega⟩, ?_⟩
  by_cases e1 : ix k.ar (k.src.idn.getD x default)=ix k.tgt.idn (k.ob.getD x default)
  rotate_left
  ·have e1':=decide_eq_false e1;try simp only [go_sem,↓reduceIte,reduceEqDiff,reduceAdd,reduceMul,reduceLeDiff,reduceLT,e1',Bool.not_false]
   exact pure_ret (congrArg AV.bool (dec_f fun h=>e1 (h.2.idn x h1p)).symm) (.refl _)
  have e1':=decide_eq_true e1;try simp only [go_sem,↓reduceIte,reduceEqDiff,reduceAdd,reduceMul,reduceLeDiff,reduceLT,e1',Bool.not_true,w1]
  exact for_next () (by omega) ⟨rfl,lt_succ_all hall e1⟩ rfl
 have h1p : x=k.src.idn.length:=by have:=of_ndecide h1; omega
 have hidn : ∀ i,i<k.src.idn.length→IdnAt k i:=fun i hi=>hall i (by omega);clear h1 hall;subst h1p;refine tt ?_
 have hccl:=hc.cl
 have hdcl:=hd.cl
 have hcmp : ∀ a b,a<k.src.frm.length→b<k.src.frm.length→0≤(k.src.comp.getD a default).getD b default→k.src.to.getD a default=k.src.frm.getD b default∧((k.src.comp.getD a default).getD b default).toNat<k.src.frm.length:=fun a b ha hb h=>by
  have e : k.src.to.getD a default=k.src.frm.getD b default:=by
   apply Classical.byContradiction; intro hn
   have:=hc.non a b ha hb hn;omega
  exact ⟨e,by have:=(hc.yes a b ha hb e).1; omega⟩
 refine awp_for [0,4,151,152] (fun a _=>[(153,some (.int .i64 (a : Int)))]) (fun a _ H'=>H'=H∧∀ i,i<a→∀ j,j<k.src.frm.length→CmpAt k i j) k.src.comp.length () ⟨rfl,by simp⟩ rfl ?_
 rintro a _ H ha ⟨rfl,hall⟩;refine tt ?_;apply bk <;> intro h1
 ·have h1p : a<k.src.comp.length:=of_decide h1
  have w1:=wsucc (k:=a) (by omega)
  have va:=f4 _ (mem_getD.mpr ⟨a,(by omega : a<k.ar.length),rfl⟩)
  have ra:=hc.row a (by omega)
  have rd:=hd.row' (a:=k.ar.getD a default) (by omega);refine tt ?_;refine ⟨h1p,tt ?_⟩;refine awp_for [0,4,9,151,152,153,158,159] (fun b _=>[(160,some (.int .i64 (b : Int)))]) (fun b _ H'=>H'=H∧∀ j,j<b→CmpAt k a j) (k.src.comp.getD a default).length () ⟨rfl,by simp⟩ rfl ?_
  rintro b _ H hb ⟨rfl,hrow⟩;refine tt ?_;apply bk <;> intro h2
  ·have h2p : b<(k.src.comp.getD a default).length:=of_decide h2
   have w2:=wsucc (k:=b) (by omega)
   have vb:=f4 _ (mem_getD.mpr ⟨b,(by omega : b<k.ar.length),rfl⟩);refine tt ?_;refine ⟨h2p, ?_⟩
   by_cases t : 0≤(k.src.comp.getD a default).getD b default
   ·obtain ⟨te,tl⟩:=hcmp a b (by omega) (by omega) t
    have t':=decide_eq_true t;try simp only [go_sem,↓reduceIte,reduceEqDiff,reduceAdd,reduceMul,reduceLeDiff,reduceLT,t']
    refine ⟨⟨t,by omega⟩,by omega,by omega,_,(catThen_ok B k.tgt (k.ar.getD a default) (k.ar.getD b default) ⟨va.1,by omega⟩ ⟨vb.1,by omega⟩).run, ?_⟩
    by_cases e1 : ix k.ar ((k.src.comp.getD a default).getD b default)=ix (ix k.tgt.comp (k.ar.getD a default)) (k.ar.getD b default)
    rotate_left
    ·have e1':=decide_eq_false e1;try simp only [go_sem,↓reduceIte,reduceEqDiff,reduceAdd,reduceMul,reduceLeDiff,reduceLT,e1',Bool.not_false]
     exact pure_ret (congrArg AV.bool (dec_f fun h=>e1 (h.2.comp a b (by omega) (by omega) te)).symm) (.refl _)
    have e1':=decide_eq_true e1;try simp only [go_sem,↓reduceIte,reduceEqDiff,reduceAdd,reduceMul,reduceLeDiff,reduceLT,e1',Bool.not_true,w2]
    exact for_next () (by omega) ⟨rfl,lt_succ_all hrow fun _=>e1⟩ rfl
   ·have t':=decide_eq_false t;try simp only [go_sem,↓reduceIte,reduceEqDiff,reduceAdd,reduceMul,reduceLeDiff,reduceLT,t',w2]
    exact for_next () (by omega) ⟨rfl,lt_succ_all hrow fun h=>absurd h t⟩ rfl
  have h2p : b=(k.src.comp.getD a default).length:=by have:=of_ndecide h2; omega
  have hrow2 : ∀ j,j<k.src.frm.length→CmpAt k a j:=fun j hj=>hrow j (by omega);clear h2 hrow;refine tw w1 ?_;exact for_next () (by omega) ⟨rfl,lt_succ_all hall hrow2⟩ rfl
 have h1p : a=k.src.comp.length:=by have:=of_ndecide h1; omega
 refine tt ?_;exact pure_ret (congrArg AV.bool (dec_t ⟨hF,hends,hidn,fun i j hi hj e=>hall i (by omega) j hj (hc.yes i j hi hj e).1.1⟩).symm) (.refl _)
theorem isFunctorI_ok (B : Nat) (k : FU) : Pur Tryz.prog B 19 [.ptr k.cells] (.bool (dec k.Is)):=by
 refine ⟨fun H0=>c19 (by simp) fun _=>?_⟩;unfold s19;refine tt ?_;refine ⟨_,(areCats_ok B [k.src,k.tgt]).run, ?_⟩
 by_cases h : k.src.Is∧k.tgt.Is
 ·rw [dec_t (fun c hc=>by rcases List.mem_cons.mp hc with rfl | hc; exact h.1; obtain rfl:=List.mem_singleton.mp hc; exact h.2)];refine tt ?_;refine ⟨_,(fuFits_ok B k h.1.1 h.2.1).run,tt ?_⟩;exact pure_ret (congrArg AV.bool (dec_congr ⟨fun q=>⟨h.1,h.2,q.1,q.2⟩,fun q=>⟨q.fit,q.laws⟩⟩)) (.refl _)
 ·rw [dec_f fun q=>h ⟨q _ (by simp),q _ (by simp)⟩];refine tt ?_;exact pure_ret (congrArg AV.bool (dec_f fun q=>h ⟨q.sI,q.tI⟩).symm) (.refl _)
theorem along_ok (B : Nat) {k : FU} {g : SF} (hk : k.Is) (hg : g.Is) (e : k.tgt=g.shape) : Pur Tryz.prog B 33 [.ptr k.cells,.ptr g.cells] (.agg (alongF k g).cells):=by
 refine ⟨fun H0=>c33p (by simp) fun _=>?_⟩
 have sm:=hk.sI.1.m
 have al:=hk.fit.al
 have gs:=hg.1.sl
 have ga:=hg.1.al;rw [← e] at gs ga;unfold s33p
 have o : Owns H0 H0 []:=.nil _;refine tt ?_;refine nb o fun id4 H o=>tt ?_;refine ⟨_,(catCopy_ok B k.src).run,tt ?_⟩;refine ⟨_,(then_ok B k.ob g.sizes fun y hy=>by have:=hk.fit.obr y hy; omega).run,tt ?_⟩;refine nb o fun id5 H o=>tt ?_;refine sw o fun H o=>?_
 have o : Owns H0 H [(id5,.cells 7 (aC k.src (iL (k.ob.map (ix g.sizes))) .nilsl) 0),(id4,.cells 7 z7c 0)]:=o;refine tt ?_;refine awp_for [1,4,5,25,26] (G:=AV × Ob) (fun n _=>[(27,some (.int .i64 (n : Int)))]) (fun n q H=>LsP iL q.2 q.1 ((k.ar.take n).map (ix g.acts))∧Owns H0 H ((id5,.cells 7 (aC k.src (iL (k.ob.map (ix g.sizes))) q.1) 0)::(q.2++[(id4,.cells 7 z7c 0)]))) k.ar.length (.nilsl,[]) ⟨.inl ⟨rfl,by simp,rfl⟩,o⟩ rfl ?_;clear o
 rintro n ⟨X6,p6⟩ H hn ⟨h6,o⟩;dsimp only at h6 o;refine tt ?_;apply bk <;> intro h1
 ·have h1p:=of_decide h1
  have w:=wsucc (k:=n) (by omega)
  have hy:=hk.fit.arr _ (mem_getD.mpr ⟨n,h1p,rfl⟩)
  have hy2 : 0≤k.ar.getD n default∧(k.ar.getD n default).toNat<g.acts.length:=⟨hy.1,by omega⟩
  have hl : ((k.ar.take n).map (ix g.acts)).length=n:=by rw [List.length_map,List.length_take]; omega
  have g5:=o.h0
  have e6 : (aC k.src (iL (k.ob.map (ix g.sizes))) X6).getD 6 nv=X6:=rfl;refine tt ?_;refine ⟨h1p,tt ?_⟩;refine ⟨⟨_,_,g5⟩,rd_get g5 (by simp [aC]) ?_⟩;refine tw e6 ?_;refine ⟨hy2, ?_⟩;refine ⟨_,(clone_ok B _).run,tt ?_⟩;refine (LsO.mk (p:=p6) (l:=(id5,.cells 7 (aC k.src (iL (k.ob.map (ix g.sizes))) X6) 0)::[(id4,.cells 7 z7c 0)]) (o.pm) h6).app (ix g.acts (k.ar.getD n default)) rfl (by rw [hl]; simp only [maxL]; omega) fun i6 H o=>?_
  have et : ((k.ar.take (n+1)).map (ix g.acts))=((k.ar.take n).map (ix g.acts))++[ix g.acts (k.ar.getD n default)]:=by rw [take_succ' _ h1p,List.map_append]; rfl
  rw [← et] at o ⊢;refine tt ?_;refine st_cells o.swap (by simp [aC]) (by (try simp only [go_sem]); (try simp)) (by first | (simp only [go_sem]; done) | ((try simp only [go_sem]); simp [AV.one,one_mL])) fun H o=>?_;rw [show wr (aC k.src (iL (k.ob.map (ix g.sizes))) X6) 6 [.buf i6 ((k.ar.take (n+1)).map (ix g.acts)).length]=aC k.src (iL (k.ob.map (ix g.sizes))) (.buf i6 ((k.ar.take (n+1)).map (ix g.acts)).length) from rfl] at o;refine tw w ?_;exact for_next (.buf i6 ((k.ar.take (n+1)).map (ix g.acts)).length,[(i6,.cells 1 (((k.ar.take (n+1)).map (ix g.acts)).map iL) 0)]) h1p ⟨.inr ⟨i6,rfl,rfl⟩,o⟩ rfl
 have h1p:=of_ndecide h1
 obtain rfl : n=k.ar.length:=by omega
 have ht : k.ar.take k.ar.length=k.ar:=List.take_length;rw [ht] at h6;refine tt ?_;refine wk_ls (f:=iL) 6 (LsO.mk (p:=p6) (l:=(id5,.cells 7 (aC k.src (iL (k.ob.map (ix g.sizes))) X6) 0)::[(id4,.cells 7 z7c 0)]) (o.pm) h6) rfl fun H o=>wkW_done ?_
 have o : Owns H0 H [(id5,.cells 7 (alongF k g).cells 0),(id4,.cells 7 z7c 0)]:=o;refine tt ?_;refine rd_celln o (by simp [SF.cells]) ?_;refine tt ?_;refine st_cells o.swap (by simp [z7c]) (by (try simp only [go_sem]); (try simp)) (by first | (simp only [go_sem]; done) | ((try simp only [go_sem]); simp [AV.one,one_mL])) fun H o=>?_;unfold z7c at o;simp only [wr_cons,wr_nil,List.set_cons_zero,List.set_cons_succ] at o;refine tt ?_;rw [o.rc 7 0 (by simp)];refine tt ?_;exact pure_ret rfl o.sub
noncomputable def txR (c : Cat) (q : QS) : AV:=if dec (c.Is∧q.Ok c) then .tup [.str (textB q),iI 0] else .tup [.str [],iI 1]
theorem queryTextI_ok (B : Nat) (hB : B % 2=1) (c : Cat) (q : QS) : Pur Tryz.prog B 8 [.agg c.cells,.agg q.cells] (txR c q):=by
 refine ⟨fun H0=>c8 (by simp) fun _=>?_⟩;unfold s8;refine tt ?_;refine (show Pur Tryz.prog B 27 [.ptr c.cells,mL qsP [q]] _ from areQueries_ok B c [q]).go fun _=>?_
 by_cases h : c.Is∧q.Ok c
 rotate_left
 ·rw [dec_f (by simpa using h)];refine tt ?_;exact pure_ret (by rw [txR,dec_f h]; rfl) (.refl _)
 rw [dec_t (by simpa using h)];refine tt ?_;refine (textI_ok B hB q (okSm h.2 h.1.1)).go fun _=>tt ?_;exact pure_ret (by rw [txR,dec_t h]; rfl) (.refl _)
theorem queryTextS_ok (B : Nat) (c : Cat) (q : QS) : Pur Tryz.prog B 9 [.agg c.cells,.agg q.cells] (txR c q):=by
 refine ⟨fun H0=>c9 (by simp) fun _=>?_⟩;unfold s9;refine tt ?_;refine (specIsQuery_ok B c q).go fun _=>?_
 by_cases h : c.Is∧q.Ok c
 rotate_left
 ·rw [dec_f h];refine tt ?_;exact pure_ret (by rw [txR,dec_f h]; rfl) (.refl _)
 rw [dec_t h];refine tt ?_;refine (l38Text_ok B q (okSm h.2 h.1.1)).go fun _=>tt ?_;exact pure_ret (by rw [txR,dec_t h]; rfl) (.refl _)
theorem cloneT_new (B : Nat) (l : List (Int × Int)) (hl : l.length≤1000) : New Tryz.prog B 49 [mL prE l] fun p X=>LsPn 2 prE p X l:=by
 refine ⟨fun H0=>c49p (by simp) fun _=>?_⟩;unfold s49p
 have o : Owns H0 H0 []:=.nil _;refine tt ?_;refine (show nlsW false (some (.sl (l.map prE))) _ _ from ⟨fun e b=>?_,fun e=>?_⟩)
 ·have e2 : l=[]:=List.map_eq_nil_iff.mp e
  cases b with
  | true =>
   refine tt ?_;exact ⟨H0,.refl H0,[],.inl ⟨rfl,rfl,e2⟩,o⟩
  | false =>
   refine tt ?_;refine new_listN prE o fun id H o=>tt ?_;refine app_listN o rfl (by simp only [maxL,List.length_nil]; omega) fun id H o=>tt ?_;exact ⟨H,.refl H,_,.inr ⟨id,rfl,by simp⟩,by simpa using o⟩
 ·refine tt ?_;refine new_listN prE o fun id H o=>tt ?_;refine app_listN o rfl (by simp only [maxL,List.length_nil]; omega) fun id H o=>tt ?_;exact ⟨H,.refl H,_,.inr ⟨id,rfl,by simp⟩,by simpa using o⟩
theorem lsc1 {n : Nat} {p : Ob} {X : AV} {A : List (Int × Int)} (h : LsPn n prE p X A) : X.cells=[X]:=by
 rcases h with ⟨_,rfl,_⟩ | ⟨id,_,rfl⟩ <;> rfl
theorem lsc2 {n : Nat} {p : Ob} {X : AV} {A : List (Int × Int)} (h : LsPn n prE p X A) : X.one=true:=by
 rcases h with ⟨_,rfl,_⟩ | ⟨id,_,rfl⟩ <;> rfl
def CqQ (q : QS) (p : Ob) (r : AV) : Prop:=∃ XL XR pl pr,r=.agg [iL q.v,XL,XR,iL q.o]∧LsPn 2 prE pl XL q.l∧LsPn 2 prE pr XR q.r∧p=pl++pr
theorem copyQuery_new (B : Nat) (q : QS) (h : QSm q) : New Tryz.prog B 21 [.agg q.cells] (CqQ q):=by
 refine ⟨fun H0=>c21p (by simp) fun _=>?_⟩;unfold s21p
 have o : Owns H0 H0 []:=.nil _
 have hl:=h.l6
 have hr:=h.rl;refine tt ?_;refine newRef_own o fun id H o=>tt ?_;refine ⟨_,(clone_ok B q.v).run, ?_⟩;refine New.go (cloneT_new B q.l (by omega)) o fun XL pl H hL o s1=>⟨s1, ?_⟩;refine New.go (cloneT_new B q.r (by omega)) o fun XR pr H hR o s2=>⟨s2, ?_⟩;refine ⟨_,(clone_ok B q.o).run, ?_⟩
 have c1:=lsc1 hL
 have c2:=lsc1 hR
 have o : Owns H0 H ((id,.cells 4 [AV.nilsl,AV.nilsl,AV.nilsl,AV.nilsl] 0)::(pl++pr)):=o.pm;try simp only [go_sem,↓reduceIte,reduceEqDiff,reduceAdd,reduceMul,reduceLeDiff,reduceLT,c1,c2]
 refine st_cells o (by simp) (by (try simp only [go_sem]); (try simp)) (fun c hc=>by
  simp only [List.mem_cons,List.not_mem_nil,or_false] at hc
  rcases hc with rfl | rfl | rfl | rfl
  ·rfl
  ·exact lsc2 hL
  ·exact lsc2 hR
  ·rfl) fun H o=>?_
 simp only [wr_cons,wr_nil,List.set_cons_zero,List.set_cons_succ] at o;refine tt ?_
 have hrc:=o.rc 4 0 (by simp);simp only [List.drop_zero] at hrc;rw [hrc];refine tt ?_;exact ⟨H,.refl H,pl++pr,⟨XL,XR,pl,pr,rfl,hL,hR,rfl⟩,o.tl⟩
def movT (k : FU) (l : List (Int × Int)) (n : Nat) : List (Int × Int):=(l.take n).map (fun t=>(t.1,ix k.ar t.2))++l.drop n
theorem movT_len (k : FU) (l : List (Int × Int)) (n : Nat) : (movT k l n).length=l.length:=by simp [movT]; omega
theorem movT_all (k : FU) (l : List (Int × Int)) : movT k l l.length=l.map fun t=>(t.1,ix k.ar t.2):=by simp [movT]
theorem movT_zero (k : FU) (l : List (Int × Int)) : movT k l 0=l:=by simp [movT]
theorem movT_step (k : FU) (l : List (Int × Int)) {n : Nat} (h : n<l.length) : (movT k l n).set n ((l.getD n default).1,ix k.ar (l.getD n default).2)=movT k l (n+1):=by
 refine List.ext_getElem (by simp [movT_len]) fun i h1 h2=>?_
 have e : l.getD n default=l[n]:=by rw [List.getD_eq_getElem?_getD,List.getElem?_eq_getElem h]; rfl
 simp only [e];rw [List.getElem_set]
 by_cases hi : n=i
 ·subst hi;rw [if_pos rfl]
  have hm : min (n+1) l.length=n+1:=by omega
  simp [movT,List.getElem_append,hm]
 ·rw [if_neg hi];simp only [movT,List.getElem_append,List.length_map,List.length_take,List.getElem_map,List.getElem_take,List.getElem_drop]
  have hl : i<l.length:=by simpa [movT_len] using h2
  by_cases h3 : i<n
  ·rw [dif_pos (by omega),dif_pos (by omega)]
  ·rw [dif_neg (by omega),dif_neg (by omega)]
   congr 1; omega
theorem movT_get (k : FU) (l : List (Int × Int)) {n : Nat} (h : n<l.length) : (movT k l n).getD n default=l.getD n default:=by
 rw [movT,List.getD_eq_getElem?_getD,List.getD_eq_getElem?_getD,List.getElem?_append_right (by simp; omega)]
 simp [Nat.min_eq_left (Nat.le_of_lt h)]
theorem flat_prE (l : List (Int × Int)) (a : Int × Int) {n : Nat} (h : n<l.length) : (flat (l.map prE)).set (2*n+1) (iI a.2)=flat ((l.set n ((l.getD n default).1,a.2)).map prE):=by
 induction l generalizing n with
 | nil=>simp at h
 | cons x r ih =>
  cases n with
  | zero=>simp [flat,prE,AV.cells]
  | succ n =>
   have:=ih (n:=n) (by simpa using h);simp only [flat,List.map_cons,List.flatMap_cons,prE,AV.cells,List.cons_append,List.nil_append,List.set_cons_succ,Nat.mul_add,List.getD_cons_succ] at this ⊢;rw [← this]
theorem movT_st (k : FU) (l : List (Int × Int)) {n : Nat} (h : n<l.length) : (flat ((movT k l n).map prE)).set (n*2+1) (.int .i64 (ix k.ar (l.getD n default).2))=flat ((movT k l (n+1)).map prE):=by
 have:=flat_prE (movT k l n) ((0 : Int),ix k.ar (l.getD n default).2) (n:=n) (by rw [movT_len]; exact h);rw [movT_get k l h,movT_step k l h,Nat.mul_comm] at this;exact this
theorem wk_lsN {F : Env→Heap→Prop} {σ : Env} {H0 H : Heap} {l p : Ob} {id sz fr : Nat} {cs : List AV} {X : AV} {A : List (Int × Int)} (k : Nat) (h : LsPn 2 prE p X A)
  (o : Owns H0 H ((id,.cells sz cs fr)::(p++l))) (hc : cs[k]? = some X) (hk : ∀ H',Owns H0 H' ((id,.cells sz (cs.set k (mL prE A)) fr)::l)→wkW F σ H') : wkW F σ H:=by
 rcases h with ⟨rfl,rfl,rfl⟩ | ⟨id2,rfl,rfl⟩
 ·exact wk_nil k o hc hk
 ·exact wk_cellN k o hc rfl hk
theorem len_ls {n : Nat} {p : Ob} {X : AV} {A : List (Int × Int)} (h : LsPn n prE p X A) : lenE (some X)=some (True,.int .i64 A.length):=by
 rcases h with ⟨_,rfl,rfl⟩ | ⟨id,_,rfl⟩ <;> rfl
noncomputable def mvR (k : FU) (q : QS) : AV:=if dec (k.Is∧q.Ok k.src) then .tup [.agg (movQ k q).cells,iI 0] else .tup [.agg [.nilsl,.nilsl,.nilsl,.nilsl],iI 1]
theorem moveI_ok (B : Nat) (k : FU) (q : QS) : Pur Tryz.prog B 6 [.agg k.cells,.agg q.cells] (mvR k q):=by
 refine ⟨fun H0=>c6p (by simp) fun _=>?_⟩;unfold s6p
 have o : Owns H0 H0 []:=.nil _;refine tt ?_;refine newRef_own o fun id4 H o=>tt ?_;refine (isFunctorI_ok B k).go fun _=>?_
 by_cases hk : k.Is
 rotate_left
 ·rw [dec_f hk];refine tt ?_;refine sw o fun H o=>tt ?_
  have hrc:=o.rc 4 0 (by simp);simp only [List.drop_zero] at hrc;rw [hrc];exact rets_ret (by rw [mvR,dec_f (fun h=>hk h.1)]; rfl) o.sub
 rw [dec_t hk];refine tt ?_;refine (isQuery_ok B k.src hk.sI q).go fun _=>?_
 by_cases hq : q.Ok k.src
 rotate_left
 ·rw [dec_f hq];refine tt ?_;refine sw o fun H o=>tt ?_
  have hrc:=o.rc 4 0 (by simp);simp only [List.drop_zero] at hrc;rw [hrc];exact rets_ret (by rw [mvR,dec_f (fun h=>hq h.2)]; rfl) o.sub
 rw [dec_t hq]
 have hs:=okSm hq hk.sI.1;refine tt ?_;refine New.go (copyQuery_new B q hs) o fun r p H ⟨XL,XR,pl,pr,e,hL,hR,ep⟩ o s1=>⟨s1, ?_⟩;subst e ep;refine tt ?_;refine newRef_own o fun id6 H o=>tt ?_
 refine st_cells o (by simp) (by (try simp only [go_sem]); (try simp)) (fun c hc=>by
  simp only [List.mem_cons,List.not_mem_nil,or_false] at hc
  rcases hc with rfl | rfl | rfl | rfl
  ·rfl
  ·exact lsc2 hL
  ·exact lsc2 hR
  ·rfl) fun H o=>?_
 simp only [wr_cons,wr_nil,List.set_cons_zero,List.set_cons_succ] at o;refine tt ?_;refine (then_ok B q.v k.ob fun y hy=>by have:=hq.vo y hy; have:=hk.fit.ol; omega).go fun _=>tt ?_;refine sw o fun H o=>?_
 have o : Owns H0 H ((id6,.cells 4 [iL (q.v.map (ix k.ob)),XL,XR,iL q.o] 0)::(pl++pr++[(id4,.cells 4 [AV.nilsl,AV.nilsl,AV.nilsl,AV.nilsl] 0)])):=o;refine tt ?_;refine rd_cells o (by simp) ?_
 have el:=len_ls hL
 have eX : [iL (List.map (ix k.ob) q.v),XL,XR,iL q.o].getD 1 nv=XL:=rfl;rw [eX];refine tw el ?_
 refine awp_for [2,3,4,6,26] (G:=Unit) (fun n _=>[(27,some (.int .i64 (n : Int)))])
  (fun n _ H=>∃ pl pr,LsPn 2 prE pl XL (movT k q.l n)∧LsPn 2 prE pr XR (movT k q.r n)∧Owns H0 H ((id6,.cells 4 [iL (q.v.map (ix k.ob)),XL,XR,iL q.o] 0)::(pl++pr++[(id4,.cells 4 [AV.nilsl,AV.nilsl,AV.nilsl,AV.nilsl] 0)])))
  q.l.length () ⟨pl,pr,by rw [movT_zero]; exact hL,by rw [movT_zero]; exact hR,o⟩ rfl ?_
 clear o hL hR
 rintro n _ H hn ⟨pL,pR,hL,hR,o⟩
 have rl:=hs.rl
 have l6:=hs.l6;refine tt ?_;apply bk <;> intro h1
 ·have h1p : n<q.l.length:=of_decide h1
  have w1:=wsucc (k:=n) (by omega)
  have cd:=hq.cond n h1p
  have al:=hk.fit.al
  have ta:=cd.1.2.1
  have tb:=cd.2.1.2.1
  obtain ⟨idL,rfl,rfl⟩ : ∃ id,pL=[(id,.cells 2 (flat ((movT k q.l n).map prE)) 0)]∧XL=.buf id (movT k q.l n).length:=by
   rcases hL with ⟨_,_,e⟩ | h
   ·have:=movT_len k q.l n; rw [e,List.length_nil] at this; omega
   ·exact h
  obtain ⟨idR,rfl,rfl⟩ : ∃ id,pR=[(id,.cells 2 (flat ((movT k q.r n).map prE)) 0)]∧XR=.buf id (movT k q.r n).length:=by
   rcases hR with ⟨_,_,e⟩ | h
   ·have:=movT_len k q.r n; rw [e,List.length_nil] at this; omega
   ·exact h
  have lL:=movT_len k q.l n
  have lR:=movT_len k q.r n;rw [lL,lR] at o;refine tt ?_;refine ⟨⟨_,_,o.h0⟩,rd_cells o (by simp) ?_⟩;refine tt ?_;refine ⟨prE_at h1p, ?_⟩;rw [prE_get h1p];refine tt ?_;refine ⟨⟨ta.1,by omega⟩,tt ?_⟩;refine ⟨h1p, ?_⟩
  have o : Owns H0 H ((idL,.cells 2 (flat ((movT k q.l n).map prE)) 0)::[(id6,.cells 4 [iL (List.map (ix k.ob) q.v),AV.buf idL q.l.length,AV.buf idR q.r.length,iL q.o] 0),(idR,.cells 2 (flat ((movT k q.r n).map prE)) 0),(id4,.cells 4 [AV.nilsl,AV.nilsl,AV.nilsl,AV.nilsl] 0)]):=o.pm;refine st_cells o (by rw [flat_len (n:=2) (f:=prE) (movT k q.l n),lL]; omega) rfl (by simp [AV.one]) fun H o=>?_;simp only [wr_cons,wr_nil] at o;rw [movT_st k q.l h1p] at o
  have o:=o.swap;refine tt ?_;refine ⟨⟨_,_,o.h0⟩,rd_cells o (by simp) ?_⟩;refine tt ?_;refine ⟨prE_at (by omega), ?_⟩;rw [prE_get (by omega)];refine tt ?_;refine ⟨⟨tb.1,by omega⟩,tt ?_⟩;refine ⟨by omega, ?_⟩
  have o : Owns H0 H ((idR,.cells 2 (flat ((movT k q.r n).map prE)) 0)::[(id6,.cells 4 [iL (List.map (ix k.ob) q.v),AV.buf idL q.l.length,AV.buf idR q.r.length,iL q.o] 0),(idL,.cells 2 (flat ((movT k q.l (n+1)).map prE)) 0),(id4,.cells 4 [AV.nilsl,AV.nilsl,AV.nilsl,AV.nilsl] 0)]):=o.pm;refine st_cells o (by rw [flat_len (n:=2) (f:=prE) (movT k q.r n),lR]; omega) rfl (by simp [AV.one]) fun H o=>?_;simp only [wr_cons,wr_nil] at o;rw [movT_st k q.r (by omega)] at o;refine tw w1 ?_;refine for_next () h1p ⟨_,_,.inr ⟨idL,rfl,by rw [lL,movT_len]⟩,.inr ⟨idR,rfl,by rw [lR,movT_len]⟩, ?_⟩ rfl;rw [lL,lR];exact o.pm
 have h1p:=of_ndecide h1
 obtain rfl : n=q.l.length:=by omega
 rw [movT_all] at hL;rw [← rl,movT_all] at hR
 have o : Owns H0 H ((id6,.cells 4 [iL (q.v.map (ix k.ob)),XL,XR,iL q.o] 0)::(pL++(pR++[(id4,.cells 4 [AV.nilsl,AV.nilsl,AV.nilsl,AV.nilsl] 0)]))):=by rw [← List.append_assoc]; exact o
 refine tt ?_;refine wk_lsN 1 hL o rfl fun H o=>?_;refine wk_lsN 2 hR o rfl fun H o=>wkW_done ?_;simp only [List.set_cons_zero,List.set_cons_succ] at o;refine tt ?_;refine rd_celln o (by simp) ?_;refine tt ?_;refine sw o.swap fun H o=>tt ?_
 have hrc:=o.rc 4 0 (by simp);simp only [List.drop_zero] at hrc;rw [hrc];exact rets_ret (by rw [mvR,dec_t ⟨hk,hq⟩]; rfl) o.sub
def mvT (k : FU) (l : List (Int × Int)) : List (Int × Int):=l.map fun t=>(t.1,ix k.ar t.2)
theorem mvT_len (k : FU) (l : List (Int × Int)) : (mvT k l).length=l.length:=by simp [mvT]
theorem mvT_succ (k : FU) (l : List (Int × Int)) {n : Nat} (h : n<l.length) : mvT k (l.take (n+1))=mvT k (l.take n)++[((l.getD n default).1,ix k.ar (l.getD n default).2)]:=by
 rw [take_succ' _ h,mvT,List.map_append]; rfl
theorem moveS_ok (B : Nat) (k : FU) (q : QS) : Pur Tryz.prog B 7 [.agg k.cells,.agg q.cells] (mvR k q):=by
 refine ⟨fun H0=>c7p (by simp) fun _=>?_⟩;unfold s7p
 have o : Owns H0 H0 []:=.nil _;refine tt ?_;refine newRef_own o fun id4 H o=>tt ?_;refine (l06Is_ok B k).go fun _=>?_
 by_cases hk : k.Is
 rotate_left
 ·rw [dec_f hk];refine tt ?_;refine sw o fun H o=>tt ?_
  have hrc:=o.rc 4 0 (by simp);simp only [List.drop_zero] at hrc;rw [hrc];exact rets_ret (by rw [mvR,dec_f (fun h=>hk h.1)]; rfl) o.sub
 rw [dec_t hk];refine tt ?_;refine (specIsQuery_ok B k.src q).go fun _=>?_
 by_cases hq : q.Ok k.src
 rotate_left
 ·rw [dec_f (fun h=>hq h.2)];refine tt ?_;refine sw o fun H o=>tt ?_
  have hrc:=o.rc 4 0 (by simp);simp only [List.drop_zero] at hrc;rw [hrc];exact rets_ret (by rw [mvR,dec_f (fun h=>hq h.2)]; rfl) o.sub
 rw [dec_t ⟨hk.sI,hq⟩]
 have hs:=okSm hq hk.sI.1
 have rl:=hs.rl
 have l6:=hs.l6
 have al:=hk.fit.al;refine tt ?_;refine ⟨_,(l01Then_ok B q.v k.ob fun y hy=>by have:=hq.vo y hy; have:=hk.fit.ol; omega).run, ?_⟩;refine ⟨_,(l01Own_ok B q.o).run,tt ?_⟩;refine newRef_own o fun id6 H o=>tt ?_;refine sw o fun H o=>tt ?_;refine wk_nil 1 o rfl fun H o=>wk_nil 2 o rfl fun H o=>wkW_done ?_;simp only [List.set_cons_zero,List.set_cons_succ] at o
 have o : Owns H0 H [(id6,.cells 4 [iL (q.v.map (ix k.ob)),mL prE [],mL prE [],iL q.o] 0),(id4,.cells 4 [AV.nilsl,AV.nilsl,AV.nilsl,AV.nilsl] 0)]:=o;refine tt ?_
 refine awp_for [2,3,4,6] (G:=Unit) (fun n _=>[(7,some (.int .i64 (n : Int)))])
  (fun n _ H=>Owns H0 H [(id6,.cells 4 [iL (q.v.map (ix k.ob)),mL prE (mvT k (q.l.take n)),mL prE (mvT k (q.r.take n)),iL q.o] 0),(id4,.cells 4 [AV.nilsl,AV.nilsl,AV.nilsl,AV.nilsl] 0)])
  q.l.length () (by simpa [mvT] using o) rfl ?_
 clear o
 rintro n _ H hn o;refine tt ?_;apply bk <;> intro h1
 ·have h1p : n<q.l.length:=of_decide h1
  have w1:=wsucc (k:=n) (by omega)
  have cd:=hq.cond n h1p
  have ta:=cd.1.2.1
  have tb:=cd.2.1.2.1
  have lL : (mvT k (q.l.take n)).length=n:=by rw [mvT_len,List.length_take]; omega
  have lR : (mvT k (q.r.take n)).length=n:=by rw [mvT_len,List.length_take]; omega
  refine tt ?_;refine ⟨⟨_,_,o.h0⟩,rd_cells o (by simp) ?_⟩;refine tt ?_;refine ⟨prE_at h1p, ?_⟩;rw [prE_get h1p];refine tt ?_;refine ⟨prE_at h1p, ?_⟩;rw [prE_get h1p];refine tt ?_;refine ⟨⟨ta.1,by omega⟩,tt ?_⟩;refine new_listN prE o fun z H o=>tt ?_;refine app_listN (f:=prE) (r:=mvT k (q.l.take n)) o rfl (by simp only [maxL,List.length_nil]; omega) fun z H o=>?_;simp only [List.nil_append] at o;refine tt ?_;refine app_ownN (f:=prE) ((q.l.getD n default).1,ix k.ar (q.l.getD n default).2) o rfl rfl (by simp only [maxL]; omega) fun z H o=>?_;rw [← mvT_succ k q.l h1p] at o ⊢;refine tt ?_;refine sw o.swap fun H o=>tt ?_;refine ⟨⟨_,_,o.h0⟩,rd_cells o (by simp) ?_⟩;refine tt ?_;refine ⟨prE_at (by omega), ?_⟩;rw [prE_get (by omega)];refine tt ?_;refine ⟨prE_at (by omega), ?_⟩;rw [prE_get (by omega)];refine tt ?_;refine ⟨⟨tb.1,by omega⟩,tt ?_⟩;refine new_listN prE o fun z2 H o=>tt ?_;refine app_listN (f:=prE) (r:=mvT k (q.r.take n)) o rfl (by simp only [maxL,List.length_nil]; omega) fun z2 H o=>?_;simp only [List.nil_append] at o;refine tt ?_;refine app_ownN (f:=prE) ((q.r.getD n default).1,ix k.ar (q.r.getD n default).2) o rfl rfl (by simp only [maxL]; omega) fun z2 H o=>?_;rw [← mvT_succ k q.r (by omega)] at o ⊢;refine tt ?_;refine sw o.swap fun H o=>tt ?_;refine wk_cellN (f:=prE) (A:=mvT k (q.r.take (n+1))) 2 o rfl rfl fun H o=>wk_cellN (f:=prE) (A:=mvT k (q.l.take (n+1))) 1 o rfl rfl fun H o=>wkW_done ?_;simp only [List.set_cons_zero,List.set_cons_succ] at o;refine tw w1 ?_;exact for_next () h1p o rfl
 have h1p:=of_ndecide h1
 obtain rfl : n=q.l.length:=by omega
 rw [List.take_length,← rl,List.take_length] at o;refine tt ?_;refine rd_celln o (by simp) ?_;refine tt ?_;refine sw o.swap fun H o=>tt ?_
 have hrc:=o.rc 4 0 (by simp);simp only [List.drop_zero] at hrc;rw [hrc];exact rets_ret (by rw [mvR,dec_t ⟨hk,hq⟩]; rfl) o.sub
noncomputable def alCode (k : FU) (g : SF) : Int:=if dec (k.Is∧g.Is) then (if dec (k.tgt=g.shape) then 0 else 5) else 1
theorem alongCode_ok (B : Nat) (k : FU) (g : SF) : Pur Tryz.prog B 32 [.ptr k.cells,.ptr g.cells] (iI (alCode k g)):=by
 refine ⟨fun H0=>c32 (by simp) fun _=>?_⟩;unfold s32;refine tt ?_;refine (isFunctorI_ok B k).go fun _=>?_
 by_cases hk : k.Is
 rotate_left
 ·rw [dec_f hk];refine tt ?_;exact pure_ret (by rw [alCode,dec_f (fun h=>hk h.1)]; rfl) (.refl _)
 rw [dec_t hk];refine tt ?_;refine (isSetFunctor_ok B g).go fun _=>?_
 by_cases hg : g.Is
 rotate_left
 ·rw [dec_f hg];refine tt ?_;exact pure_ret (by rw [alCode,dec_f (fun h=>hg h.2)]; rfl) (.refl _)
 rw [dec_t hg];refine tt ?_;refine ⟨_,(sameCategory_ok B k.tgt g.shape).run, ?_⟩
 by_cases he : k.tgt=g.shape
 ·rw [dec_t he];refine tt ?_;exact pure_ret (by rw [alCode,dec_t ⟨hk,hg⟩,dec_t he]; rfl) (.refl _)
 ·rw [dec_f he];refine tt ?_;exact pure_ret (by rw [alCode,dec_t ⟨hk,hg⟩,dec_f he]; rfl) (.refl _)
theorem alongFunctor_ok (B : Nat) {k : FU} {g : SF} (hk : k.Is) (hg : g.Is) (e : k.tgt=g.shape) : Pur Tryz.prog B 13 [.agg k.cells,.agg g.cells] (.tup [.agg (alongF k g).cells,iI 0]):=by
 refine ⟨fun H0=>c13 (by simp) fun _=>?_⟩;unfold s13
 have o : Owns H0 H0 []:=.nil _;refine tt ?_;refine nb o fun id4 H o=>tt ?_;refine (alongCode_ok B k g).go fun _=>?_;rw [show alCode k g=0 by rw [alCode,dec_t ⟨hk,hg⟩,dec_t e]; rfl];refine td ?_;refine (along_ok B hk hg e).go fun _=>tt ?_;refine sw o fun H o=>tt ?_
 have hrc:=o.rc 7 0 (by simp);simp only [List.drop_zero] at hrc;rw [hrc];exact rets_ret rfl o.sub
def MoveR (r : AV) : Prop:=∃ (k : FU) (q : QS),r=.tup [.agg k.cells,.agg q.cells]
theorem drawMove_ok (B : Nat) (code : List UInt8) : Rets B 5 [mL Go.AW.iB code] MoveR:=by
 intro H0;refine c5p (by simp) fun _=>?_;unfold s5p
 have o : Owns H0 H0 []:=.nil _;refine tt ?_;refine nb o fun id2 H o=>tt ?_;refine newRef_own o fun id3 H o=>tt ?_;refine (l01From_ok B code _).mono' fun r H1 _ ⟨id,s,e,hs,o2⟩=>?_;subst e
 have o:=o.trans o2;clear o2;refine tt ?_;refine (l06Draw_ok B).go hs o fun r s H _ ⟨k,e⟩ hs o=>?_;subst e;refine tt ?_;refine nb o fun id5 H o=>tt ?_;refine sw o fun H o=>?_
 have o : Owns H0 H ((id5,.cells 12 k.cells 0)::(id,s.obj)::[(id3,.cells 4 [.nilsl,.nilsl,.nilsl,.nilsl] 0),(id2,.cells 12 z12 0)]):=o;refine tt ?_;refine wk_ref 5 o rfl fun H o=>wkW_done ?_;refine tt ?_;refine (l38Draw_ok B k.src).goZ hs o fun r s H _ ⟨q,e⟩ hs o hz=>⟨hz, ?_⟩;subst e;refine tt ?_;refine st_cells (o.pull [_,_]) (by simp [z12]) (by (try simp only [go_sem]); (try simp)) (by first | (simp only [go_sem]; done) | ((try simp only [go_sem]); simp [AV.one,one_mL])) fun H o=>?_;unfold z12 at o;simp only [wr_cons,wr_nil,List.set_cons_zero,List.set_cons_succ] at o;refine tt ?_;refine sw (o.pull [_,_]) fun H o=>tt ?_;rw [o.rc 4 0 (by simp),o.tl.rc 12 0 (by simp)];refine tt ?_;exact rets_ret ⟨k,q,rfl⟩ o.sub
end Go.Proofs.Shf
