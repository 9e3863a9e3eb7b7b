/- A part of a proof. -/
import Derived.Test.YtnpimpkmgmnhhaaGreatF9
set_option linter.unusedVariables false
set_option linter.unusedSimpArgs false
set_option linter.unusedSectionVars false
set_option maxRecDepth 100000
open Nat (reduceEqDiff reduceAdd reduceMul reduceLeDiff reduceLT)
namespace Go.AW
@[go_sem] def prE (q : Int × Int) : AV:=.agg [iI q.1,iI q.2]
instance : AggN 2 prE:=⟨by omega,fun _=>rfl,fun _=>rfl,fun a c hc=>by
 simp only [prE,AV.cells,List.mem_cons,List.not_mem_nil,or_false] at hc
 rcases hc with rfl | rfl <;> rfl⟩
end Go.AW
namespace Go.Proofs.Shf
open Go.AW Go.Proofs Go.Shf
@[go_sem] def srO (f g : SF) (X fv : AV) : MObj:=.cells 5 [.ptr f.cells,.ptr g.cells,.bool false,X,fv] 0
theorem cloneN (B : Nat) (l : List Int) : New Tryz.prog B 162 [iL l] fun p X=>OL p X l :=
 ⟨fun H=>(clone_own B l H H [] (.nil H)).mono fun r H' ⟨id,A,e,o,q⟩=>by
  subst e q;exact ⟨_,.inr ⟨id,_,[],rfl,by simp,rowsIT _⟩,o⟩⟩
theorem clonesN (B : Nat) (l : List (List Int)) : New Tryz.prog B 209 [iLL l] fun p X=>OLL p X l:=by
 refine ⟨fun H0=>c209p (by simp) fun ⟨hf,_⟩=>?_⟩
 have hl:=fine_mL_le hf;simp only [maxL] at hl;unfold s209p;refine tt ?_;refine ⟨by simp only [maxL]; omega,newBuf_own (.nil _) fun id H o=>?_⟩;refine tt ?_
 refine awp_for [9,10] (G:=AV × Ob) (fun k g=>[(3,some g.1),(11,some (.int .i64 (k : Int)))])
  (fun k g H=>OLL g.2 g.1 (l.take k)∧Owns H0 H (g.2++[])) l.length (.buf id 0,[(id,.cells 1 [] 0)]) ⟨.inr ⟨id,[],[],rfl,rfl,.nil⟩,o⟩ rfl ?_
 clear o
 rintro k ⟨X,q⟩ H hk ⟨hX,o⟩;dsimp only at hX o;refine tt ?_;apply bk <;> intro h1
 ·have h1p:=of_decide h1
  have w:=wsucc (k:=k) (by omega);refine tt ?_;refine ⟨h1p, ?_⟩;refine (cloneN B (l.getD k default)).call o fun Y p H hY o=>?_
  have hY1:=hY.one;refine tt ?_;refine ⟨by simp [okEls,AV.cells_one hY1,hY1], ?_⟩;refine hX.appT hY ⟨AV.cells_one hY1,hY1⟩ o (by rw [List.length_take]; simp only [maxL]; omega) fun X' q' H hX1 hX' o=>?_;refine tw w ?_;refine for_next (X',q') h1p ⟨?_,o⟩ rfl
  simp only;rw [take_succ_getD l h1p]; exact hX'
 ·have h1p:=of_ndecide h1
  obtain rfl : k=l.length:=by omega
  rw [List.take_length] at hX;rw [List.append_nil] at o;refine tt ?_;exact ⟨H,.refl H,q,hX,o⟩
def OFU (p : Ob) (X : AV) (k : FU) : Prop:=∃ Xs Ys Z W p1 p2 p3 p4,X=.agg (Xs++(Ys++[Z,W]))∧p=p1++(p2++(p3++p4))∧OCat p1 (.agg Xs) k.src∧OCat p2 (.agg Ys) k.tgt∧OL p3 Z k.ob∧OL p4 W k.ar
end Go.Proofs.Shf
namespace Go.AW
open Go.Proofs Go.Shf Go.Proofs.Shf
theorem New.goG {P : Program} {B : Nat} {fn : FuncId} {args : List AV} {O : Ob→AV→Prop} {H0 H : Heap} {l : Ob} {K : Kont} (h : New P B fn args O) (o : Owns H0 H l) (hk : ∀ r p H',O p r→Owns H0 H' (p++l)→H.sub H'→K r H') : CallH P B fn args H K :=
 (h.run H).mono fun r H' ⟨p,q1,q2⟩=>hk r p H' q1 (o.trans q2) q2.sub
end Go.AW
namespace Go.Proofs.Shf
open Go.AW Go.Proofs Go.Shf
end Go.Proofs.Shf
namespace Go.AW
open Go.Proofs Go.Shf Go.Proofs.Shf
theorem Owns.lastG {H0 H : Heap} {q : Ob} {x : Nat × MObj} (o : Owns H0 H (q++[x])) : Owns H0 H (x::q):=o.perm List.perm_append_comm
end Go.AW
namespace Go.Proofs.Shf
open Go.AW Go.Proofs Go.Shf
end Go.Proofs.Shf
namespace Go.AW
open Go.Proofs Go.Shf Go.Proofs.Shf
theorem OCat.flds {p : Ob} {Xs : List AV} {c : Cat} (h : OCat p (.agg Xs) c) : Flds Xs c.cells p:=by
 obtain ⟨X1,X2,X3,X4,p1,p2,p3,p4,e,ep,h1,h2,h3,h4⟩:=h;subst ep
 injection e with e
 subst e;refine fldI _ (.cons owL h1 (.cons owL h2 (.cons owL h3 ?_)))
 have:=Flds.cons owLL h4 .nil;rw [List.append_nil] at this; exact this
end Go.AW
namespace Go.Proofs.Shf
open Go.AW Go.Proofs Go.Shf
theorem owFU : Ow OFU fuE:=(Ow.agg FU.cells).of fun p X k ⟨Xs,Ys,Z,W,p1,p2,p3,p4,e,ep,h1,h2,h3,h4⟩=>by
 subst e ep
 have:=Flds.cons owL h4 .nil;rw [List.append_nil] at this;exact ⟨_,rfl,h1.flds.app (h2.flds.app (.cons owL h3 this))⟩
theorem catCopyN (B : Nat) (c : Cat) : New Tryz.prog B 161 [.ptr c.cells] fun p X=>OCat p X c:=by
 refine ⟨fun H0=>c161p (by simp) fun _=>?_⟩;unfold s161p;refine tt ?_;refine newRef_own (.nil _) fun id H o=>tt ?_;refine (cloneN B c.frm).goG o fun X1 p1 H q1 o hs=>⟨hs, ?_⟩;refine tt ?_;refine (cloneN B c.to).goG o fun X2 p2 H q2 o hs=>⟨hs, ?_⟩;refine tt ?_;refine (cloneN B c.idn).goG o fun X3 p3 H q3 o hs=>⟨hs, ?_⟩;refine tt ?_;refine (clonesN B c.comp).goG o fun X4 p4 H q4 o hs=>⟨hs, ?_⟩
 have v1:=q1.one
 have v2:=q2.one
 have v3:=q3.one
 have v4:=q4.one;try simp only [go_sem,↓reduceIte,reduceEqDiff,reduceAdd,reduceMul,reduceLeDiff,reduceLT,AV.cells_one v1,AV.cells_one v2,AV.cells_one v3,AV.cells_one v4]
 have o:=Owns.lastG (q:=p4++(p3++(p2++p1))) (by simpa only [List.append_assoc] using o);refine st_cells o (by simp) rfl (by simp only [memcons,memnil]; exact ⟨rfl,v1,v2,v3,v4,trivial⟩) fun H o=>?_;simp only [wr_cons,wr_nil,List.set_cons_zero,List.set_cons_succ] at o;refine tt ?_
 have hr:=o.rc 5 0 (by simp);simp only [List.drop_zero] at hr;rw [hr];exact ⟨H,.refl H,_,⟨X1,X2,X3,X4,p1,p2,p3,p4,rfl,rfl,q1,q2,q3,q4⟩,o.tl.pm⟩
theorem functor_new (B : Nat) (c d : Cat) (ob ar : List Int) : New Tryz.prog B 84 [.ptr c.cells,.ptr d.cells,iL ob,iL ar] fun p X=>OFU p X ⟨c,d,ob,ar⟩:=by
 refine ⟨fun H0=>c84p (by simp) fun _=>?_⟩;unfold s84p;refine tt ?_;refine nb (.nil _) fun id H o=>tt ?_;refine (catCopyN B c).call o fun Z p1 H q1 o=>tt ?_;refine (catCopyN B d).call o fun Y p2 H q2 o=>tt ?_;refine (cloneN B ob).call o fun U p3 H q3 o=>tt ?_;refine (cloneN B ar).call o fun W p4 H q4 o=>?_
 have k1:=q1
 have k2:=q2
 obtain ⟨X1,X2,X3,X4,a1,a2,a3,a4,rfl,rfl,b1,b2,b3,b4⟩:=q1
 obtain ⟨Y1,Y2,Y3,Y4,c1,c2,c3,c4,rfl,rfl,d1,d2,d3,d4⟩:=q2
 have u1:=b1.one
 have u2:=b2.one
 have u3:=b3.one
 have u4:=b4.one
 have v1:=d1.one
 have v2:=d2.one
 have v3:=d3.one
 have v4:=d4.one
 have v5:=q3.one
 have v6:=q4.one;try simp only [go_sem,↓reduceIte,reduceEqDiff,reduceAdd,reduceMul,reduceLeDiff,reduceLT,AV.cells_one v5,AV.cells_one v6]
 have o:=Owns.lastG (q:=p4++(p3++(c1++(c2++(c3++(c4++(a1++(a2++(a3++a4))))))))) (by simpa only [List.append_assoc] using o);refine st_cells o (by simp) rfl (by simp only [memcons,memnil]; exact ⟨rfl,u1,u2,u3,u4,rfl,v1,v2,v3,v4,v5,v6,trivial⟩) fun H o=>?_;simp only [wr_cons,wr_nil,List.set_cons_zero,List.set_cons_succ] at o;refine tt ?_
 have hr:=o.rc 12 0 (by simp);simp only [List.drop_zero] at hr;rw [hr];refine ⟨H,.refl H,_,⟨_,_,U,W,_,_,p3,p4,rfl,rfl,k1,k2,q3,q4⟩, ?_⟩;exact o.tl.pm
def outO (out z : Nat) (L : List FU) : Ob:=[(out,.cells 1 [.buf z L.length] 0),(z,.cells 12 (flat (L.map fuE)) 0)]
abbrev fnG (C D : Cat) (out : Nat) (most : Nat) : AV:=.fn (.func 203) [.ref out 0,.ptr [.ptr C.cells],.ptr [.ptr D.cells],.ptr [iI (most : Int)]]
def ColG (Hb : Heap) (out most : Nat) (L l : List FU) (r : Ob) : Kont:=fun v H'=>∃ z,v=.bool (decide ((L++l).length≤most))∧Owns Hb H' (outO out z (colF most L l)++r)
section
variable (B : Nat) {C D : Cat} (hC : C.Is) (hD : D.Is) {once : Bool} {Hb : Heap} {r : Ob} {id ido ida out most : Nat}
theorem found_ownG {O A : List Int} {no na : Nat} (hno : no=O.length) (hna : na=A.length) {L : List FU} (hL : L.length≤most) (hmost : most≤1000) {z : Nat} {H0 : Heap}
  (o : Owns Hb H0 ((ido,.cells 1 (O.map iI) 0)::(ida,.cells 1 (A.map iI) 0)::(outO out z L++r))) :
  CallH Tryz.prog B 203 [.buf ido no,.buf ida na,.ref out 0,.ptr [.ptr C.cells],.ptr [.ptr D.cells],.ptr [iI (most : Int)]] H0
   (ColG Hb out most L [⟨C,D,O,A⟩] ((ido,.cells 1 (O.map iI) 0)::(ida,.cells 1 (A.map iI) 0)::r)):=by
 refine c203p (by simp) fun _=>?_;unfold s203p;subst hno hna
 have o : Owns Hb H0 ((out,.cells 1 [.buf z L.length] 0)::(z,.cells 12 (flat (L.map fuE)) 0)::(ido,.cells 1 (O.map iI) 0)::(ida,.cells 1 (A.map iI) 0)::r):=o.perm (by simp only [outO]; exact (permC fun x=>by (try dsimp only); simp only [List.append_eq,List.count_append,List.count_cons,List.count_nil,List.map_nil,List.length_nil,List.length_append,List.length_cons,List.length_set,Nat.zero_add,List.nil_append,iI,iL]; omega));refine tt ?_;refine rd_cells o (by simp) ?_;refine tt ?_;refine New.lentQ owFU (functor_new B C D O A) rfl (fun i hi=>?_) fun H hs=>⟨hs, ?_⟩
 ·obtain rfl | rfl | rfl | rfl : i=0∨i=1∨i=2∨i=3:=by simp only [List.length_cons,List.length_nil] at hi; omega
  ·exact val_arg _
  ·exact val_arg _
  ·exact lent_arg o.tl.tl rfl
  ·exact lent_arg o.tl.tl.tl rfl
 have o:=o.ext hs;refine tt ?_;refine app_ownN (f:=fuE) (⟨C,D,O,A⟩ : FU) o.swap rfl rfl (by simp only [maxL]; omega) fun z H o=>tt ?_;refine sw o.swap fun H o=>?_
 have hcol : colF most L [(⟨C,D,O,A⟩ : FU)]=L++[⟨C,D,O,A⟩]:=by rw [colF,List.take_of_length_le (by simp; omega)]
 refine tt ?_;refine rd_cells o (by simp) ?_;refine tt ?_;refine ⟨_,.refl _,z, ?_, ?_⟩
 ·exact congrArg AV.bool (decide_eq_decide.mpr (by omega))
 ·rw [hcol];exact o.perm (by simp only [outO]; exact (permC fun x=>by (try dsimp only); simp only [List.append_eq,List.count_append,List.count_cons,List.count_nil,List.map_nil,List.length_nil,List.length_append,List.length_cons,List.length_set,Nat.zero_add,List.nil_append,iI,iL]; omega))
noncomputable def extF (C D : Cat) (once : Bool) (O A : List Int) : List FU:=(extP C D once O A).map fun P=>⟨C,D,O,P⟩
def NexG (C D : Cat) (once : Bool) (O : List Int) (Hb : Heap) (id ido ida out most : Nat) (L l : List FU) (n : Nat) (r : Ob) : Kont:=fun v H'=>∃ (z : Nat) (A' : List Int),A'.length=n∧v=.bool (decide ((L++l).length≤most)) ∧
 Owns Hb H' ((id,seG C D once ido ida (fnG C D out most))::(ida,.cells 1 (A'.map iI) 0)::(ido,.cells 1 (O.map iI) 0)::(outO out z (colF most L l)++r))
include hC hD in
theorem next_ownG {O : List Int} (hOl : O.length=C.objs.toNat) (hO : ∀ x : Nat,x<C.idn.length→0≤O.getD x default∧O.getD x default<D.objs) (hmost : most≤1000) :
  ∀ (m : Nat) (A : List Int),negs A=m→ParD C D O A→ClosD C D A→IdsD C D O A→(once=true→DistA A)→∀ {H0 : Heap} {L : List FU} {z : Nat},L.length≤most →
  Owns Hb H0 ((id,seG C D once ido ida (fnG C D out most))::(ida,.cells 1 (A.map iI) 0)::(ido,.cells 1 (O.map iI) 0)::(outO out z L++r)) →
  CallH Tryz.prog B 241 [.ref id 0] H0 (NexG C D once O Hb id ido ida out most L (extF C D once O A) C.frm.length r):=by
 intro m
 induction m using Nat.strongRecOn with | _ m ih=>?_
 intro A hm0 pa hcl hid hdi H0 L z hL o;refine c241p (by simp) fun _=>?_;unfold s241p
 have hl:=pa.len
 have hm:=hC.1.m
 have hob:=hC.1.o
 have htl:=hC.1.tol
 have hil:=hC.1.il
 have hmD:=hD.1.m
 have hix:=index_own B A (-1) (by omega) o.swap;rw [hl] at hix;refine tt ?_;refine rd_cells o (by simp) ?_;refine tt ?_;refine hix.mono ?_
 rintro v H ⟨rfl,rfl⟩
 by_cases hmem : (-1 : Int)∈A
 rotate_left
 ·have hk : ∀ i,i<A.length→A.getD i default≠-1:=fun i hi e=>hmem (mem_getD.mpr ⟨i,hi,e⟩)
  have eE : extF C D once O A=[⟨C,D,O,A⟩]:=by rw [extF,extP_one (full_fun pa hcl hid hk) hdi hk]; rfl
  rw [indexOf_neg hmem,eE]
  have hng : decide ((-1 : Int)<0)=true:=rfl;refine tw hng ?_;refine rd_cells o (by simp) ?_;refine tt ?_;refine rd_cells o (by simp) ?_;refine tt ?_;refine rd_cells o (by simp) ?_;refine tt ?_;refine (found_ownG B (L:=L) (z:=z) (r:=(id,seG C D once ido ida (fnG C D out most))::r) hOl.symm hl.symm hL hmost (o.perm (by simp only [outO]; exact (permC fun x=>by (try dsimp only); simp only [List.append_eq,List.count_append,List.count_cons,List.count_nil,List.map_nil,List.length_nil,List.length_append,List.length_cons,List.length_set,Nat.zero_add,List.nil_append,iI,iL]; omega)))).mono ?_;clear o
  rintro v H ⟨z,rfl,o⟩;refine tt ?_;exact ⟨_,.refl _,z,A,hl,rfl,o.perm (by simp only [outO]; exact (permC fun x=>by (try dsimp only); simp only [List.append_eq,List.count_append,List.count_cons,List.count_nil,List.map_nil,List.length_nil,List.length_append,List.length_cons,List.length_set,Nat.zero_add,List.nil_append,iI,iL]; omega))⟩
 obtain ⟨i0,hi0,ei0⟩:=mem_getD.mp hmem
 obtain ⟨k,hk,ek,hfst⟩:=first_neg A.length ⟨i0,hi0,ei0⟩;rw [indexOf_hit hk hfst ek]
 have hkf : k<C.frm.length:=by omega
 have hxr:=hC.1.frm _ (mem_getD.mpr ⟨k,hkf,rfl⟩)
 have hyr:=hC.1.to _ (mem_getD.mpr ⟨k,(by omega : k<C.to.length),rfl⟩)
 have eE : extF C D once O A=(hom D (ix O (C.frm.getD k default)) (ix O (C.to.getD k default))).flatMap fun b=>extF C D once O (A.set k b):=by
  rw [extF,extP_split hk hl ek hfst,List.map_flatMap]; rfl
 have hcb:=clone_bufO B A (by omega) (by omega) o.swap;rw [hl] at hcb
 have hk0 : decide ((k : Int)<0)=false:=decide_eq_false (by omega);rw [eE];refine tw hk0 ?_;refine rd_cells o (by simp) ?_;refine tt ?_;refine hcb.mono ?_;clear o hcb hix
 rintro v H ⟨rfl,o⟩
 replace o:=o.swap;refine tt ?_;refine rd_cells o (by simp) ?_;refine tt ?_;refine rd_cells o (by simp) ?_;refine tt ?_;refine rd_cells o (by simp) ?_;refine tt ?_;refine ⟨hkf,⟨hxr.1,by omega⟩,rd_cells o.tl.tl (by rw [List.length_map]; omega) ?_⟩;rw [map_getD _ (by omega)];refine tt ?_;refine rd_cells o (by simp) ?_;refine tt ?_;refine rd_cells o (by simp) ?_;refine tt ?_;refine ⟨by omega,⟨hyr.1,by omega⟩,rd_cells o.tl.tl (by rw [List.length_map]; omega) ?_⟩;rw [map_getD _ (by omega)];refine ⟨_,(hom_ok B D hD.1 (ix O (C.frm.getD k default)) (ix O (C.to.getD k default))).run, ?_⟩
 have hmm : ∀ j,j<(hom D (ix O (C.frm.getD k default)) (ix O (C.to.getD k default))).length→D.Ar ((hom D (ix O (C.frm.getD k default)) (ix O (C.to.getD k default))).getD j default) (ix O (C.frm.getD k default)) (ix O (C.to.getD k default)):=fun j hj=>hom_at hj
 have hlen:=homC_len (c:=D) (ix O (C.frm.getD k default)) (ix O (C.to.getD k default));rw [← hom_homC] at hlen
 generalize hom D (ix O (C.frm.getD k default)) (ix O (C.to.getD k default))=W at *;refine tt ?_
 refine awp_for [0,3,4,68,69] (G:=Nat) (fun j _=>[(70,some (.int .i64 (j : Int)))])
  (fun j z H=>(L++(W.take j).flatMap fun b=>extF C D once O (A.set k b)).length≤most∧Owns Hb H ((id,seG C D once ido ida (fnG C D out most))::(ida,.cells 1 (A.map iI) 0)::(ido,.cells 1 (O.map iI) 0)::(outO out z (L++(W.take j).flatMap fun b=>extF C D once O (A.set k b))++r))) W.length z ⟨by simpa using hL,by simpa using o⟩ rfl ?_
 clear o
 rintro j z H hj ⟨hsm,o⟩;refine tt ?_;apply bk <;> intro h1
 rotate_left
 ·have h1p:=of_ndecide h1
  have ej : W.take j=W:=List.take_of_length_le (by omega);rw [ej] at hsm o;refine tt ?_;exact ⟨_,.refl _,z,A,hl,by rw [decide_eq_true hsm],by rw [colF_all hsm]; exact o⟩
 have h1p : j<W.length:=of_decide h1
 have w1:=wsucc (k:=j) (by omega)
 have har:=hmm j h1p
 have efl:=flat_at (f:=fun b=>extF C D once O (A.set k b)) h1p
 have etk:=flat_take (f:=fun b=>extF C D once O (A.set k b)) h1p
 generalize (W.take j).flatMap (fun b=>extF C D once O (A.set k b))=Lj at *
 obtain ⟨b,hb⟩ : ∃ b : Nat,W.getD j default=b:=⟨_,(Int.toNat_of_nonneg har.r.1).symm⟩;rw [hb] at har efl etk;refine tt ?_;refine ⟨h1p, ?_⟩;rw [hb];refine rd_cells o (by simp) ?_;refine tt ?_;refine ⟨hkf, ?_⟩;refine set_own (f:=iI) (b : Int) o.swap rfl hk fun H o=>?_
 replace o:=o.swap
 have pb:=pa.set hk har
 have hak : (A.set k (b : Int)).getD k default=b:=by rw [getD_setI hk,if_pos rfl]
 have hng:=negs_set (A:=A) (i:=k) (v:=b) hk (by omega) (by omega);refine tt ?_;refine (spread_ownG B hC hD pb o).mono ?_;clear o
 rintro v H ⟨A',bl,rfl,hsp,ht,hf,o⟩
 have hCl:=hsp.par.len
 cases bl
 ·have eN : extF C D once O (A.set k (b : Int))=[]:=by rw [extF,hf rfl]; rfl
  rw [eN,List.append_nil] at etk;refine tt ?_;refine rd_cells o (by simp) ?_;refine tt ?_;refine cpy_own (f:=iI) o.swap (by omega) (by omega) (by omega) fun H o=>?_
  replace o:=o.swap;refine tw w1 ?_;exact for_next z h1p ⟨by rw [etk]; exact hsm,by rw [etk]; exact o⟩ rfl
 obtain ⟨t1,t2⟩:=ht rfl
 have eS : extF C D once O (A.set k (b : Int))=extF C D once O A':=by rw [extF,extF,hsp.same pb]
 have hid' : IdsD C D O A':=(IdsD.ext hid hC hD hO hl (.set hk (by omega))).ext hC hD hO (by rw [List.length_set]; exact hl) hsp.ext
 have hneg':=hsp.ext.negs_le;rw [eS] at efl etk;refine tt ?_;refine (ih (negs A') (by omega) A' rfl hsp.par t1 hid' t2 hsm o).mono ?_;clear o
 rintro v H ⟨z,A2,hA2,rfl,o⟩
 by_cases hle : ((L++Lj)++extF C D once O A').length≤most
 ·rw [colF_all hle] at o;rw [decide_eq_true hle];rw [List.append_assoc,← etk] at hle o;refine tt ?_;refine rd_cells o (by simp) ?_;refine tt ?_;refine cpy_own (f:=iI) o.swap (by omega) (by omega) (by omega) fun H o=>?_
  replace o:=o.swap;refine tw w1 ?_;exact for_next z h1p ⟨hle,o⟩ rfl
 ·rw [decide_eq_false hle];refine tt ?_;refine ⟨_,.refl _,z,A2,hA2, ?_, ?_⟩
  ·rw [efl,decide_eq_false];rw [List.append_assoc] at hle;simp only [List.length_append] at hle ⊢;omega
  ·rw [efl,← List.append_assoc,colF_stop (by rw [← List.append_assoc]; omega),colF_app hsm];exact o
end
end Go.Proofs.Shf
namespace Go.Shf
open Go.AW
end Go.Shf
namespace Go.Proofs.Shf
open Go.AW Go.Proofs Go.Shf
theorem pre_own {K : Kont} {H0 H : Heap} {l : List (Nat × MObj)} {id sz n : Nat} {cs : List AV} {p : Prop} {v : AV} (o : Owns H0 H ((id,.cells sz cs 0)::l)) (hn : cs.length=n*sz) (hp : p) (hk : K v H) : slb1 sz n (some (p,v)) (H.get id) K H:=by
 have h0:=o.h0;simp only at h0;rw [h0]; exact ⟨⟨rfl,hn⟩,hp,hk⟩
theorem take_ix {O : List Int} {x f : Nat} (h : f<x) : ix (O.take x) (f : Int)=O.getD f default:=by
 rw [ix_nat,List.getD_eq_getElem?_getD,List.getElem?_take,if_pos h,← List.getD_eq_getElem?_getD]
section
variable (B : Nat) {C D : Cat} (hC : C.Is) (hD : D.Is) {once : Bool} {Hb : Heap} {r : Ob} {id ido ida out most : Nat} {F : AV}
include hC hD
theorem placed_ownG {O : List Int} {x : Nat} (hx : x<C.objs.toNat) (hOl : O.length=C.objs.toNat) {H0 : Heap} (o : Owns Hb H0 ((id,seG C D once ido ida F)::(ido,.cells 1 (O.map iI) 0)::r)) :
  CallH Tryz.prog B 242 [.ref id 0,iI x] H0 (fun v H'=>(∃ b : Bool,v=.bool b∧(b=false→∀ n,fnsP C D once n (O.take (x+1))=[]))∧H'=H0):=by
 refine c242p (by simp) fun _=>?_;unfold s242p
 have hm:=hC.1.m
 have hob:=hC.1.o
 have htl:=hC.1.tol;refine tt ?_;refine rd_cells o (by simp) ?_;refine tt ?_;refine awp_for [0,1,15] (G:=Unit) (fun k _=>[(16,some (.int .i64 (k : Int)))]) (fun k _ H=>H=H0) C.frm.length () rfl rfl ?_
 rintro k _ H hk rfl;refine tt ?_;apply bk <;> intro h1
 rotate_left
 ·refine tt ?_;exact ⟨_,.refl _,⟨true,rfl,fun h=>by cases h⟩,rfl⟩
 have h1p : k<C.frm.length:=of_decide h1
 have w1:=wsucc (k:=k) (by omega)
 have hfr:=hC.1.frm _ (mem_getD.mpr ⟨k,(by omega : k<C.frm.length),rfl⟩)
 have htr:=hC.1.to _ (mem_getD.mpr ⟨k,(by omega : k<C.to.length),rfl⟩)
 obtain ⟨f,hf⟩ : ∃ f : Nat,C.frm.getD k default=f:=⟨_,(Int.toNat_of_nonneg hfr.1).symm⟩
 obtain ⟨t,ht⟩ : ∃ t : Nat,C.to.getD k default=t:=⟨_,(Int.toNat_of_nonneg htr.1).symm⟩
 have few : f≤x→t≤x→(hom D (O.getD f default) (O.getD t default)).length<(if once=true then (hom C f t).length else 1)→∀ n,fnsP C D once n (O.take (x+1))=[]:=fun hfx htx h n=>by
  refine fnsP_few (s:=(f : Int)) (u:=(t : Int)) ⟨by omega,by rw [List.length_take]; omega⟩ ⟨by omega,by rw [List.length_take]; omega⟩ ⟨(k : Int), ?_⟩ ?_
  ·have:=ar_nat (c:=C) (i:=k) h1p;rw [hf,ht] at this; exact this
  ·rw [take_ix (by omega),take_ix (by omega)]; exact h
 refine tt ?_;refine rd_cells o (by simp) ?_;refine tt ?_;refine ⟨h1p,rd_cells o (by simp) ?_⟩;refine tt ?_;refine ⟨by omega, ?_⟩;rw [hf,ht];refine tt ?_
 by_cases e1 : x<f
 ·rw [decide_eq_true e1];refine tw w1 ?_;exact for_next () h1p rfl rfl
 rw [decide_eq_false e1];refine tt ?_
 by_cases e2 : x<t
 ·rw [decide_eq_true e2];refine tw w1 ?_;exact for_next () h1p rfl rfl
 rw [decide_eq_false e2];refine tt ?_
 by_cases e3 : f=x
 ·rw [decide_eq_true e3];refine tt ?_
  focus
   refine rd_cells o (by simp) ?_;refine tt ?_;refine rd_cells o (by simp) ?_;refine tt ?_;refine ⟨by omega,rd_cells o.tl (by simp; omega) ?_⟩;rw [map_getD _ (by omega)];refine tt ?_;refine rd_cells o (by simp) ?_;refine tt ?_;refine ⟨by omega,rd_cells o.tl (by simp; omega) ?_⟩;rw [map_getD _ (by omega)];refine ⟨_,(hom_ok B D hD.1 (O.getD f default) (O.getD t default)).run,tt ?_⟩;refine (need_ownG B hC hD (f : Int) (t : Int) o).mono ?_
   rintro v H2 ⟨rfl,rfl⟩;refine ⟨.refl _,tt ?_⟩
   by_cases q : (hom D (O.getD f default) (O.getD t default)).length<(if once=true then (hom C f t).length else 1)
   ·rw [decide_eq_true (by omega)];refine tt ?_;exact ⟨_,.refl _,⟨false,rfl,fun _=>few (by omega) (by omega) q⟩,rfl⟩
   ·rw [decide_eq_false (by omega)];refine tw w1 ?_;exact for_next () h1p rfl rfl
 rw [decide_eq_false e3];refine tt ?_
 by_cases e4 : t=x
 ·rw [decide_eq_true e4];refine tt ?_
  focus
   refine rd_cells o (by simp) ?_;refine tt ?_;refine rd_cells o (by simp) ?_;refine tt ?_;refine ⟨by omega,rd_cells o.tl (by simp; omega) ?_⟩;rw [map_getD _ (by omega)];refine tt ?_;refine rd_cells o (by simp) ?_;refine tt ?_;refine ⟨by omega,rd_cells o.tl (by simp; omega) ?_⟩;rw [map_getD _ (by omega)];refine ⟨_,(hom_ok B D hD.1 (O.getD f default) (O.getD t default)).run,tt ?_⟩;refine (need_ownG B hC hD (f : Int) (t : Int) o).mono ?_
   rintro v H2 ⟨rfl,rfl⟩;refine ⟨.refl _,tt ?_⟩
   by_cases q : (hom D (O.getD f default) (O.getD t default)).length<(if once=true then (hom C f t).length else 1)
   ·rw [decide_eq_true (by omega)];refine tt ?_;exact ⟨_,.refl _,⟨false,rfl,fun _=>few (by omega) (by omega) q⟩,rfl⟩
   ·rw [decide_eq_false (by omega)];refine tw w1 ?_;exact for_next () h1p rfl rfl
 rw [decide_eq_false e4];refine tw w1 ?_;exact for_next () h1p rfl rfl
structure IdI (C D : Cat) (O g : List Int) (k : Nat) : Prop where
 len : g.length=C.frm.length
 all : ∀ i : Nat,i<g.length→g.getD i default=-1∨∃ y : Nat,y<k∧C.idn.getD y default=i∧g.getD i default=ix D.idn (O.getD y default)
 at_ : ∀ y : Nat,y<k→ix g (C.idn.getD y default)=ix D.idn (O.getD y default)
omit hD in
theorem IdI.next {O g : List Int} {k i : Nat} (h : IdI C D O g k) (hk : k<C.idn.length) (hi : C.idn.getD k default=i) : IdI C D O (g.set i (ix D.idn (O.getD k default))) (k+1):=by
 have hl:=h.len
 have hx:=hC.1.idn _ (mem_getD.mpr ⟨k,hk,rfl⟩)
 have hil : i<g.length:=by omega
 refine ⟨by rw [List.length_set]; exact hl,fun j hj=>?_,fun y hy=>?_⟩
 ·rw [getD_setI hil]
  by_cases e : i=j
  ·rw [if_pos e]; exact .inr ⟨k,by omega,by rw [hi,e],rfl⟩
  ·rw [if_neg e];exact (h.all j (by simpa using hj)).imp id fun ⟨y,a,b,c⟩=>⟨y,by omega,b,c⟩
 ·have hil':=hC.1.il
  by_cases e : y=k
  ·rw [e,hi,ix_nat,getD_setI hil,if_pos rfl]
  ·have hy2 : y<k:=by omega
   have q1:=(hC.idA (x:=(y : Int)) (by omega))
   have q2:=(hC.idA (x:=(k : Int)) (by omega));rw [ix_nat] at q1 q2;rw [ix,getD_setI hil,if_neg]
   ·exact h.at_ y hy2
   ·intro q
    have r1:=q1.r
    have e2 : C.idn.getD y default=C.idn.getD k default:=by omega
    have s1:=q1.s;rw [e2,q2.s] at s1;omega
theorem IdI.par {O g : List Int} (h : IdI C D O g C.idn.length) (hO : ∀ x : Nat,x<C.idn.length→0≤O.getD x default∧O.getD x default<D.objs) : ParD C D O g:=by
 refine ⟨h.len,fun i hi=>(h.all i hi).imp id fun ⟨y,hy,e1,e2⟩=>?_⟩
 have hil:=hC.1.il
 have q1:=hC.idA (x:=(y : Int)) (by omega);rw [ix_nat,e1] at q1
 have s1:=q1.s
 have s2:=q1.t;rw [ix_nat] at s1 s2;rw [e2,s1,s2,ix_nat];exact hD.idA (hO y hy)
def RunG (C D : Cat) (once : Bool) (Hb : Heap) (id ido ida out most : Nat) (L l : List FU) (pre : List Int) (r : Ob) : Kont:=fun v H'=>∃ (z : Nat) (O' A' : List Int),O'.length=C.objs.toNat∧A'.length=C.frm.length∧O'.take pre.length=pre∧v=.bool (decide ((L++l).length≤most)) ∧
 Owns Hb H' ((id,seG C D once ido ida (fnG C D out most))::(ida,.cells 1 (A'.map iI) 0)::(ido,.cells 1 (O'.map iI) 0)::(outO out z (colF most L l)++r))
theorem run_ownG (hmost : most≤1000) : ∀ (d x : Nat),x+d=C.objs.toNat→∀ (O A : List Int),O.length=C.objs.toNat→A.length=C.frm.length→(∀ i,i<x→0≤O.getD i default∧O.getD i default<D.objs) →
  ∀ {H0 : Heap} {L : List FU} {z : Nat},L.length≤most→Owns Hb H0 ((id,seG C D once ido ida (fnG C D out most))::(ida,.cells 1 (A.map iI) 0)::(ido,.cells 1 (O.map iI) 0)::(outO out z L++r)) →
  CallH Tryz.prog B 204 [.ref id 0,iI x] H0 (RunG C D once Hb id ido ida out most L (fnsP C D once d (O.take x)) (O.take x) r):=by
 have hm:=hC.1.m
 have hob:=hC.1.o
 have hobD:=hD.1.o
 have hil:=hC.1.il
 have hilD:=hD.1.il
 intro d
 induction d with
 | zero =>
  intro x hx O A hOl hAl hO H0 L z hL o;refine c204p (by simp) fun _=>?_;unfold s204p
  have eO : O.take x=O:=List.take_of_length_le (by omega)
  have hO' : ∀ y : Nat,y<C.idn.length→0≤O.getD y default∧O.getD y default<D.objs:=fun y hy=>hO y (by omega);rw [eO];refine tt ?_;refine rd_cells o (by simp) ?_;refine tt ?_;rw [decide_eq_true (by omega)];refine tt ?_;refine rd_cells o (by simp) ?_;refine tt ?_
  refine awp_for [0,22] (G:=List Int) (fun k g=>[(23,some (.int .i64 (k : Int)))])
   (fun k g H=>(g.length=C.frm.length∧∀ i,i<k→g.getD i default=-1)∧Owns Hb H ((id,seG C D once ido ida (fnG C D out most))::(ida,.cells 1 (g.map iI) 0)::(ido,.cells 1 (O.map iI) 0)::(outO out z L++r))) C.frm.length A ⟨⟨hAl,fun i hi=>by omega⟩,o⟩ rfl ?_
  clear o
  rintro k A2 H hk ⟨⟨hA2,hneg⟩,o⟩;refine tt ?_;apply bk <;> intro h1
  ·have h1p : k<C.frm.length:=of_decide h1
   have w1:=wsucc (k:=k) (by omega);refine tt ?_;refine rd_cells o (by simp) ?_;refine tt ?_;refine ⟨h1p, ?_⟩;refine set_own (f:=iI) (-1) o.swap rfl (by omega) fun H o=>?_;refine tw w1 ?_;refine for_next (A2.set k (-1)) h1p ⟨⟨by rw [List.length_set]; exact hA2,fun i hi=>?_⟩,o.swap⟩ rfl;rw [getD_setI (by omega)]
   by_cases e : k=i
   ·rw [if_pos e]
   ·rw [if_neg e]; exact hneg i (by omega)
  have h1p : k=C.frm.length:=by have:=of_ndecide h1; omega
  have ia : IdI C D O A2 0:=⟨hA2,fun i hi=>.inl (hneg i (by omega)),fun y hy=>by omega⟩;clear hneg h1;refine tt ?_;refine rd_cells o (by simp) ?_;refine tt ?_
  refine awp_for [0,39,40] (G:=List Int) (fun k g=>[(41,some (.int .i64 (k : Int)))])
   (fun k g H=>IdI C D O g k∧Owns Hb H ((id,seG C D once ido ida (fnG C D out most))::(ida,.cells 1 (g.map iI) 0)::(ido,.cells 1 (O.map iI) 0)::(outO out z L++r))) C.idn.length A2 ⟨ia,o⟩ rfl ?_
  clear o
  rintro y A3 H hy ⟨ia3,o⟩
  have hl3:=ia3.len;refine tt ?_;apply bk <;> intro h2
  ·have h2p : y<C.idn.length:=of_decide h2
   have w2:=wsucc (k:=y) (by omega)
   have hxi:=hC.1.idn _ (mem_getD.mpr ⟨y,h2p,rfl⟩)
   have hoy:=hO' y h2p
   obtain ⟨i,hi⟩ : ∃ i : Nat,C.idn.getD y default=i:=⟨_,(Int.toNat_of_nonneg hxi.1).symm⟩;refine tt ?_;refine ⟨h2p,rd_cells o (by simp) ?_⟩;refine tt ?_;refine rd_cells o (by simp) ?_;refine tt ?_;refine rd_cells o (by simp) ?_;refine tt ?_;refine ⟨by omega,rd_cells o.tl.tl (by rw [List.length_map]; omega) ?_⟩;rw [map_getD _ (by omega)];refine tt ?_;rw [hi];refine ⟨⟨hoy.1,by omega⟩,⟨by omega,by omega⟩, ?_⟩;refine set_own (f:=iI) (ix D.idn (O.getD y default)) o.swap rfl (by simp; omega) fun H o=>?_;refine tw w2 ?_;exact for_next (A3.set i (ix D.idn (O.getD y default))) h2p ⟨ia3.next hC h2p hi,o.swap⟩ rfl
  ·have h2p : y=C.idn.length:=by have:=of_ndecide h2; omega
   subst h2p
   have pa:=ia3.par hC hD hO'
   have eX : fnsP C D once 0 O=extF C D once O A3:=by rw [fnsP,extP_ids ia3.len ia3.all]; rfl
   rw [eX];refine tt ?_;refine (spread_ownG B hC hD pa o).mono ?_;clear o
   rintro v H ⟨A',bl,rfl,hsp,ht,hf,o⟩
   cases bl
   ·have eN : extF C D once O A3=[]:=by rw [extF,hf rfl]; rfl
    rw [eN];refine tt ?_;exact ⟨_,.refl _,z,O,A',hOl,hsp.par.len,by rw [List.take_length],by rw [List.append_nil,decide_eq_true hL],by rw [colF_nil (by omega)]; exact o⟩
   obtain ⟨t1,t2⟩:=ht rfl
   have eS : extF C D once O A3=extF C D once O A':=by rw [extF,extF,hsp.same pa]
   rw [eS]
   have ids : IdsD C D O A3:=fun y hy=>ia3.at_ y hy;refine tt ?_;refine (next_ownG B hC hD hOl hO' hmost _ A' rfl hsp.par t1 (ids.ext hC hD hO' ia3.len hsp.ext) t2 hL o).mono ?_;clear o
   rintro v H ⟨z,A4,hA4,rfl,o⟩;refine tt ?_;exact ⟨_,.refl _,z,O,A4,hOl,hA4,by rw [List.take_length],rfl,o⟩
 | succ d ih =>
  intro x hx O A hOl hAl hO H0 L z hL o;refine c204p (by simp) fun _=>?_;unfold s204p
  have hpl : (O.take x).length=x:=by rw [List.length_take]; omega
  have hpr : ∀ i,i<x→(O.take x).getD i default=O.getD i default:=fun i hi=>by rw [List.getD_eq_getElem?_getD,List.getElem?_take,if_pos hi,← List.getD_eq_getElem?_getD]
  have hO2 : ∀ i,i<x→0≤(O.take x).getD i default∧(O.take x).getD i default<D.objs:=fun i hi=>by rw [hpr i hi]; exact hO i hi
  have eX : fnsP C D once (d+1) (O.take x)=(natsL D.objs).flatMap fun y=>fnsP C D once d (O.take x++[y]):=rfl;rw [eX]
  generalize hpre : O.take x=pre at *
  have hWl : (natsL D.objs).length=D.objs.toNat:=by simp [natsL]
  have hWa : ∀ y : Nat,y<D.objs.toNat→(natsL D.objs).getD y default=y:=fun y hy=>by have:=natsL_ix (n:=D.objs) (y:=(y : Int)) (by omega); rwa [ix_nat] at this
  generalize natsL D.objs=W at *;refine tt ?_;refine rd_cells o (by simp) ?_;refine tt ?_;rw [decide_eq_false (by omega)];refine tt ?_
  refine awp_for [0,1] (G:=List Int × List Int × Nat) (fun y _=>[(8,some (.int .i64 (y : Int)))])
   (fun y g H=>(g.1.length=C.objs.toNat∧g.2.1.length=C.frm.length∧g.1.take x=pre∧(L++(W.take y).flatMap fun y=>fnsP C D once d (pre++[y])).length≤most) ∧
    Owns Hb H ((id,seG C D once ido ida (fnG C D out most))::(ida,.cells 1 (g.2.1.map iI) 0)::(ido,.cells 1 (g.1.map iI) 0)::(outO out g.2.2 (L++(W.take y).flatMap fun y=>fnsP C D once d (pre++[y]))++r))) W.length (O,A,z) ⟨⟨hOl,hAl,hpre,by simpa using hL⟩,by simpa using o⟩ rfl ?_
  clear o hpr
  rintro y ⟨O1,A1,z⟩ H hy ⟨⟨h1,h2,h3,h4⟩,o⟩;dsimp only at h1 h2 h3 o;refine tt ?_;refine rd_cells o (by simp) ?_;refine tt ?_;apply bk <;> intro b1
  rotate_left
  ·have b1p : y=W.length:=by have:=of_ndecide b1; omega
   have eW : W.take y=W:=List.take_of_length_le (by omega);rw [eW] at h4 o;refine tt ?_;exact ⟨_,.refl _,z,O1,A1,h1,h2,by rw [hpl]; exact h3,by rw [decide_eq_true h4],by rw [colF_all h4]; exact o⟩
  have b1p : y<W.length:=by have:=of_decide b1; omega
  have w2:=wsucc (k:=y) (by omega)
  have efl:=flat_at (f:=fun y=>fnsP C D once d (pre++[y])) b1p
  have etk:=flat_take (f:=fun y=>fnsP C D once d (pre++[y])) b1p;rw [hWa y (by omega)] at efl etk
  have hgp : ∀ i,i<x→O1.getD i default=pre.getD i default:=fun i hi=>by rw [← h3,List.getD_eq_getElem?_getD,List.getD_eq_getElem?_getD,List.getElem?_take,if_pos hi]
  have eT : (O1.set x (y : Int)).take (x+1)=pre++[(y : Int)]:=by
   rw [List.take_succ_eq_append_getElem (by rw [List.length_set]; omega),List.take_set_of_le (Nat.le_refl x),h3]; simp
  have eP : (O1.set x (y : Int)).take x=pre:=by rw [List.take_set_of_le (Nat.le_refl x),h3]
  have twc : (y : Int)∈O1.take x→fnsP C D true d (pre++[(y : Int)])=[]:=fun q=>by
   rw [h3] at q
   obtain ⟨i,hi,ei⟩:=mem_getD.mp q;refine fnsP_twice hC (i:=i) (j:=x) (by omega) (by simp; omega) (by simp; omega) ?_;rw [List.getD_eq_getElem?_getD,List.getElem?_append_left hi,← List.getD_eq_getElem?_getD,ei,List.getD_eq_getElem?_getD,List.getElem?_append_right (by omega)]
   simp [hpl]
  generalize (W.take y).flatMap (fun y=>fnsP C D once d (pre++[y]))=Lj at *
  generalize hl' : fnsP C D once d (pre++[(y : Int)])=l' at *;refine tt ?_;refine rd_cells o (by simp) ?_
  cases once
  case' false=>(try simp only [go_sem,↓reduceIte,reduceEqDiff,reduceAdd,reduceMul,reduceLeDiff,reduceLT])
  case' true =>
   refine tt ?_;refine rd_cells o (by simp) ?_;refine tt ?_;refine pre_own o.tl.tl (by rw [List.length_map]; omega) (by omega) ?_;refine tt ?_;refine (has_own B O1 x y (by omega) (by omega) o.tl.tl).mono ?_
   rintro v H' ⟨rfl,rfl⟩
   by_cases q : (y : Int)∈O1.take x
   ·rw [dec_t q];rw [hl'.symm.trans (twc q),List.append_nil] at etk;refine tw w2 ?_;exact for_next (O1,A1,z) b1p ⟨⟨h1,h2,h3,by rw [etk]; exact h4⟩,by rw [etk]; exact o⟩ rfl
   rw [dec_f q];refine tt ?_
  all_goals
   refine rd_cells o (by simp) ?_;refine tt ?_;refine ⟨by omega, ?_⟩;refine set_own (f:=iI) (y : Int) (o.pull [_,_]) rfl (by omega) fun H o=>?_
   replace o:=Owns.push [(id,seG C D _ ido ida (fnG C D out most)),(ida,.cells 1 (A1.map iI) 0)] o
   have hOl2 : (O1.set x (y : Int)).length=C.objs.toNat:=by rw [List.length_set]; exact h1
   refine tt ?_;refine (placed_ownG B hC hD (by omega) hOl2 (o.perm (List.Perm.cons _ (List.Perm.swap _ _ _)))).mono ?_
   rintro v H' ⟨⟨b,rfl,hb⟩,rfl⟩;rw [eT] at hb
   cases b
   ·rw [hl'.symm.trans (hb rfl d),List.append_nil] at etk;refine tw w2 ?_;exact for_next (O1.set x (y : Int),A1,z) b1p ⟨⟨hOl2,h2,eP,by rw [etk]; exact h4⟩,by rw [etk]; exact o⟩ rfl
   have hih:=fun {H0 : Heap}=>@ih (x+1) (by omega) (O1.set x (y : Int)) A1 hOl2 h2 (fun i hi=>by
    rw [getD_setI (by omega)]
    by_cases e : x=i
    ·rw [if_pos e]; omega
    ·rw [if_neg e,hgp i (by omega)]; exact hO2 i (by omega)) H0 _ z h4
   rw [eT,hl'] at hih
   have w3:=wsucc (k:=x) (by omega);refine tw w3 ?_;refine (hih o).mono ?_;clear o hih
   rintro v H ⟨z,O3,A3,l1,l2,l3,rfl,o⟩
   have l4 : O3.take x=pre:=by
    have:=congrArg (List.take x) l3;rw [List.take_take,Nat.min_eq_left (by simp; omega)] at this;rw [this,List.take_append_of_le_length (by omega),List.take_of_length_le (by omega)]
   by_cases hle : ((L++Lj)++l').length≤most
   ·rw [colF_all hle] at o;rw [decide_eq_true hle];rw [List.append_assoc,← etk] at hle o;refine tw w2 ?_;exact for_next (O3,A3,z) b1p ⟨⟨l1,l2,l4,hle⟩,o⟩ rfl
   ·rw [decide_eq_false hle];refine tt ?_;refine ⟨_,.refl _,z,O3,A3,l1,l2,by rw [hpl]; exact l4, ?_, ?_⟩
    ·rw [efl,decide_eq_false];rw [List.append_assoc] at hle;simp only [List.length_append] at hle ⊢;omega
    ·rw [efl,← List.append_assoc,colF_stop (by rw [← List.append_assoc]; omega),colF_app h4];exact o
end
section
variable (B : Nat) {C D : Cat} (hC : C.Is) (hD : D.Is) {once : Bool}
include hC hD
theorem searchFor_ownG {Hb H0 : Heap} {r : Ob} (out most : Nat) (o : Owns Hb H0 r) : CallH Tryz.prog B 202 [.ptr C.cells,.ptr D.cells,.bool once,fnG C D out most] H0 (fun v H'=>∃ id ido ida,v=.ref id 0 ∧
  Owns Hb H' ((id,seG C D once ido ida (fnG C D out most))::(ida,.cells 1 ((List.replicate C.frm.length (0 : Int)).map iI) 0)::(ido,.cells 1 ((List.replicate C.objs.toNat (0 : Int)).map iI) 0)::r)):=by
 have hob:=hC.1.o
 have hm:=hC.1.m;refine c202p (by simp) fun _=>?_;unfold s202p
 have h1 : C.objs≤C.objs∧C.objs.toNat≤maxL∧C.objs.toNat≤maxL:=⟨Int.le_refl _,by simp only [maxL]; omega,by simp only [maxL]; omega⟩
 have h2 : (C.frm.length : Int)≤C.frm.length∧C.frm.length≤maxL∧C.frm.length≤maxL:=⟨Int.le_refl _,by simp only [maxL]; omega,by simp only [maxL]; omega⟩;refine tt ?_;refine ⟨_,(arrows_ok B C).run,⟨⟨hob.1,h1⟩, ?_⟩, ?_⟩
 ·refine mks_list iI 0 rfl o fun ido H o=>tt ?_;refine ⟨h2, ?_⟩;refine mks_list iI 0 rfl o fun ida H o=>tt ?_;refine ⟨rfl,⟨rfl,by simp only [maxL]; omega⟩,newRef_own o fun id H o=>?_⟩;refine tt ?_;exact ⟨_,.refl _,id,ido,ida,rfl,o⟩
 ·refine tt ?_;refine ⟨h2, ?_⟩;refine mks_list iI 0 rfl o fun ida H o=>tt ?_;refine ⟨⟨hob.1,h1⟩, ?_⟩;refine mks_list iI 0 rfl o fun ido H o=>tt ?_;refine ⟨rfl,⟨rfl,by simp only [maxL]; omega⟩,newRef_own o.swap fun id H o=>?_⟩;refine tt ?_;exact ⟨_,.refl _,id,ido,ida,rfl,o⟩
theorem allFunctors_okG {most : Nat} (hmost : most≤1000) : Pur Tryz.prog B 150 [.ptr C.cells,.ptr D.cells,.bool once,iI (most : Int)] (.tup [mL fuE (colF most [] (allF C D once)),.bool (decide ((allF C D once).length≤most))]):=by
 refine ⟨fun H0=>c150 (by simp) fun _=>?_⟩;unfold s150
 have o : Owns H0 H0 []:=.nil _;refine tt ?_;refine new_listN (n:=12) fuE o fun z H o=>tt ?_;refine newRef_own o fun out H o=>tt ?_;refine sw o fun H o=>tt ?_;refine (searchFor_ownG B hC hD out most o).mono ?_;clear o
 rintro v H ⟨id,ido,ida,rfl,o⟩
 have hl0 : (List.replicate C.objs.toNat (0 : Int)).length=C.objs.toNat:=List.length_replicate
 have hl1 : (List.replicate C.frm.length (0 : Int)).length=C.frm.length:=List.length_replicate;refine tt ?_;refine (run_ownG B hC hD (once:=once) (id:=id) (ido:=ido) (ida:=ida) (out:=out) hmost C.objs.toNat 0 (by omega) _ _ hl0 hl1 (fun i hi=>by omega) (L:=[]) (z:=z) (Nat.zero_le _) (r:=[]) (o.perm (by simp only [outO]; exact (permC fun x=>by (try dsimp only); simp only [List.append_eq,List.count_append,List.count_cons,List.count_nil,List.map_nil,List.length_nil,List.length_append,List.length_cons,List.length_set,Nat.zero_add,List.nil_append,iI,iL]; omega)))).mono ?_;clear o
 rintro v H ⟨z,O',A',_,_,_,rfl,o⟩;rw [List.take_zero] at o ⊢
 change Owns H0 H ((id,seG C D once ido ida (fnG C D out most))::(ida,.cells 1 (A'.map iI) 0)::(ido,.cells 1 (O'.map iI) 0)::(outO out z (colF most [] (allF C D once))++[])) at o
 have ev : fnsP C D once C.objs.toNat []=allF C D once:=rfl;rw [ev,List.nil_append]
 generalize allF C D once=l at *
 have o2 : Owns H0 H ((out,.cells 1 [.buf z (colF most [] l).length] 0)::(z,.cells 12 (flat ((colF most [] l).map fuE)) 0)::[(id,seG C D once ido ida (fnG C D out most)),(ida,.cells 1 (A'.map iI) 0),(ido,.cells 1 (O'.map iI) 0)]):=o.perm (by simp only [outO]; exact (permC fun x=>by (try dsimp only); simp only [List.append_eq,List.count_append,List.count_cons,List.count_nil,List.map_nil,List.length_nil,List.length_append,List.length_cons,List.length_set,Nat.zero_add,List.nil_append,iI,iL]; omega));refine tt ?_;refine rd_cells o2 (by simp) ?_;refine tt ?_;refine fz_ownN (n:=12) (f:=fuE) o2.swap rfl fun H o=>tt ?_;exact pure_ret rfl o.sub
end
theorem l06Then_ok (B : Nat) (f g : FU) (h1 : ∀ y,y∈f.ob→0≤y∧y.toNat<g.ob.length) (h2 : ∀ y,y∈f.ar→0≤y∧y.toNat<g.ar.length) :
  Pur Tryz.prog B 78 [.agg f.cells,.agg g.cells] (.agg (FU.cells ⟨f.src,g.tgt,thenL f.ob g.ob,thenL f.ar g.ar⟩)):=by
 refine ⟨fun H0=>c78 (by simp) fun _=>?_⟩;unfold s78
 have o : Owns H0 H0 []:=.nil _;refine tt ?_;refine nb o fun id4 H o=>tt ?_;refine ⟨_,(l01Then_ok B f.ob g.ob h1).run,_,(l01Then_ok B f.ar g.ar h2).run,_,(l06Make_ok B f.src g.tgt (thenL f.ob g.ob) (thenL f.ar g.ar)).run,tt ?_⟩;refine sw o fun H o=>tt ?_
 have hr:=o.rc 12 0 (by simp);simp only [List.drop_zero] at hr;rw [hr];exact pure_ret rfl o.sub
def AnyL (r : AV) : Prop:=∃ l : List Int,r=iL l
def AnyB (r : AV) : Prop:=∃ b : Bool,r=.bool b
theorem l06Moving_ok (B : Nat) (c : Cat) (hc : c.Shape) : Rets B 168 [.agg c.cells] AnyL:=by
 intro H0;refine c168 (by simp) fun _=>?_
 have sm:=hc.m;unfold s168
 have o : Owns H0 H0 []:=.nil _;refine tt ?_;refine new_list iI o fun id H o=>tt ?_;refine awp_for [1] (G:=Nat × List Int) (fun k g=>[(3,some (.buf g.1 g.2.length)),(4,some (.int .i64 (k : Int)))]) (fun k g H=>g.2.length≤k∧Owns H0 H [(g.1,.cells 1 (g.2.map iI) 0)]) c.frm.length (id,[]) ⟨by simp,o⟩ rfl ?_;clear o
 rintro k ⟨id,out⟩ H hk ⟨hl,o⟩;dsimp only at hl o;refine tt ?_;apply bk <;> intro h1
 ·have h1p:=of_decide h1
  have w:=wsucc (k:=k) (by omega);refine tt ?_;refine (l02Unit_ok B c hc k ⟨by omega,by show (k : Int).toNat<_; omega⟩).go fun _=>tt ?_;apply bk <;> intro h2
  ·refine tt ?_;refine app_own (k : Int) o rfl rfl (by simp only [maxL]; omega) fun id H o=>?_;refine tw w ?_;exact for_next (_,_) h1p ⟨by simp; omega,o⟩ rfl
  ·refine tw w ?_;exact for_next (_,_) h1p ⟨by simp only; omega,o⟩ rfl
 ·refine tt ?_;refine fz_own o rfl fun H o=>tt ?_;exact rets_ret ⟨out,rfl⟩ o.sub
theorem l06Small_ok (B : Nat) (c d : Cat) (hc : c.Shape) : Rets B 88 [.agg c.cells,.agg d.cells] AnyB:=by
 intro H0;refine c88 (by simp) fun _=>?_;unfold s88;refine tt ?_;refine (l06Moving_ok B c hc).go fun r _ ⟨l,e⟩=>?_;subst e;refine tt ?_
 cases h : decide ((l.length : Int)≤8)
 ·refine tt ?_;exact rets_ret ⟨_,rfl⟩ (.refl _)
 ·refine tt ?_;exact rets_ret ⟨_,rfl⟩ (.refl _)
theorem l06Rooms_ok (B : Nat) (c d : Cat) (hc : c.Shape) (hd : d.Shape) (ob : List Int) : Rets B 218 [.agg c.cells,.agg d.cells,iL ob] AnyB:=by
 intro H0;refine c218 (by simp) fun _=>?_
 have sm:=hc.m
 have tl:=hc.tol;unfold s218;refine tt ?_;refine awp_for [2,3,4] (G:=Unit) (fun k _=>[(7,some (.int .i64 (k : Int)))]) (fun k _ H'=>H'=H0) c.frm.length () rfl rfl ?_
 rintro k _ H hk rfl;refine tt ?_;apply bk <;> intro h1
 ·have h1p:=of_decide h1
  have w:=wsucc (k:=k) (by omega)
  have f0:=(hc.frmObj (f:=(k : Int)) h1p).1
  have t0:=(hc.toObj (f:=(k : Int)) h1p).1
  have f0 : 0≤c.frm.getD k default:=f0
  have t0 : 0≤c.to.getD k default:=t0;refine tt ?_
  (repeat (refine ⟨by first | exact h1p | exact (by omega : k<c.to.length), ?_⟩))
  refine tt ?_
  by_cases g1 : c.frm.getD k default<(ob.length : Int)
  ·rw [decide_eq_true g1];refine tt ?_
   by_cases g2 : c.to.getD k default<(ob.length : Int)
   ·rw [decide_eq_true g2];refine tt ?_;refine ⟨⟨f0,by omega⟩,⟨t0,by omega⟩, ?_⟩;refine ⟨_,(l02Hom_ok B d hd _ _).run,tt ?_⟩;apply bk <;> intro g3
    ·refine tt ?_;exact rets_ret ⟨_,rfl⟩ (.refl _)
    ·refine tw w ?_;exact for_next () h1p rfl rfl
   ·rw [decide_eq_false g2];refine tw w ?_;exact for_next () h1p rfl rfl
  ·rw [decide_eq_false g1];refine tw w ?_;exact for_next () h1p rfl rfl
 ·refine tt ?_;exact rets_ret ⟨_,rfl⟩ (.refl _)
end Go.Proofs.Shf
