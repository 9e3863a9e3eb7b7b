/- A part of a proof. -/
import Derived.Test.YthflgdphhajkbaaGreatF7
import Derived.Test.YthflgdphhajkbaaGreatProg
import Derived.Shelf.SlLaysF
import Derived.Shelf.SlSortCmp.Whole1
set_option linter.unusedVariables false
set_option linter.unusedSimpArgs false
set_option linter.unusedSectionVars false
open Nat (reduceEqDiff reduceAdd reduceMul reduceLeDiff reduceLT)
namespace Go.Shf
open Go.AW
theorem ExtA.negs_le : ∀ {A C : List Int},ExtA A C→negs C≤negs A
 | [],C,h=>by
  have : C=[]:=List.eq_nil_of_length_eq_zero h.len;rw [this]; exact Nat.le_refl _
 | a::A,[],h=>by have:=h.len; simp at this
 | a::A,b::C,h=>by
  have ih:=ExtA.negs_le (A:=A) (C:=C) ⟨by have:=h.len; simpa using this,fun i hi h0=>by have:=h.keep (i+1) (by simpa using hi) (by simpa using h0); simpa using this⟩
  have h0:=h.keep 0 (by simp);simp only [List.getD_cons_zero] at h0;simp only [negs,List.countP_cons] at ih ⊢
  by_cases e : a<0
  ·have e' : decide (a<0)=true:=decide_eq_true e;rw [e']; simp only [if_true]; split <;> omega
  ·have:=h0 (by omega);rw [this]; omega
structure SprA (c : Cat) (A C : List Int) : Prop where
 ext : ExtA A C
 par : ParA c C
 idn : IdA c A→IdA c C
theorem SprA.set {c : Cat} {A C : List Int} (h : SprA c A C) {i : Nat} {v : Int} (hi : i<C.length) (hn : C.getD i default<0) (a : c.Ar v (c.frm.getD i default) (c.to.getD i default)) (hv : IdA c A→v=i) : SprA c A (C.set i v) :=
 ⟨h.ext.trans (.set hi hn),h.par.set hi a,fun k=>by rw [hv k]; exact (h.idn k).set hi⟩
end Go.Shf
namespace Go.Proofs.Shf
open Go.AW Go.Proofs Go.Shf
section
variable (B : Nat) {S : Cat} (hS : S.Is) {Hb : Heap} {r : Ob} {id ido ida : Nat} {F : AV}
include hS
def SprK (S : Cat) (A : List Int) (Hb : Heap) (id ido ida : Nat) (F : AV) (r : Ob) : Kont:=fun v H'=>∃ (C : List Int) (b : Bool),v=.bool b∧SprA S A C∧(b=true→DistA C)∧(IdA S A→b=true)∧Owns Hb H' ((id,seO S ido ida F)::(ida,.cells 1 (C.map iI) 0)::r)
theorem spread_own {A : List Int} (pa : ParA S A) {H0 : Heap} (o : Owns Hb H0 ((id,seO S ido ida F)::(ida,.cells 1 (A.map iI) 0)::r)) :
  CallH Tryz.prog B 320 [.ref id 0] H0 (SprK S A Hb id ido ida F r):=by
 refine c320 (by simp) fun _=>?_;unfold s320
 have hm:=hS.1.m
 have hcl:=hS.1.cl;refine tt ?_
 refine awp_while [0] (G:=List Int × Bool) (fun g=>[(3,some (.bool g.2))])
  (fun m g H=>m=2*negs g.1+(if g.2 then 1 else 0)∧SprA S A g.1∧Owns Hb H ((id,seO S ido ida F)::(ida,.cells 1 (g.1.map iI) 0)::r)) (2*negs A+1) (A,true) ⟨rfl,⟨.refl A,pa,fun h=>h⟩,o⟩ rfl ?_
 clear o
 rintro m ⟨A1,ag⟩ H ⟨rfl,hsp1,o⟩;dsimp only at hsp1 o
 cases ag
 ·refine tt ?_;refine rd_cells o (by simp) ?_;refine tt ?_;refine (distinct_own B hS hsp1.par o).mono ?_;clear o
  rintro v H ⟨rfl,o⟩;refine tt ?_;refine ⟨_,.refl _,A1,dec (DistA A1),rfl,hsp1,fun h=>dec_iff.mp h,fun h=>dec_t (hsp1.idn h).dist,o⟩
 refine tt ?_;refine rd_cells o (by simp) ?_;refine tt ?_
 refine awp_for [0,16,17] (G:=List Int × Bool) (fun k g=>[(3,some (.bool g.2)),(18,some (.int .i64 (k : Int)))])
  (fun k g H=>(SprA S A g.1∧negs g.1≤negs A1∧(g.2=true→negs g.1<negs A1))∧Owns Hb H ((id,seO S ido ida F)::(ida,.cells 1 (g.1.map iI) 0)::r)) S.comp.length (A1,false) ⟨⟨hsp1,Nat.le_refl _,fun h=>by cases h⟩,o⟩ rfl ?_
 clear o
 rintro a ⟨A2,ag⟩ H ha ⟨⟨hsp2,hn2,hag2⟩,o⟩;dsimp only at hsp2 hn2 hag2 o;refine tt ?_;apply bk <;> intro h1
 rotate_left
 ·refine tt ?_;refine while_next (2*negs A2+(if ag then 1 else 0)) (A2,ag) ?_ ⟨rfl,hsp2,o⟩ rfl
  cases ag
  ·simp; omega
  ·have:=hag2 rfl; simp; omega
 have h1p : a<S.comp.length:=of_decide h1
 have w1:=wsucc (k:=a) (by omega)
 have ra:=hS.1.row a (by omega);refine tt ?_;refine ⟨h1p, ?_⟩
 refine awp_for [0,4,16,17,18,23,24] (G:=List Int × Bool) (fun k g=>[(3,some (.bool g.2)),(25,some (.int .i64 (k : Int)))])
  (fun k g H=>(SprA S A g.1∧negs g.1≤negs A1∧(g.2=true→negs g.1<negs A1))∧Owns Hb H ((id,seO S ido ida F)::(ida,.cells 1 (g.1.map iI) 0)::r)) S.frm.length (A2,ag) ⟨⟨hsp2,hn2,hag2⟩,o⟩ rfl ?_
 clear o hsp2 hn2 hag2
 rintro b ⟨A2,ag⟩ H hb ⟨⟨hsp2,hn2,hag2⟩,o⟩;dsimp only at hsp2 hn2 hag2 o
 have hl2:=hsp2.par.len;refine tw ra ?_;apply bk <;> intro h2
 rotate_left
 ·refine tw w1 ?_;exact for_next (A2,ag) h1p ⟨⟨hsp2,hn2,hag2⟩,o⟩ rfl
 have h2p : b<S.frm.length:=of_decide h2
 have w2:=wsucc (k:=b) (by omega)
 have hth:=th_ran hS (a:=a) (b:=b) (by omega) h2p;refine tt ?_;refine ⟨by omega, ?_⟩
 by_cases e1 : (S.comp.getD a default).getD b default<0
 ·rw [decide_eq_true e1];refine tw w2 ?_;exact for_next (A2,ag) h2p ⟨⟨hsp2,hn2,hag2⟩,o⟩ rfl
 obtain ⟨h,hh⟩ : ∃ h : Nat,(S.comp.getD a default).getD b default=h:=⟨_,(Int.toNat_of_nonneg (by omega)).symm⟩;rw [decide_eq_false e1,hh]
 have hhn : h<A2.length:=by omega
 refine tt ?_;refine rd_cells o (by simp) ?_;refine tt ?_;refine ⟨by omega,rd_cells o.tl (by simp; omega) ?_⟩;rw [map_getD _ (by omega)];refine tt ?_
 by_cases e2 : A2.getD a default<0
 ·rw [decide_eq_true e2];refine tw w2 ?_;exact for_next (A2,ag) h2p ⟨⟨hsp2,hn2,hag2⟩,o⟩ rfl
 rw [decide_eq_false e2];refine tt ?_;refine rd_cells o (by simp) ?_;refine tt ?_;refine ⟨by omega,rd_cells o.tl (by simp; omega) ?_⟩;rw [map_getD _ (by omega)];refine tt ?_
 by_cases e3 : A2.getD b default<0
 ·rw [decide_eq_true e3];refine tw w2 ?_;exact for_next (A2,ag) h2p ⟨⟨hsp2,hn2,hag2⟩,o⟩ rfl
 rw [decide_eq_false e3]
 obtain ⟨_,har⟩:=hsp2.par.th hS (a:=a) (b:=b) (by omega) (by omega) (by omega) (by omega) hh
 have ka:=(hsp2.par.known (i:=a) (by omega) (by omega)).r
 have kb:=(hsp2.par.known (i:=b) (by omega) (by omega)).r
 have hid : IdA S A→S.th (A2.getD a default) (A2.getD b default)=h:=fun q=>by
  rw [(hsp2.idn q).known (i:=a) (by omega) (by omega),(hsp2.idn q).known (i:=b) (by omega) (by omega),Cat.th,ix_nat,ix_nat,hh]
 have hrow:=hS.1.row' ka.2
 have hthen:=catThen_ok B S (A2.getD a default) (A2.getD b default) ⟨ka.1,by omega⟩ ⟨kb.1,by rw [hrow]; exact kb.2⟩;rw [show ix (ix S.comp (A2.getD a default)) (A2.getD b default)=S.th (A2.getD a default) (A2.getD b default) from rfl] at hthen
 generalize S.th (A2.getD a default) (A2.getD b default)=K at *;refine tt ?_;refine rd_cells o (by simp) ?_;refine tt ?_;refine rd_cells o (by simp) ?_;refine tt ?_;refine ⟨by omega,rd_cells o.tl (by simp; omega) ?_⟩;rw [map_getD _ (by omega)];refine tt ?_;refine rd_cells o (by simp) ?_;refine tt ?_;refine ⟨by omega,rd_cells o.tl (by simp; omega) ?_⟩;rw [map_getD _ (by omega)];refine ⟨_,hthen.run,tt ?_⟩;refine rd_cells o (by simp) ?_;refine tt ?_;refine ⟨by omega,rd_cells o.tl (by simp; omega) ?_⟩;rw [map_getD _ (by omega)];refine tt ?_
 by_cases e4 : A2.getD h default<0
 ·rw [decide_eq_true e4];refine tt ?_;refine rd_cells o (by simp) ?_;refine tt ?_;refine ⟨by omega, ?_⟩;refine set_own (f:=iI) K o.swap rfl (by omega) fun H o=>?_
  have hneg:=negs_set (A:=A2) (i:=h) (v:=K) hhn e4 har.r.1
  have hgs : (A2.set h K).getD h default=K:=by rw [getD_setI hhn,if_pos rfl]
  refine tt ?_;refine rd_cells o.tl (by simp) ?_;refine tt ?_;refine ⟨by omega,rd_cells o (by simp; omega) ?_⟩;rw [map_getD _ (by rw [List.length_set]; omega),hgs];try simp only [go_sem,↓reduceIte,reduceEqDiff,reduceAdd,reduceMul,reduceLeDiff,reduceLT,dT5,w2]
  exact for_next (A2.set h K,true) h2p ⟨⟨hsp2.set hhn e4 har hid,by show negs (A2.set h K)≤_; omega,fun _=>by show negs (A2.set h K)<_; omega⟩,o.swap⟩ rfl
 ·rw [decide_eq_false e4];refine tt ?_;refine rd_cells o (by simp) ?_;refine tt ?_;refine ⟨by omega,rd_cells o.tl (by simp; omega) ?_⟩;rw [map_getD _ (by omega)];refine tt ?_
  by_cases e5 : A2.getD h default=K
  ·rw [decide_eq_true e5];refine tw w2 ?_;exact for_next (A2,ag) h2p ⟨⟨hsp2,hn2,hag2⟩,o⟩ rfl
  ·rw [decide_eq_false e5];refine tt ?_;refine ⟨_,.refl _,A2,false,rfl,hsp2,(fun q=>by cases q),fun q=>?_,o⟩;exact (e5 (by rw [hid q,(hsp2.idn q).known hhn (by omega)])).elim
end
end Go.Proofs.Shf
namespace Go.Shf
open Go.AW
theorem first_neg {A : List Int} : ∀ n : Nat,(∃ i,i<n∧A.getD i default=-1)→∃ k,k<n∧A.getD k default=-1∧∀ i,i<k→A.getD i default≠-1
 | 0,⟨i,h,_⟩=>by omega
 | n+1,⟨i,h,e⟩=>by
  by_cases q : ∃ i,i<n∧A.getD i default=-1
  ·obtain ⟨k,h1,h2,h3⟩:=first_neg n q;exact ⟨k,by omega,h2,h3⟩
  ·refine ⟨n,by omega, ?_,fun j hj e=>q ⟨j,hj,e⟩⟩
   by_cases t : i=n
   ·rw [← t]; exact e
   ·exact (q ⟨i,by omega,e⟩).elim
end Go.Shf
namespace Go.Proofs.Shf
open Go.AW Go.Proofs Go.Shf
abbrev fnF (S : Cat) (out : Nat) : AV:=.fn (.func 304) [.ref out 0,.ptr [.ptr S.cells],.ptr [.ptr S.cells],.ptr [iI 0]]
section
variable (B : Nat) {S : Cat} (hS : S.Is) {Hb : Heap} {r : Ob} {id ido ida out : Nat}
include hS
def FndK (S : Cat) (Hb : Heap) (out : Nat) (r : Ob) : Kont:=fun v H'=>v=.bool false∧∃ z,Owns Hb H' ((out,.cells 1 [.buf z 1] 0)::(z,.cells 12 (flat (([idF S] : List FU).map fuE)) 0)::r)
theorem found_own {H0 : Heap} {z : Nat} (o : Owns Hb H0 ((ida,.cells 1 ((idL S.frm.length).map iI) 0)::(ido,.cells 1 ((idL S.objs.toNat).map iI) 0)::(out,.cells 1 [.buf z 0] 0)::(z,.cells 12 (flat (([] : List FU).map fuE)) 0)::r)) :
  CallH Tryz.prog B 304 [.buf ido S.objs.toNat,.buf ida S.frm.length,.ref out 0,.ptr [.ptr S.cells],.ptr [.ptr S.cells],.ptr [iI 0]] H0 (FndK S Hb out r):=by
 refine c304p (by simp) fun _=>?_;unfold s304p;refine tt ?_;refine fz_own (f:=iI) o (by rw [idL_len]) fun H o=>tt ?_;refine fz_own (f:=iI) o (by rw [idL_len]) fun H o=>tt ?_;refine rd_cells o (by simp) ?_;refine tt ?_;refine ⟨_,(functor_ok B S S (idL S.objs.toNat) (idL S.frm.length)).run,tt ?_⟩;refine app_ownN (f:=fuE) (⟨S,S,idL S.objs.toNat,idL S.frm.length⟩ : FU) o.swap rfl rfl (by simp [maxL]) fun z H o=>tt ?_;refine sw o.swap fun H o=>tt ?_;refine rd_cells o (by simp) ?_;refine tt ?_;exact ⟨_,.refl _,rfl,z,o⟩
theorem next_own : ∀ (m : Nat) (A : List Int),IdA S A→negs A=m→∀ {H0 : Heap} {z : Nat},Owns Hb H0 ((id,seO S ido ida (fnF S out))::(ida,.cells 1 (A.map iI) 0)::(ido,.cells 1 ((idL S.objs.toNat).map iI) 0)::(out,.cells 1 [.buf z 0] 0)::(z,.cells 12 (flat (([] : List FU).map fuE)) 0)::r) →
  CallH Tryz.prog B 321 [.ref id 0] H0 (FndK S Hb out r):=by
 intro m
 induction m using Nat.strongRecOn with | _ m ih=>?_
 intro A ia hm0 H0 z o;refine c321p (by simp) fun _=>?_;unfold s321p
 have hl:=ia.len
 have hm:=hS.1.m
 have hob:=hS.1.o
 have htl:=hS.1.tol
 have hix:=index_own B A (-1) (by omega) o.swap;rw [hl] at hix;refine tt ?_;refine rd_cells o (by simp) ?_;refine tt ?_;refine hix.mono ?_
 rintro v H ⟨rfl,rfl⟩
 by_cases hmem : (-1 : Int)∈A
 rotate_left
 ·have eA:=idA_full ia fun i hi=>by
   rcases ia.idn i hi with q | q
   ·exact (hmem (mem_getD.mpr ⟨i,hi,q⟩)).elim
   ·omega
  rw [indexOf_neg hmem];subst eA
  have hng : decide ((-1 : Int)<0)=true:=rfl;refine tw hng ?_;refine rd_cells o (by simp) ?_;refine tt ?_;refine rd_cells o (by simp) ?_;refine tt ?_;refine rd_cells o (by simp) ?_;refine tt ?_;refine (found_own B hS o.tl).mono ?_;clear o
  rintro v H ⟨rfl,z,o⟩;refine tt ?_;exact ⟨_,.refl _,rfl,z,o⟩
 obtain ⟨i0,hi0,ei0⟩:=mem_getD.mp hmem
 obtain ⟨k,hk,ek,hfst⟩:=first_neg A.length ⟨i0,hi0,ei0⟩;rw [indexOf_hit hk hfst ek]
 have hkf : k<S.frm.length:=by omega
 have hxr:=hS.1.frm _ (mem_getD.mpr ⟨k,hkf,rfl⟩)
 have hyr:=hS.1.to _ (mem_getD.mpr ⟨k,(by omega : k<S.to.length),rfl⟩)
 have hx:=idL_at (n:=S.objs.toNat) (i:=(S.frm.getD k default).toNat) (by omega)
 have hy:=idL_at (n:=S.objs.toNat) (i:=(S.to.getD k default).toNat) (by omega);rw [Int.toNat_of_nonneg hxr.1] at hx;rw [Int.toNat_of_nonneg hyr.1] at hy
 have hil:=idL_len S.objs.toNat
 have hcl:=clone_bufO B A (by omega) (by omega) o.swap;rw [hl] at hcl
 have hk0 : decide ((k : Int)<0)=false:=decide_eq_false (by omega);refine tw hk0 ?_;refine rd_cells o (by simp) ?_;refine tt ?_;refine hcl.mono ?_;clear o hcl hix
 rintro v H ⟨rfl,o⟩
 replace o:=o.swap;refine tt ?_;refine rd_cells o (by simp) ?_;refine tt ?_;refine rd_cells o (by simp) ?_;refine tt ?_;refine rd_cells o (by simp) ?_;refine tt ?_;refine ⟨hkf,⟨hxr.1,by omega⟩,rd_cells o.tl.tl (by rw [List.length_map]; omega) ?_⟩;rw [map_getD _ (by omega),hx];refine tt ?_;refine rd_cells o (by simp) ?_;refine tt ?_;refine rd_cells o (by simp) ?_;refine tt ?_;refine ⟨by omega,⟨hyr.1,by omega⟩,rd_cells o.tl.tl (by rw [List.length_map]; omega) ?_⟩;rw [map_getD _ (by omega),hy];refine ⟨_,(hom_ok B S hS.1 (S.frm.getD k default) (S.to.getD k default)).run, ?_⟩
 have hle:=fun j hj h=>hom_le (c:=S) (f:=k) (k:=j) hkf hj h
 have hst:=fun h=>hom_stop (c:=S) (f:=k) hkf h
 have hmm : ∀ j,j<(hom S (S.frm.getD k default) (S.to.getD k default)).length→S.Ar ((hom S (S.frm.getD k default) (S.to.getD k default)).getD j default) (S.frm.getD k default) (S.to.getD k default):=fun j hj=>hom_at hj
 have hlen:=homC_len (c:=S) (S.frm.getD k default) (S.to.getD k default);rw [← hom_homC] at hlen
 generalize hom S (S.frm.getD k default) (S.to.getD k default)=L at *;refine tt ?_
 refine awp_for [0,3,4,68,69] (G:=Unit) (fun j _=>[(70,some (.int .i64 (j : Int)))])
  (fun j _ H=>(∀ i,i<j→L.getD i default<(k : Int))∧Owns Hb H ((id,seO S ido ida (fnF S out))::(ida,.cells 1 (A.map iI) 0)::(ido,.cells 1 ((idL S.objs.toNat).map iI) 0)::(out,.cells 1 [.buf z 0] 0)::(z,.cells 12 (flat (([] : List FU).map fuE)) 0)::r)) L.length () ⟨fun i hi=>by omega,o⟩ rfl ?_
 clear o
 rintro j _ H hj ⟨hsm,o⟩;refine tt ?_;apply bk <;> intro h1
 rotate_left
 ·have h1p:=of_ndecide h1;exact (hst fun i hi=>hsm i (by omega)).elim
 have h1p : j<L.length:=of_decide h1
 have w1:=wsucc (k:=j) (by omega)
 have hbk:=hle j h1p hsm
 have har:=hmm j h1p
 obtain ⟨b,hb⟩ : ∃ b : Nat,L.getD j default=b:=⟨_,(Int.toNat_of_nonneg har.r.1).symm⟩;rw [hb] at hbk har;refine tt ?_;refine ⟨h1p, ?_⟩;rw [hb];refine rd_cells o (by simp) ?_;refine tt ?_;refine ⟨hkf, ?_⟩;refine set_own (f:=iI) (b : Int) o.swap rfl hk fun H o=>?_
 replace o:=o.swap
 have pa:=ia.parA.set hk har
 have hak : (A.set k (b : Int)).getD k default=b:=by rw [getD_setI hk,if_pos rfl]
 refine tt ?_;refine (spread_own B hS pa o).mono ?_;clear o
 rintro v H ⟨C,bl,rfl,hsp,hd,hid,o⟩
 have hCl:=hsp.par.len
 have hCk : C.getD k default=b:=by rw [hsp.ext.keep k (by simpa using hk) (by omega),hak]
 by_cases e : b<k
 ·have hbA : A.getD b default=b:=by
   rcases ia.idn b (by omega) with q | q
   ·exact (hfst b e q).elim
   ·exact q
  have hCb : C.getD b default=b:=by
   rw [hsp.ext.keep b (by simp; omega) (by rw [getD_setI hk,if_neg (by omega)]; omega),getD_setI hk,if_neg (by omega),hbA]
  have hbf : bl=false:=by
   cases bl
   ·rfl
   ·have:=hd rfl k b (by omega) (by omega) (by omega) (by rw [hCk,hCb]); omega
  subst hbf;refine tt ?_;refine rd_cells o (by simp) ?_;refine tt ?_;refine cpy_own (f:=iI) o.swap (by omega) (by omega) (by omega) fun H o=>?_
  replace o:=o.swap;refine tw w1 ?_;exact for_next () h1p ⟨lt_succ_all hsm (by omega),o⟩ rfl
 ·have ebk : b=k:=by omega
  subst ebk
  have iaS:=ia.set hk
  have hbt:=hid iaS;subst hbt
  have hneg:=negs_set (A:=A) (i:=b) (v:=b) hk (by omega) (by omega)
  have hnl:=hsp.ext.negs_le;refine tt ?_;refine (ih (negs C) (by omega) C (hsp.idn iaS) rfl o).mono ?_;clear o
  rintro v H ⟨rfl,z,o⟩;refine tt ?_;exact ⟨_,.refl _,rfl,z,o⟩
end
section
variable (B : Nat) {S : Cat} (hS : S.Is) {Hb : Heap} {r : Ob} {id : Nat}
include hS
theorem l10Objects_own (C : List Int) (hC : C.length=S.frm.length) : ∀ (d n : Nat),n+d=S.objs.toNat→∀ {H0 : Heap} {z : Nat},Owns Hb H0 ((id,stO S (iL C) (iL C) (.buf z 0))::(z,.cells 12 (flat (([] : List FU).map fuE)) 0)::r) →
  CallH Tryz.prog B 234 [.ref id 0,iL (idL n)] H0 (fun _ H'=>∃ z',Owns Hb H' ((id,stO S (iL C) (iL C) (.buf z' 1))::(z',.cells 12 (flat (([idF S] : List FU).map fuE)) 0)::r)):=by
 have hm:=hS.1.m
 have hob:=hS.1.o
 have htl:=hS.1.tol
 have hil:=hS.1.il
 intro d
 induction d with
 | zero =>
  intro n hn H0 z o
  obtain rfl : n=S.objs.toNat:=by omega
  generalize hN : S.objs.toNat=n;refine c234p (by simp) fun _=>?_;unfold s234p
  have hnl:=idL_len n;refine tt ?_;refine rd_cells o (by simp) ?_;refine tt ?_;rw [decide_eq_true (by omega)];refine tt ?_;refine new_list iI o fun id5 H o=>tt ?_
  refine awp_for [0,1] (G:=Nat × List Int) (fun k g=>[(5,some (.buf g.1 g.2.length)),(6,some (.int .i64 (k : Int)))])
   (fun k g H=>g.2=List.replicate k (-1)∧Owns Hb H ((g.1,.cells 1 (g.2.map iI) 0)::(id,stO S (iL C) (iL C) (.buf z 0))::(z,.cells 12 (flat (([] : List FU).map fuE)) 0)::r)) S.frm.length (id5,[]) ⟨rfl,o⟩ rfl ?_
  clear o
  rintro k ⟨id5,A⟩ H hk ⟨hA,o⟩;dsimp only at hA o
  have hAl : A.length=k:=by rw [hA,List.length_replicate]
  refine tt ?_;refine rd_cells o.tl (by simp) ?_;refine tt ?_;apply bk <;> intro h1
  ·have h1p : k<S.frm.length:=of_decide h1
   have w1:=wsucc (k:=k) (by omega);refine tt ?_;refine app_own (-1) o rfl rfl (by simp only [maxL]; omega) fun id5 H o=>?_;refine tw w1 ?_;exact for_next (id5,A++[-1]) h1p ⟨by rw [hA,List.replicate_succ'],o⟩ rfl
  have h1p : k=S.frm.length:=by have:=of_ndecide h1; omega
  have ia : IdA S A:=⟨by omega,fun i hi=>.inl (by rw [hA]; simp [List.getD_eq_getElem?_getD,List.getElem?_replicate,show i<k by omega])⟩;clear hA h1;refine tt ?_
  refine awp_for [0,1,5] (G:=List Int) (fun k g=>[(7,some (.int .i64 (k : Int)))])
   (fun k g H=>IdA S g∧Owns Hb H ((id5,.cells 1 (g.map iI) 0)::(id,stO S (iL C) (iL C) (.buf z 0))::(z,.cells 12 (flat (([] : List FU).map fuE)) 0)::r)) n A ⟨ia,o⟩ rfl ?_
  clear o
  rintro x A2 H hx ⟨ia2,o⟩
  have hl2:=ia2.len;refine tt ?_;apply bk <;> intro h2
  ·have h2p : x<n:=by have:=of_decide h2; omega
   have w2:=wsucc (k:=x) (by omega)
   have hxi:=hS.1.idn _ (mem_getD.mpr ⟨x,(by omega : x<S.idn.length),rfl⟩)
   obtain ⟨i,hi⟩ : ∃ i : Nat,S.idn.getD x default=i:=⟨_,(Int.toNat_of_nonneg hxi.1).symm⟩
   have ex:=idL_at h2p;refine tt ?_;refine rd_cells o.tl (by simp) ?_;refine tt ?_;refine ⟨by omega, ?_⟩;refine rd_cells o.tl (by simp) ?_;refine tw ex ?_;refine ⟨by omega,by omega,⟨hxi.1,by omega⟩, ?_⟩;rw [hi];refine set_own (f:=iI) (i : Int) o rfl (by simp; omega) fun H o=>?_;refine tw w2 ?_;exact for_next (A2.set i (i : Int)) h2p ⟨ia2.set (by omega),o⟩ rfl
  ·refine tt ?_;refine fz_own (f:=iI) o (by omega) fun H o=>tt ?_;rw [← hN];refine (l10Arrows_own B hS C hC _ A2 ia2 rfl o).mono ?_;clear o
   rintro v H ⟨z,o⟩;refine tt ?_;exact ⟨_,.refl _,z,o⟩
 | succ d ih =>
  intro n hn H0 z o;refine c234p (by simp) fun _=>?_;unfold s234p
  have hnl:=idL_len n;refine tt ?_;refine rd_cells o (by simp) ?_;refine tt ?_;rw [decide_eq_false (by omega)];refine tt ?_
  refine awp_for [0,1,4] (G:=Nat × List FU) (fun y g=>[(8,some (.int .i64 (y : Int)))])
   (fun y g H=>(g.2=[]∧y≤n∨g.2=[idF S])∧Owns Hb H ((id,stO S (iL C) (iL C) (.buf g.1 g.2.length))::(g.1,.cells 12 (flat (g.2.map fuE)) 0)::r)) S.objs.toNat (z,[]) ⟨.inl ⟨rfl,by omega⟩,o⟩ rfl ?_
  clear o
  rintro y ⟨z,out⟩ H hy ⟨hout,o⟩;dsimp only at hout o;refine tt ?_;refine rd_cells o (by simp) ?_;refine tt ?_
  by_cases e2 : (y : Int)<S.objs
  rotate_left
  ·rw [decide_eq_false e2]
   rcases hout with ⟨_,h⟩ | rfl
   ·omega
   refine tt ?_;exact ⟨_,.refl _,z,o⟩
  rw [decide_eq_true e2];refine tt ?_;refine rd_cells o (by simp) ?_;refine tt ?_;refine rd_cells o (by simp) ?_;refine tt ?_
  rcases hout with ⟨rfl,hyn⟩ | rfl
  rotate_left
  ·rw [decide_eq_false (by simp)];refine tt ?_;exact ⟨_,.refl _,z,o⟩
  rw [decide_eq_true (by simp)]
  have w2:=wsucc (k:=y) (by omega);refine tt ?_;refine (l01Has_ok B _ _).go fun _=>?_
  by_cases e3 : y<n
  ·rw [dec_t (mem_getD.mpr ⟨y,by omega,idL_at e3⟩)];refine tw w2 ?_;exact for_next (z,[]) (by omega) ⟨.inl ⟨rfl,by omega⟩,o⟩ rfl
  have eyn : y=n:=by omega
  subst eyn;rw [dec_f (fun h=>by obtain ⟨i,hi,e⟩:=mem_getD.mp h; rw [hnl] at hi; rw [idL_at hi] at e; omega)];refine tt ?_;refine (l01Own_own B _ Hb H _ o).own fun id2 A2 H o q=>?_;subst q;refine tt ?_;refine app_own (y : Int) o rfl rfl (by simp only [maxL]; omega) fun id2 H o=>tt ?_;refine fz_own (f:=iI) o rfl fun H o=>?_;rw [idL_succ]
  have hnl1:=idL_len (y+1);refine tt ?_;refine awp_for [0,1,4,8,9] (G:=Unit) (fun x _=>[(10,some (.bool true)),(11,some (.int .i64 (x : Int)))]) (fun x _ H'=>H'=H) (y+1) () rfl rfl ?_
  rintro x _ H' hx rfl;rw [hnl];refine tt ?_
  by_cases e5 : x≤y
  ·have w5:=wsucc (k:=x) (by omega)
   have ex:=idL_at (n:=y+1) (i:=x) (by omega)
   have h1:=l02Hom_ok B S hS.1 x y
   have h2:=l02Hom_ok B S hS.1 y x;rw [decide_eq_true e5];refine tt ?_;refine rd_celln o (by simp) ?_;refine tt ?_;refine ⟨_,h1.run,tt ?_⟩;refine rd_celln o (by simp) ?_;refine tw ex ?_;refine ⟨by omega, ?_⟩;refine ⟨_,h1.run, ?_⟩;refine td ?_;refine rd_celln o (by simp) ?_;refine tt ?_;refine ⟨_,h2.run,tt ?_⟩;refine rd_celln o (by simp) ?_;refine tw ex ?_;refine ⟨by omega, ?_⟩;refine ⟨_,h2.run, ?_⟩;try simp only [go_sem,↓reduceIte,reduceEqDiff,reduceAdd,reduceMul,reduceLeDiff,reduceLT,dT5,w5]
   exact for_next () (by omega) rfl rfl
  ·rw [decide_eq_false e5];refine tt ?_;refine (ih (y+1) (by omega) o).mono ?_;clear o
   rintro v H ⟨z,o⟩;refine tw w2 ?_;exact for_next (z,[idF S]) (by omega) ⟨.inr rfl,o⟩ rfl
end
end Go.Proofs.Shf
namespace Go.Shf
open Go.AW
def unitK (c : Cat) (k : Nat) : List Int:=(List.range c.frm.length).map fun f : Nat=>if f<k∧ix c.idn (ix c.frm f)=(f : Int) then 1 else 0
theorem unitK_len (c : Cat) (k : Nat) : (unitK c k).length=c.frm.length:=by simp [unitK]
theorem unitK_at {c : Cat} {k i : Nat} (h : i<c.frm.length) : (unitK c k).getD i default=if i<k∧ix c.idn (ix c.frm i)=(i : Int) then 1 else 0:=by rw [unitK,getD_map_range _ _ h]
theorem list_eq {A C : List Int} (hl : A.length=C.length) (h : ∀ i,i<A.length→A.getD i default=C.getD i default) : A=C:=by
 refine List.ext_getElem hl fun i h1 h2=>?_
 have:=h i h1
 simpa [List.getD_eq_getElem?_getD,h1,h2] using this
theorem unitK_zero (c : Cat) : unitK c 0=List.replicate c.frm.length 0:=list_eq (by simp [unitK]) fun i hi=>by
 have hi : i<c.frm.length:=by simpa [unitK] using hi
 rw [unitK_at hi,if_neg (by omega)]
 simp [List.getD_eq_getElem?_getD,List.getElem?_replicate,hi]
theorem unitK_t {c : Cat} {k : Nat} (hk : k<c.frm.length) (h : ix c.idn (ix c.frm k)=(k : Int)) : unitK c (k+1)=(unitK c k).set k 1:=list_eq (by simp [unitK]) fun i hi=>by
 have hi : i<c.frm.length:=by simpa [unitK] using hi
 rw [getD_setI (by rw [unitK_len]; exact hk),unitK_at hi,unitK_at hi]
 by_cases e : k=i
 ·subst e; rw [if_pos rfl,if_pos ⟨by omega,h⟩]
 ·rw [if_neg e]
  by_cases e2 : i<k∧ix c.idn (ix c.frm i)=(i : Int)
  ·rw [if_pos e2,if_pos ⟨by omega,e2.2⟩]
  ·rw [if_neg e2,if_neg fun q=>e2 ⟨by omega,q.2⟩]
theorem unitK_f {c : Cat} {k : Nat} (hk : k<c.frm.length) (h : ¬ ix c.idn (ix c.frm k)=(k : Int)) : unitK c (k+1)=unitK c k:=list_eq (by simp [unitK]) fun i hi=>by
 have hi : i<c.frm.length:=by simpa [unitK] using hi
 rw [unitK_at hi,unitK_at hi]
 by_cases e2 : i<k∧ix c.idn (ix c.frm i)=(i : Int)
 ·rw [if_pos e2,if_pos ⟨by omega,e2.2⟩]
 ·rw [if_neg e2,if_neg fun q=>?_]
  by_cases e : i=k
  ·rw [e] at q; exact h q.2
  ·exact e2 ⟨by omega,q.2⟩
theorem indexOf_ltz {l : List (List Int)} {x : List Int} : indexOf l x<0↔x ∉ l:=by
 constructor
 ·intro h hm; have:=(indexOf_in hm).1; omega
 ·intro h; rw [indexOf_miss fun i hi e=>h (mem_getD.mpr ⟨i,hi,e⟩)]; omega
end Go.Shf
namespace Go.Proofs.Shf
open Go.AW Go.Proofs Go.Shf
def ColK (S : Cat) (H0 : Heap) : Kont:=fun v H'=>(∃ C : List Int,C.length=S.frm.length∧v=.tup [iL C,iL C,.bool true])∧H'=H0
theorem l10Colours_ok (B : Nat) (S : Cat) (hS : S.Is) (H0 : Heap) : CallH Tryz.prog B 233 [.agg S.cells,.agg S.cells] H0 (ColK S H0):=by
 refine c233p (by simp) fun _=>?_;unfold s233p
 have o : Owns H0 H0 []:=.nil _
 have hm:=hS.1.m
 have hcl:=hS.1.cl
 have htl:=hS.1.tol
 have hmx : (S.frm.length : Int)≤S.frm.length∧S.frm.length≤maxL∧S.frm.length≤maxL:=⟨Int.le_refl _,by simp only [maxL]; omega,by simp only [maxL]; omega⟩
 have hrep : ([] : List Int).map iI++List.replicate S.frm.length (AV.int IntKind.i64 0)=(unitK S 0).map iI:=by rw [unitK_zero,List.map_nil,List.nil_append,List.map_replicate]
 refine tt ?_;refine cut_at (fun σ H=>∃ i7 i8 : Nat,σ=[(2,some (.ptr S.cells)),(3,some (.ptr S.cells)),(7,some (.buf i7 (unitK S 0).length)),(8,some (.buf i8 (unitK S 0).length))]∧Owns H0 H [(i7,.cells 1 ((unitK S 0).map iI) 0),(i8,.cells 1 ((unitK S 0).map iI) 0)]) ?_ ?_
 ·refine tt ?_;refine ⟨⟨hmx, ?_⟩,hmx, ?_⟩
  ·refine mks_own iI o fun i7 H o=>?_;rw [hrep] at o;refine tt ?_;refine ⟨hmx, ?_⟩;refine mks_own iI o fun i8 H o=>?_;rw [hrep] at o;refine tt ?_;exact wkW_done ⟨i7,i8,by rw [unitK_len],o.swap⟩
  ·refine mks_own iI o fun i8 H o=>?_;rw [hrep] at o;refine tt ?_;refine ⟨hmx, ?_⟩;refine mks_own iI o fun i7 H o=>?_;rw [hrep] at o;refine tt ?_;exact wkW_done ⟨i7,i8,by rw [unitK_len],o⟩
 clear o
 rintro σ H ⟨i7,i8,rfl,o⟩;refine tt ?_
 refine awp_for [2,3,7,8] (G:=Unit) (fun k _=>[(9,some (.int .i64 (k : Int)))])
  (fun k _ H=>Owns H0 H [(i7,.cells 1 ((unitK S k).map iI) 0),(i8,.cells 1 ((unitK S 0).map iI) 0)]) S.frm.length () o rfl ?_
 clear o
 rintro k _ H hk o
 have hu:=unitK_len S k
 have hu0:=unitK_len S 0;refine tw hu0 ?_;apply bk <;> intro h1
 ·have h1p : k<S.frm.length:=of_decide h1
  have w1:=wsucc (k:=k) (by omega);refine tt ?_;refine (l02Unit_ok B S hS.1 k (by omega)).go fun _=>?_
  by_cases e : ix S.idn (ix S.frm k)=(k : Int)
  ·rw [decide_eq_true e];refine tt ?_;refine ⟨by omega, ?_⟩;refine set_own (f:=iI) 1 o rfl (by omega) fun H o=>?_;refine tw w1 ?_;exact for_next () h1p (by rw [unitK_t h1p e]; exact o) rfl
  ·rw [decide_eq_false e];refine tw w1 ?_;exact for_next () h1p (by rw [unitK_f h1p e]; exact o) rfl
 have h1p : k=S.frm.length:=by have:=of_ndecide h1; omega
 subst h1p;refine tt ?_
 refine awp_for [2,3,7,8] (G:=Unit) (fun k _=>[(10,some (.int .i64 (k : Int)))])
  (fun k _ H=>Owns H0 H [(i8,.cells 1 ((unitK S k).map iI) 0),(i7,.cells 1 ((unitK S S.frm.length).map iI) 0)]) S.frm.length () o.swap rfl ?_
 clear o
 rintro k _ H hk o
 have huk:=unitK_len S k;refine tw hu0 ?_;apply bk <;> intro h2
 ·have h1p : k<S.frm.length:=of_decide h2
  have w1:=wsucc (k:=k) (by omega);refine tt ?_;refine (l02Unit_ok B S hS.1 k (by omega)).go fun _=>?_
  by_cases e : ix S.idn (ix S.frm k)=(k : Int)
  ·rw [decide_eq_true e];refine tt ?_;refine ⟨by omega, ?_⟩;refine set_own (f:=iI) 1 o rfl (by omega) fun H o=>?_;refine tw w1 ?_;exact for_next () h1p (by rw [unitK_t h1p e]; exact o) rfl
  ·rw [decide_eq_false e];refine tw w1 ?_;exact for_next () h1p (by rw [unitK_f h1p e]; exact o) rfl
 have h1p : k=S.frm.length:=by have:=of_ndecide h2; omega
 subst h1p;refine tt ?_;refine fz_own (f:=iI) o (by omega) fun H o=>tt ?_;refine fz_own (f:=iI) o (by omega) fun H o=>?_
 generalize unitK S S.frm.length=cs0 at hu;clear h1 h2 huk;refine tt ?_
 refine awp_while [2,3] (G:=List Int × Nat) (fun g=>[(7,some (iL g.1)),(8,some (iL g.1)),(11,some (.int .i64 (g.2 : Int)))])
  (fun m g H=>m=2*S.frm.length+1 - g.2∧g.2≤2*S.frm.length∧Cols S.frm.length g.1 g.2∧Owns H0 H []) (2*S.frm.length+1) (cs0,0) ⟨rfl,Nat.zero_le _,⟨hu,[],List.nodup_nil,rfl,fun x hx=>(List.not_mem_nil hx).elim⟩,o⟩ rfl ?_
 clear o
 rintro m ⟨cs,cnt⟩ H ⟨rfl,hcn,hcols,o⟩;dsimp only at hcn hcols
 have hcl2:=hcols.1
 have hll:=looks_len S cs;refine tt ?_;refine new_list iL o fun i12 H o=>tt ?_;refine new_list iI o fun i13 H o=>tt ?_;refine new_list iI o fun i14 H o=>?_
 have o : Owns H0 H [(i12,.cells 1 (([] : List (List Int)).map iL) 0),(i13,.cells 1 (([] : List Int).map iI) 0),(i14,.cells 1 (([] : List Int).map iI) 0)]:=o.pm;refine tt ?_
 refine awp_for [2,3,7,8,11,13,14] (G:=Nat × List (List Int)) (fun k g=>[(12,some (.buf g.1 g.2.length)),(15,some (.int .i64 (k : Int)))])
  (fun k g H=>g.2=(List.range k).map (fun f : Nat=>lookF S cs f)∧Owns H0 H [(g.1,.cells 1 (g.2.map iL) 0),(i13,.cells 1 (([] : List Int).map iI) 0),(i14,.cells 1 (([] : List Int).map iI) 0)]) S.frm.length (i12,[]) ⟨rfl,o⟩ rfl ?_
 clear o
 rintro k ⟨i12,out⟩ H hk ⟨hout,o⟩;dsimp only at hout o
 have hol : out.length=k:=by rw [hout]; simp
 refine tw hcl2 ?_;apply bk <;> intro h1
 ·have h1p : k<S.frm.length:=of_decide h1
  have w1:=wsucc (k:=k) (by omega);refine tt ?_;refine (l10Look_ok B S hS cs hcl2 k (by omega)).go fun _=>tt ?_;refine app_own (lookF S cs k) o rfl rfl (by simp only [maxL]; omega) fun i12 H o=>?_;refine tw w1 ?_;exact for_next (i12,out++[lookF S cs k]) h1p ⟨by rw [hout,List.range_succ,List.map_append]; rfl,o⟩ rfl
 have h1p : k=S.frm.length:=by have:=of_ndecide h1; omega
 subst h1p
 replace hout : out=looks S cs:=hout;subst hout;refine tt ?_
 refine awp_for [2,3,7,8,11,13,14] (G:=Nat × List (List Int)) (fun k g=>[(12,some (.buf g.1 g.2.length)),(16,some (.int .i64 (k : Int)))])
  (fun k g H=>g.2=looks S cs++(List.range k).map (fun f : Nat=>lookF S cs f)∧Owns H0 H [(g.1,.cells 1 (g.2.map iL) 0),(i13,.cells 1 (([] : List Int).map iI) 0),(i14,.cells 1 (([] : List Int).map iI) 0)]) S.frm.length (i12,looks S cs) ⟨by simp,o⟩ rfl ?_
 clear o
 rintro k ⟨i12,out⟩ H hk ⟨hout,o⟩;dsimp only at hout o
 have hol : out.length=S.frm.length+k:=by rw [hout,List.length_append,hll]; simp
 refine tw hcl2 ?_;apply bk <;> intro h2
 ·have h1p : k<S.frm.length:=of_decide h2
  have w1:=wsucc (k:=k) (by omega);refine tt ?_;refine (l10Look_ok B S hS cs hcl2 k (by omega)).go fun _=>tt ?_;refine app_own (lookF S cs k) o rfl rfl (by simp only [maxL]; omega) fun i12 H o=>?_;refine tw w1 ?_;exact for_next (i12,out++[lookF S cs k]) h1p ⟨by rw [hout,List.range_succ,List.map_append,List.append_assoc]; rfl,o⟩ rfl
 have h2p : k=S.frm.length:=by have:=of_ndecide h2; omega
 subst h2p
 replace hout : out=looks S cs++looks S cs:=hout;subst hout;refine tt ?_;refine fz_own (f:=iL) o (by omega) fun H o=>tt ?_;refine new_list iL o fun i17 H oN=>?_
 have hat : ∀ i,i<S.frm.length+S.frm.length→(looks S cs++looks S cs).getD i default=lookF S cs (if i<S.frm.length then i else i - S.frm.length : Nat):=fun i hi=>looks2_at hi
 have hkd : kindK (looks S cs++looks S cs) (S.frm.length+S.frm.length)=kinds S cs:=rfl
 have hklen:=kindK_len (looks S cs++looks S cs)
 have hks : ∀ k,kindK (looks S cs++looks S cs) (k+1)=if (looks S cs++looks S cs).getD k default∈kindK (looks S cs++looks S cs) k then kindK (looks S cs++looks S cs) k else kindK (looks S cs++looks S cs) k++[(looks S cs++looks S cs).getD k default]:=fun k=>rfl
 have hLL : (looks S cs++looks S cs).length=S.frm.length+S.frm.length:=hol
 have hk0 : kindK (looks S cs++looks S cs) 0=[]:=rfl
 generalize kindK (looks S cs++looks S cs)=KK at *
 generalize looks S cs++looks S cs=LL at *;clear h1 h2 hol hk
 replace o:=oN;clear oN;refine tt ?_
 refine awp_for [2,3,7,11,12,13,14] (G:=Nat × List (List Int)) (fun k g=>[(17,some (.buf g.1 g.2.length)),(18,some (.int .i64 (k : Int)))])
  (fun k g H=>g.2=KK k∧Owns H0 H [(g.1,.cells 1 (g.2.map iL) 0),(i13,.cells 1 (([] : List Int).map iI) 0),(i14,.cells 1 (([] : List Int).map iI) 0)]) LL.length (i17,[]) ⟨hk0.symm,o⟩ rfl ?_
 clear o
 rintro k ⟨i17,out⟩ H hk ⟨hout,o⟩;dsimp only at hout;subst hout;dsimp only at o
 have hol:=hklen k;refine tt ?_;apply bk <;> intro h1
 ·have h1p : k<LL.length:=of_decide h1
  have w1:=wsucc (k:=k) (by omega);refine tt ?_;refine ⟨h1p, ?_⟩;refine (l05Place_own B (KK k) (LL.getD k default) (by omega) o).mono ?_
  rintro v H ⟨rfl,rfl⟩;refine tt ?_
  by_cases e : LL.getD k default∈KK k
  ·rw [decide_eq_false fun q=>indexOf_ltz.mp q e];refine tw w1 ?_;exact for_next (i17,KK k) h1p ⟨by rw [hks,if_pos e],o⟩ rfl
  ·rw [decide_eq_true (indexOf_ltz.mpr e)];refine tt ?_;refine ⟨h1p, ?_⟩;refine app_own (LL.getD k default) o rfl rfl (by simp only [maxL]; omega) fun i17 H o=>?_;refine tw w1 ?_;exact for_next (i17,KK k++[LL.getD k default]) h1p ⟨by rw [hks,if_neg e],o⟩ rfl
 have h1p : k=LL.length:=by have:=of_ndecide h1; omega
 rw [h1p,hLL,hkd] at o;rw [h1p,hLL,hkd];refine tt ?_;refine fz_own (f:=iL) o rfl fun H o=>?_;clear h1 hol hk h1p;refine tt ?_
 refine awp_for [2,3,7,11,12,17] (G:=(Nat × List Int) × (Nat × List Int)) (fun k g=>[(13,some (.buf g.1.1 g.1.2.length)),(14,some (.buf g.2.1 g.2.2.length)),(19,some (.int .i64 (k : Int)))])
  (fun k g H=>(g.1.2=(List.range (min k S.frm.length)).map (fun f : Nat=>indexOf (kinds S cs) (lookF S cs f))∧g.2.2=(List.range (k - S.frm.length)).map (fun f : Nat=>indexOf (kinds S cs) (lookF S cs f)))∧Owns H0 H [(g.1.1,.cells 1 (g.1.2.map iI) 0),(g.2.1,.cells 1 (g.2.2.map iI) 0)]) LL.length ((i13,[]),(i14,[])) ⟨⟨by simp,by simp⟩,o⟩ rfl ?_
 clear o
 rintro k ⟨⟨i13,a⟩,⟨i14,b⟩⟩ H hk ⟨⟨ha,hb⟩,o⟩;dsimp only at ha hb o
 have hal : a.length=min k S.frm.length:=by rw [ha]; simp
 have hbl : b.length=k - S.frm.length:=by rw [hb]; simp
 refine tt ?_;apply bk <;> intro h1
 ·have h1p : k<LL.length:=of_decide h1
  have w1:=wsucc (k:=k) (by omega)
  have hk2:=hat k (by omega);refine tw hcl2 ?_
  by_cases e : k<S.frm.length
  ·rw [if_pos e] at hk2;rw [decide_eq_true (by omega)];refine tt ?_;refine ⟨h1p, ?_⟩;rw [hk2];refine (l05Place_ok B (kinds S cs) (lookF S cs k)).go fun _=>tt ?_;refine app_own (indexOf (kinds S cs) (lookF S cs k)) o rfl rfl (by simp only [maxL]; omega) fun i13 H o=>?_;refine tw w1 ?_;refine for_next ((i13,a++[indexOf (kinds S cs) (lookF S cs k)]),(i14,b)) h1p ⟨⟨?_, ?_⟩,o⟩ rfl
   ·show a++[_]=_
    rw [ha,show min (k+1) S.frm.length=min k S.frm.length+1 by omega,show min k S.frm.length=k by omega,List.range_succ,List.map_append]; rfl
   ·show b=_
    rw [hb,show k+1 - S.frm.length=k - S.frm.length by omega]
  ·rw [if_neg e] at hk2;rw [decide_eq_false (by omega)];refine tt ?_;refine ⟨h1p, ?_⟩;rw [hk2];refine (l05Place_ok B (kinds S cs) (lookF S cs (k - S.frm.length : Nat))).go fun _=>tt ?_;refine app_own (indexOf (kinds S cs) (lookF S cs (k - S.frm.length : Nat))) o.swap rfl rfl (by simp only [maxL]; omega) fun i14 H o=>?_;refine tw w1 ?_;refine for_next ((i13,a),(i14,b++[indexOf (kinds S cs) (lookF S cs (k - S.frm.length : Nat))])) h1p ⟨⟨?_, ?_⟩,o.swap⟩ rfl
   ·show a=_
    rw [ha,show min (k+1) S.frm.length=min k S.frm.length by omega]
   ·show b++[_]=_
    rw [hb,show k+1 - S.frm.length=k - S.frm.length+1 by omega,List.range_succ,List.map_append]; rfl
 have h1p : k=LL.length:=by have:=of_ndecide h1; omega
 replace ha : a=newC S cs:=by rw [ha,show min k S.frm.length=S.frm.length by omega]; rfl
 replace hb : b=newC S cs:=by rw [hb,show k - S.frm.length=S.frm.length by omega]; rfl
 subst ha hb;refine tt ?_;refine fz_own (f:=iI) o.swap rfl fun H o=>tt ?_;refine fz_own (f:=iI) o rfl fun H oZ=>?_
 have hgr:=hcols.grow
 have hkl:=kinds_len S cs
 have hncl:=hgr.2.1
 generalize newC S cs=C at *
 generalize kinds S cs=K at *;refine tt ?_
 by_cases e : K.length=cnt
 ·rw [decide_eq_true (by omega)];refine tt ?_;refine (l10Alike_ok B C (by omega)).go fun _=>tt ?_;exact ⟨_,oZ.sub,⟨C,hncl,rfl⟩,rfl⟩
 ·rw [decide_eq_false (by omega)];refine tt ?_;exact while_next (2*S.frm.length+1 - K.length) (C,K.length) (by omega) ⟨rfl,hkl,hgr.2,oZ⟩ rfl
theorem pre_own {K : Kont} {H0 H : Heap} {l : List (Nat × MObj)} {id sz n : Nat} {cs : List AV} {p : Prop} {v : AV} (o : Owns H0 H ((id,.cells sz cs 0)::l)) (hn : cs.length=n*sz) (hp : p) (hk : K v H) : slb1 sz n (some (p,v)) (H.get id) K H:=by
 have h0:=o.h0;simp only at h0;rw [h0]; exact ⟨⟨rfl,hn⟩,hp,hk⟩
section
variable (B : Nat) {S : Cat} (hS : S.Is) {Hb : Heap} {r : Ob} {id ido ida out : Nat}
include hS
theorem run_own : ∀ (d x : Nat),x+d=S.objs.toNat→∀ (O A : List Int),O.length=S.objs.toNat→A.length=S.frm.length→(∀ i,i<x→O.getD i default=i) →
  ∀ {H0 : Heap} {z : Nat},Owns Hb H0 ((id,seO S ido ida (fnF S out))::(ida,.cells 1 (A.map iI) 0)::(ido,.cells 1 (O.map iI) 0)::(out,.cells 1 [.buf z 0] 0)::(z,.cells 12 (flat (([] : List FU).map fuE)) 0)::r) →
  CallH Tryz.prog B 305 [.ref id 0,iI x] H0 (FndK S Hb out r):=by
 have hm:=hS.1.m
 have hob:=hS.1.o
 have hil:=hS.1.il
 intro d
 induction d with
 | zero =>
  intro x hx O A hOl hAl hO H0 z o;refine c305p (by simp) fun _=>?_;unfold s305p
  have hO2 : O=idL S.objs.toNat:=list_eq (by rw [hOl,idL_len]) fun i hi=>by rw [hO i (by omega),idL_at (by omega)]
  refine tt ?_;refine rd_cells o (by simp) ?_;refine tt ?_;rw [decide_eq_true (by omega)];refine tt ?_;refine rd_cells o (by simp) ?_;refine tt ?_
  refine awp_for [0,22] (G:=List Int) (fun k g=>[(23,some (.int .i64 (k : Int)))])
   (fun k g H=>(g.length=S.frm.length∧∀ i,i<k→g.getD i default=-1)∧Owns Hb H ((id,seO S ido ida (fnF S out))::(ida,.cells 1 (g.map iI) 0)::(ido,.cells 1 (O.map iI) 0)::(out,.cells 1 [.buf z 0] 0)::(z,.cells 12 (flat (([] : List FU).map fuE)) 0)::r)) S.frm.length A ⟨⟨hAl,fun i hi=>by omega⟩,o⟩ rfl ?_
  clear o
  rintro k A2 H hk ⟨⟨hA2,hneg⟩,o⟩;refine tt ?_;apply bk <;> intro h1
  ·have h1p : k<S.frm.length:=of_decide h1
   have w1:=wsucc (k:=k) (by omega);refine tt ?_;refine rd_cells o (by simp) ?_;refine tt ?_;refine ⟨h1p, ?_⟩;refine set_own (f:=iI) (-1) o.swap rfl (by omega) fun H o=>?_;refine tw w1 ?_;refine for_next (A2.set k (-1)) h1p ⟨⟨by rw [List.length_set]; exact hA2,fun i hi=>?_⟩,o.swap⟩ rfl;rw [getD_setI (by omega)]
   by_cases e : k=i
   ·rw [if_pos e]
   ·rw [if_neg e]; exact hneg i (by omega)
  have h1p : k=S.frm.length:=by have:=of_ndecide h1; omega
  have ia : IdA S A2:=⟨hA2,fun i hi=>.inl (hneg i (by omega))⟩;clear hneg h1;refine tt ?_;refine rd_cells o (by simp) ?_;refine tt ?_
  refine awp_for [0,39,40] (G:=List Int) (fun k g=>[(41,some (.int .i64 (k : Int)))])
   (fun k g H=>IdA S g∧Owns Hb H ((id,seO S ido ida (fnF S out))::(ida,.cells 1 (g.map iI) 0)::(ido,.cells 1 (O.map iI) 0)::(out,.cells 1 [.buf z 0] 0)::(z,.cells 12 (flat (([] : List FU).map fuE)) 0)::r)) S.idn.length A2 ⟨ia,o⟩ rfl ?_
  clear o
  rintro y A3 H hy ⟨ia3,o⟩
  have hl3:=ia3.len;refine tt ?_;apply bk <;> intro h2
  ·have h2p : y<S.idn.length:=of_decide h2
   have w2:=wsucc (k:=y) (by omega)
   have hxi:=hS.1.idn _ (mem_getD.mpr ⟨y,h2p,rfl⟩)
   obtain ⟨i,hi⟩ : ∃ i : Nat,S.idn.getD y default=i:=⟨_,(Int.toNat_of_nonneg hxi.1).symm⟩;refine tt ?_;refine ⟨h2p,rd_cells o (by simp) ?_⟩;refine tt ?_;refine rd_cells o (by simp) ?_;refine tt ?_;refine rd_cells o (by simp) ?_;refine tt ?_;refine ⟨by omega,rd_cells o.tl.tl (by rw [List.length_map]; omega) ?_⟩;rw [map_getD _ (by omega),hO y (by omega)];refine tt ?_;rw [hi];refine ⟨h2p,⟨by omega,by omega⟩, ?_⟩;refine set_own (f:=iI) (i : Int) o.swap rfl (by simp; omega) fun H o=>?_;refine tw w2 ?_;exact for_next (A3.set i (i : Int)) h2p ⟨ia3.set (by omega),o.swap⟩ rfl
  ·refine tt ?_;refine (spread_own B hS ia3.parA o).mono ?_;clear o
   rintro v H ⟨C,bl,rfl,hsp,hd,hid,o⟩
   have hbt:=hid ia3;subst hbt;subst hO2;refine tt ?_;refine (next_own B hS _ C (hsp.idn ia3) rfl o).mono ?_;clear o
   rintro v H ⟨rfl,z,o⟩;refine tt ?_;exact ⟨_,.refl _,rfl,z,o⟩
 | succ d ih =>
  intro x hx O A hOl hAl hO H0 z o;refine c305p (by simp) fun _=>?_;unfold s305p;refine tt ?_;refine rd_cells o (by simp) ?_;refine tt ?_;rw [decide_eq_false (by omega)];refine tt ?_
  refine awp_for [0,1] (G:=Unit) (fun y _=>[(8,some (.int .i64 (y : Int)))])
   (fun y _ H=>y≤x∧Owns Hb H ((id,seO S ido ida (fnF S out))::(ida,.cells 1 (A.map iI) 0)::(ido,.cells 1 (O.map iI) 0)::(out,.cells 1 [.buf z 0] 0)::(z,.cells 12 (flat (([] : List FU).map fuE)) 0)::r)) S.objs.toNat () ⟨Nat.zero_le _,o⟩ rfl ?_
  clear o
  rintro y _ H hy ⟨hyx,o⟩;refine tt ?_;refine rd_cells o (by simp) ?_;refine tt ?_;rw [decide_eq_true (by omega)]
  have w2:=wsucc (k:=y) (by omega);refine tt ?_;refine rd_cells o (by simp) ?_;refine tt ?_;refine rd_cells o (by simp) ?_;refine tt ?_;refine pre_own o.tl.tl (by rw [List.length_map]; omega) (by omega) ?_;refine tt ?_;refine (has_own B O x y (by omega) (by omega) o.tl.tl).mono ?_
  rintro v H' ⟨rfl,rfl⟩
  have hmem : (y : Int)∈O.take x↔y<x:=by
   rw [mem_getD,List.length_take,Nat.min_eq_left (by omega)]
   constructor
   ·rintro ⟨i,hi,e⟩;rw [List.getD_eq_getElem?_getD,List.getElem?_take,if_pos hi,← List.getD_eq_getElem?_getD,hO i hi] at e;omega
   ·intro h;exact ⟨y,h,by rw [List.getD_eq_getElem?_getD,List.getElem?_take,if_pos h,← List.getD_eq_getElem?_getD,hO y h]⟩
  by_cases e3 : y<x
  ·rw [dec_t (hmem.mpr e3)];refine tw w2 ?_;exact for_next () (by omega) ⟨by omega,o⟩ rfl
  have eyx : y=x:=by omega
  subst eyx;rw [dec_f fun q=>e3 (hmem.mp q)];refine tt ?_;refine rd_cells o (by simp) ?_;refine tt ?_;refine ⟨by omega, ?_⟩;refine set_own (f:=iI) (y : Int) (o.pull [_,_]) rfl (by omega) fun H o=>?_
  replace o:=Owns.push [(id,seO S ido ida (fnF S out)),(ida,.cells 1 (A.map iI) 0)] o
  have hOl2 : (O.set y (y : Int)).length=S.objs.toNat:=by rw [List.length_set]; exact hOl
  have hO2 : ∀ i,i≤y→(O.set y (y : Int)).getD i default=i:=fun i hi=>by
   rw [getD_setI (by omega)]
   by_cases e : y=i
   ·rw [if_pos e,e]
   ·rw [if_neg e]; exact hO i (by omega)
  refine tt ?_;refine (placed_own B hS (by omega) hOl2 hO2 (o.perm (List.Perm.cons _ (List.Perm.swap _ _ _)))).mono ?_
  rintro v H' ⟨rfl,rfl⟩;refine tw w2 ?_;refine (ih (y+1) (by omega) _ A hOl2 hAl (fun i hi=>hO2 i (by omega)) o).mono ?_;clear o
  rintro v H ⟨rfl,z,o⟩;refine tt ?_;exact ⟨_,.refl _,rfl,z,o⟩
end
section
variable (B : Nat) {S : Cat} (hS : S.Is)
include hS
theorem searchFor_own {Hb H0 : Heap} {r : Ob} (out : Nat) (o : Owns Hb H0 r) : CallH Tryz.prog B 303 [.ptr S.cells,.ptr S.cells,.bool true,fnF S out] H0 (fun v H'=>∃ id ido ida,v=.ref id 0 ∧
  Owns Hb H' ((id,seO S ido ida (fnF S out))::(ida,.cells 1 ((List.replicate S.frm.length (0 : Int)).map iI) 0)::(ido,.cells 1 ((List.replicate S.objs.toNat (0 : Int)).map iI) 0)::r)):=by
 have hob:=hS.1.o
 have hm:=hS.1.m;refine c303p (by simp) fun _=>?_;unfold s303p
 have h1 : S.objs≤S.objs∧S.objs.toNat≤maxL∧S.objs.toNat≤maxL:=⟨Int.le_refl _,by simp only [maxL]; omega,by simp only [maxL]; omega⟩
 have h2 : (S.frm.length : Int)≤S.frm.length∧S.frm.length≤maxL∧S.frm.length≤maxL:=⟨Int.le_refl _,by simp only [maxL]; omega,by simp only [maxL]; omega⟩;refine tt ?_;refine ⟨_,(arrows_ok B S).run,⟨⟨hob.1,h1⟩, ?_⟩, ?_⟩
 ·refine mks_list iI 0 rfl o fun ido H o=>tt ?_;refine ⟨h2, ?_⟩;refine mks_list iI 0 rfl o fun ida H o=>tt ?_;refine ⟨rfl,⟨rfl,by simp only [maxL]; omega⟩,newRef_own o fun id H o=>?_⟩;refine tt ?_;exact ⟨_,.refl _,id,ido,ida,rfl,o⟩
 ·refine tt ?_;refine ⟨h2, ?_⟩;refine mks_list iI 0 rfl o fun ida H o=>tt ?_;refine ⟨⟨hob.1,h1⟩, ?_⟩;refine mks_list iI 0 rfl o fun ido H o=>tt ?_;refine ⟨rfl,⟨rfl,by simp only [maxL]; omega⟩,newRef_own o.swap fun id H o=>?_⟩;refine tt ?_;exact ⟨_,.refl _,id,ido,ida,rfl,o⟩
theorem allFunctors_ok : Pur Tryz.prog B 280 [.ptr S.cells,.ptr S.cells,.bool true,iI 0] (.tup [mL fuE [idF S],.bool false]):=by
 refine ⟨fun H0=>c280 (by simp) fun _=>?_⟩;unfold s280
 have o : Owns H0 H0 []:=.nil _;refine tt ?_;refine new_listN (n:=12) fuE o fun z H o=>tt ?_;refine newRef_own o fun out H o=>tt ?_;refine sw o fun H o=>tt ?_;refine (searchFor_own B hS out o).mono ?_;clear o
 rintro v H ⟨id,ido,ida,rfl,o⟩;refine tt ?_;refine (run_own B hS S.objs.toNat 0 (by omega) _ _ (by simp) (by simp) (fun i hi=>by omega) o).mono ?_;clear o
 rintro v H ⟨rfl,z,o⟩;refine tt ?_;refine rd_cells o (by simp) ?_;refine tt ?_;refine fz_ownN (n:=12) (f:=fuE) o.swap rfl fun H o=>tt ?_;exact pure_ret rfl o.sub
theorem isomorphisms_ok : Pur Tryz.prog B 232 [.ptr S.cells,.ptr S.cells,iI 0] (.tup [mL fuE [idF S],.bool false]):=by
 refine ⟨fun H0=>c232p (by simp) fun _=>?_⟩;unfold s232p
 have a1:=arrows_ok B S;refine td ?_;refine ⟨_,a1.run, ?_⟩;refine td ?_;refine ⟨_,a1.run, ?_⟩;refine td ?_;refine (allFunctors_ok B hS).go fun _=>tt ?_;exact pure_ret rfl (.refl _)
theorem findIso_ok : Pur Tryz.prog B 150 [.agg S.cells,.agg S.cells] (if S.frm.length≤16 then .tup [.agg (idF S).cells,iI 0] else .tup [.agg [.int .i64 0,.nilsl,.nilsl,.nilsl,.nilsl,.int .i64 0,.nilsl,.nilsl,.nilsl,.nilsl,.nilsl,.nilsl],iI 3]):=by
 refine ⟨fun H0=>c150p (by simp) fun _=>?_⟩;unfold s150p
 have o : Owns H0 H0 []:=.nil _
 have q0:=areCategories_ok B [S,S];rw [dec_t (fun c hc=>by simp at hc; rw [hc]; exact hS)] at q0
 have q1:=searchable_ok B S S;refine tt ?_;refine nb o fun id4 H o=>tt ?_;refine q0.go fun _=>tt ?_;refine q1.go fun _=>?_
 by_cases hb : S.frm.length≤16
 rotate_left
 ·rw [if_neg hb,dec_f fun q=>hb q.1];refine tt ?_;refine sw o fun H o=>tt ?_
  have hr:=o.rc 12 0 (by simp);simp only [List.drop_zero] at hr;rw [hr];exact pure_ret rfl o.sub
 rw [if_pos hb,dec_t ⟨hb,hb⟩];refine tt ?_;refine (isomorphisms_ok B hS).go fun _=>?_
 have hne : decide (((1 : Nat) : Int)=0)=false:=rfl
 have hix : ix [idF S] 0=idF S:=rfl;try simp only [go_sem,↓reduceIte,reduceEqDiff,reduceAdd,reduceMul,reduceLeDiff,reduceLT,hne,hix]
 refine ⟨by simp, ?_⟩
 generalize idF S=I;refine sw o fun H o=>tt ?_
 have hr:=o.rc 12 0 (by simp);simp only [List.drop_zero] at hr;rw [hr];exact pure_ret rfl o.sub
end
theorem l10All_ok (B : Nat) (S : Cat) (hS : S.Is) : Pur Tryz.prog B 152 [.agg S.cells,.agg S.cells,iI 1] (mL fuE [idF S]):=by
 refine ⟨fun H0=>c152p (by simp) fun _=>?_⟩;unfold s152p
 have o : Owns H0 H0 []:=.nil _;refine tt ?_;refine new_listN (n:=12) fuE o fun z H o=>tt ?_;refine nb o fun id H o=>?_;refine td ?_;refine (l10Colours_ok B S hS H).mono ?_
 rintro v H' ⟨⟨C,hC,rfl⟩,rfl⟩;refine tt ?_;refine sw o fun H o=>tt ?_;refine sw o fun H o=>tt ?_;refine (l10Objects_own B hS C hC S.objs.toNat 0 (by omega) o).mono ?_;clear o
 rintro v H ⟨z,o⟩;refine tt ?_;refine rd_cells o (by simp) ?_;refine tt ?_;refine fz_ownN (n:=12) (f:=fuE) o.swap rfl fun H o=>tt ?_;exact pure_ret rfl o.sub
theorem l10Find_ok (B : Nat) (S : Cat) (hS : S.Is) : Pur Tryz.prog B 79 [.agg S.cells,.agg S.cells] (.tup [.agg (idF S).cells,.bool true]):=by
 refine ⟨fun H0=>c79 (by simp) fun _=>?_⟩;unfold s79
 have o : Owns H0 H0 []:=.nil _;refine tt ?_;refine nb o fun id4 H o=>tt ?_;refine (l10All_ok B S hS).go fun _=>?_
 have hne : decide (((1 : Nat) : Int)=0)=false:=rfl
 have hix : ix [idF S] 0=idF S:=rfl;try simp only [go_sem,↓reduceIte,reduceEqDiff,reduceAdd,reduceMul,reduceLeDiff,reduceLT,hne,hix]
 refine ⟨by simp, ?_⟩;refine sw o fun H o=>tt ?_
 have hr:=o.rc 12 0 (by simp);simp only [List.drop_zero] at hr;rw [hr];exact pure_ret rfl o.sub
theorem l03Two_ok (B : Nat) (c d : Cat) (hc : c.Is) (hd : d.Is) : Pur Tryz.prog B 77 [.agg c.cells,.agg d.cells] (iI 0):=by
 refine ⟨fun H0=>c77 (by simp) fun _=>?_⟩;unfold s77;refine tt ?_;refine (l02Is_ok B c).go fun _=>?_;rw [dec_t hc];refine tt ?_;refine (l02Is_ok B d).go fun _=>?_;rw [dec_t hd];refine tt ?_;exact pure_ret rfl (.refl _)
def alikeR (S : Cat) : AV:=if S.frm.length≤16 then .tup [.bool true,iI 0] else .tup [.bool false,iI 3]
theorem l11Alike_ok (B : Nat) (c d : Cat) (hc : c.Is) (hd : d.Is) (e : skS d=skS c) : Pur Tryz.prog B 78 [.agg c.cells,.agg d.cells] (alikeR (skS c)):=by
 refine ⟨fun H0=>c78 (by simp) fun _=>?_⟩;unfold s78
 have o : Owns H0 H0 []:=.nil _
 have h1:=l11Part_ok B c hc
 have h2:=l11Part_ok B d hd
 have hS:=skS_is hc;rw [e] at h2
 generalize skS c=S at *;refine tt ?_;refine ⟨_,h1.run,_,h2.run, ?_, ?_⟩
 ·refine newRef_own o fun id6 H o=>tt ?_;refine newRef_own o fun id7 H o=>tt ?_;refine sw o.swap fun H o=>tt ?_;refine sw o.swap fun H o=>tt ?_
  have oA:=o
  have oB:=o.swap;refine rd_cells oB (by simp) ?_;refine tt ?_
  by_cases hb : S.frm.length≤16
  rotate_left
  ·rw [decide_eq_true (by omega)];refine tt ?_;exact pure_ret (by rw [alikeR,if_neg hb]) oB.sub
  rw [decide_eq_false (by omega)];refine tt ?_;refine rd_cells oA (by simp) ?_;refine tt ?_;rw [decide_eq_false (by omega)];refine tt ?_;refine rd_celln oB (by simp) ?_;refine tt ?_;refine rd_celln oA (by simp) ?_;refine tt ?_;refine (l10Find_ok B S hS).go fun _=>tt ?_;refine ⟨by simp [maxL],newRef_own oA fun id8 H o=>?_⟩;refine tt ?_;refine sw o fun H o=>tt ?_;exact pure_ret (by rw [alikeR,if_pos hb]) o.sub
 ·refine newRef_own o fun id7 H o=>tt ?_;refine newRef_own o fun id6 H o=>tt ?_;refine sw o fun H o=>tt ?_;refine sw o.swap fun H o=>tt ?_
  have oA:=o
  have oB:=o.swap;refine rd_cells oB (by simp) ?_;refine tt ?_
  by_cases hb : S.frm.length≤16
  rotate_left
  ·rw [decide_eq_true (by omega)];refine tt ?_;exact pure_ret (by rw [alikeR,if_neg hb]) oB.sub
  rw [decide_eq_false (by omega)];refine tt ?_;refine rd_cells oA (by simp) ?_;refine tt ?_;rw [decide_eq_false (by omega)];refine tt ?_;refine rd_celln oB (by simp) ?_;refine tt ?_;refine rd_celln oA (by simp) ?_;refine tt ?_;refine (l10Find_ok B S hS).go fun _=>tt ?_;refine ⟨by simp [maxL],newRef_own oA fun id8 H o=>?_⟩;refine tt ?_;refine sw o fun H o=>tt ?_;exact pure_ret (by rw [alikeR,if_pos hb]) o.sub
theorem l06Then_ok (B : Nat) (f g : FU) (h1 : ∀ y,y∈f.ob→0≤y∧y.toNat<g.ob.length) (h2 : ∀ y,y∈f.ar→0≤y∧y.toNat<g.ar.length) :
  Pur Tryz.prog B 80 [.agg f.cells,.agg g.cells] (.agg (FU.cells ⟨f.src,g.tgt,thenL f.ob g.ob,thenL f.ar g.ar⟩)):=by
 refine ⟨fun H0=>c80 (by simp) fun _=>?_⟩;unfold s80
 have o : Owns H0 H0 []:=.nil _;refine tt ?_;refine nb o fun id4 H o=>tt ?_;refine ⟨_,(l01Then_ok B f.ob g.ob h1).run,_,(l01Then_ok B f.ar g.ar h2).run,_,(l06Make_ok B f.src g.tgt (thenL f.ob g.ob) (thenL f.ar g.ar)).run,tt ?_⟩;refine sw o fun H o=>tt ?_
 have hr:=o.rc 12 0 (by simp);simp only [List.drop_zero] at hr;rw [hr];exact pure_ret rfl o.sub
abbrev zF : List AV:=[.int .i64 0,.nilsl,.nilsl,.nilsl,.nilsl,.int .i64 0,.nilsl,.nilsl,.nilsl,.nilsl,.nilsl,.nilsl]
theorem SkeletonFunctor_ok (B : Nat) (c : Cat) (hc : c.Is) : Pur Tryz.prog B 11 [.agg c.cells] (.tup [.agg (skF c).cells,iI 0]):=by
 refine ⟨fun H0=>c11p (by simp) fun _=>?_⟩;unfold s11p
 have o : Owns H0 H0 []:=.nil _
 have hs:=hc.1
 have hm:=hs.m
 have htl:=hs.tol
 have hcl:=hs.cl
 have hob:=hs.o;refine tt ?_;refine nb o fun id2 H o=>tt ?_;refine (l02Is_ok B c).go fun _=>?_;rw [dec_t hc];refine tt ?_;refine (l11Skeleton_ok B c hc).go fun _=>tt ?_;refine (l02Full_ok B c hc.1 _).go fun _=>tt ?_;refine (l11Chosen_ok B c hc).go fun _=>?_
 have hC : ∀ x : Int,0≤x∧x<c.objs→ix ((List.range c.objs.toNat).map fun x : Nat=>choO c x) x=choO c x:=fun x hx=>by
  rw [ix,getD_map_range _ _ (by omega),Int.toNat_of_nonneg hx.1]
 have hCl : ((List.range c.objs.toNat).map fun x : Nat=>choO c x).length=c.objs.toNat:=by simp
 generalize (List.range c.objs.toNat).map (fun x : Nat=>choO c x)=C at hC hCl ⊢
 have hsk : skA c=(List.range c.frm.length).map fun f : Nat=>indexOf (fullA c (leadL c)) (skArr c f):=rfl
 have hcls : clsK c=(List.range c.objs.toNat).map fun x : Nat=>indexOf (leadL c) (repO c x):=rfl
 have hmk:=l06Make_ok B c (skS c) (clsK c) (skA c)
 have hpt:=l11Part_ok B c hc;rw [show (⟨c,skS c,clsK c,skA c⟩ : FU)=skF c from rfl] at hmk
 generalize fullA c (leadL c)=A at hsk ⊢
 generalize skS c=S at hmk hpt
 generalize leadL c=Ld at hcls ⊢
 generalize skF c=F at hmk ⊢;refine tt ?_;refine new_list iI o fun i7 H o=>tt ?_;refine new_list iI o fun i8 H o=>tt ?_
 refine awp_for [1,2,4,5,6,8] (G:=Nat × List Int) (fun k g=>[(7,some (.buf g.1 g.2.length)),(9,some (.int .i64 (k : Int)))])
  (fun k g H=>g.2=(List.range k).map (fun x : Nat=>indexOf Ld (repO c x))∧Owns H0 H [(g.1,.cells 1 (g.2.map iI) 0),(i8,.cells 1 (([] : List Int).map iI) 0),(id2,.cells 12 zF 0)]) c.objs.toNat (i7,[]) ⟨rfl,o.swap⟩ rfl ?_
 clear o
 rintro k ⟨i7,out⟩ H hk ⟨hout,o⟩;dsimp only at hout o
 have houl : out.length=k:=by rw [hout]; simp
 refine tt ?_;apply bk <;> intro h1
 ·have h1p:=of_decide h1
  have w1:=wsucc (k:=k) (by omega)
  have hx : 0≤(k : Int)∧(k : Int)<c.objs:=⟨by omega,h1p⟩
  have e1:=hC _ hx;rw [ix_nat] at e1
  have ci:=(cho_inv hc hx).a
  have et:=ci.t
  have er:=ci.r;refine tw e1 ?_;refine ⟨by omega,⟨er.1,by omega⟩, ?_⟩;rw [et];refine ⟨_,(l01Index_ok B Ld (repO c k)).run,tt ?_⟩;refine app_own (indexOf Ld (repO c k)) o rfl rfl (by simp only [maxL]; omega) fun i7 H o=>?_;refine tw w1 ?_;exact for_next (i7,out++[indexOf Ld (repO c k)]) (by omega) ⟨by rw [hout,List.range_succ,List.map_append]; rfl,o⟩ rfl
 have h1p : k=c.objs.toNat:=by have:=of_ndecide h1; omega
 subst h1p;rw [← hcls] at hout;subst hout;refine tt ?_
 refine awp_for [1,2,5,6,7] (G:=Nat × List Int) (fun k g=>[(8,some (.buf g.1 g.2.length)),(10,some (.int .i64 (k : Int)))])
  (fun k g H=>g.2=(List.range k).map (fun f : Nat=>indexOf A (skArr c f))∧Owns H0 H [(g.1,.cells 1 (g.2.map iI) 0),(i7,.cells 1 ((clsK c).map iI) 0),(id2,.cells 12 zF 0)]) c.frm.length (i8,[]) ⟨rfl,o.swap⟩ rfl ?_
 clear o
 rintro k ⟨i8,out⟩ H hk ⟨hout,o⟩;dsimp only at hout o
 have houl2 : out.length=k:=by rw [hout]; simp
 refine tt ?_;apply bk <;> intro h2
 ·have h1p : k<c.frm.length:=of_decide h2
  have w1:=wsucc (k:=k) (by omega)
  have a : c.Ar (k : Int) (ix c.frm k) (ix c.to k):=⟨⟨by omega,by simpa using h1p⟩,rfl,rfl⟩
  have hx:=a.src hc
  have hy:=a.tgt hc
  have c1:=cho_inv hc hx
  have c2:=cho_inv hc hy
  have v1:=c1.b.comp hc a
  have ea : skArr c k=c.th (c.th (invF c (choO c (ix c.frm k))) k) (choO c (ix c.to k)):=rfl
  have e1:=hC _ hx
  have e2:=hC _ hy;simp only [ix_nat] at hx hy e1 e2 c1 c2 v1 ea
  have r1:=hs.row' c1.b.r.2
  have r2:=hs.row' v1.r.2;refine tt ?_;rw [e1,e2];refine ⟨h1p,⟨hx.1,by omega⟩,_,(l02Inverse_ok B c hc (choO c (c.frm.getD k default)) c1.a.r).run,tt ?_⟩
  refine ⟨_,(l02Then_ok B c (invF c (choO c (c.frm.getD k default))) k ⟨c1.b.r.1,by rw [hcl]; exact c1.b.r.2⟩ ⟨by omega,by rw [r1]; simpa using h1p⟩).run,by omega,⟨hy.1,by omega⟩,_,
   (l02Then_ok B c (c.th (invF c (choO c (c.frm.getD k default))) k) (choO c (c.to.getD k default)) ⟨v1.r.1,by rw [hcl]; exact v1.r.2⟩ ⟨c2.a.r.1,by rw [r2]; exact c2.a.r.2⟩).run, ?_⟩
  rw [show ix (ix c.comp (c.th (invF c (choO c (c.frm.getD k default))) k)) (choO c (c.to.getD k default))=skArr c k from ea.symm];refine ⟨_,(l01Index_ok B A (skArr c k)).run,tt ?_⟩;refine app_own (indexOf A (skArr c k)) o rfl rfl (by simp only [maxL]; omega) fun i8 H o=>?_;refine tw w1 ?_;exact for_next (i8,out++[indexOf A (skArr c k)]) h1p ⟨by rw [hout,List.range_succ,List.map_append]; rfl,o⟩ rfl
 have h1p : k=c.frm.length:=by have:=of_ndecide h2; omega
 subst h1p;rw [← hsk] at hout;subst hout;refine tt ?_;refine fz_own (f:=iI) o rfl fun H o=>tt ?_;refine fz_own (f:=iI) o rfl fun H o=>tt ?_;refine ⟨_,hpt.run,_,hmk.run,tt ?_⟩;refine sw o fun H o=>tt ?_
 have hr:=o.rc 12 0 (by simp);simp only [List.drop_zero] at hr;rw [hr];exact pure_ret rfl o.sub
theorem SkeletonFunctor_bad (B : Nat) (c : Cat) (hc : ¬ c.Is) : Pur Tryz.prog B 11 [.agg c.cells] (.tup [.agg zF,iI 1]):=by
 refine ⟨fun H0=>c11p (by simp) fun _=>?_⟩;unfold s11p
 have o : Owns H0 H0 []:=.nil _;refine tt ?_;refine nb o fun id2 H o=>tt ?_;refine (l02Is_ok B c).go fun _=>?_;rw [dec_f hc];refine tt ?_;refine sw o fun H o=>tt ?_
 have hr:=o.rc 12 0 (by simp);simp only [List.drop_zero] at hr;rw [hr];exact pure_ret rfl o.sub
theorem implSkeletonFunctor_bad (B : Nat) (c : Cat) (hc : ¬ c.Is) : Pur Tryz.prog B 10 [.agg c.cells] (.tup [.agg zF,iI 1]):=by
 refine ⟨fun H0=>c10p (by simp) fun _=>?_⟩;unfold s10p
 have o : Owns H0 H0 []:=.nil _;refine tt ?_;refine nb o fun id2 H o=>tt ?_;refine (isCategory_ok B c).go fun _=>?_;rw [dec_f hc];refine tt ?_;refine sw o fun H o=>tt ?_
 have hr:=o.rc 12 0 (by simp);simp only [List.drop_zero] at hr;rw [hr];exact pure_ret rfl o.sub
noncomputable def eqvR (c : Cat) : AV:=if (skS c).frm.length≤16 then .tup [.agg (skE c).cells,iI 0] else .tup [.agg zF,iI 3]
theorem then_idF (f : FU) (h1 : (f.ob.length : Int)=f.src.objs) (h2 : f.ar.length=f.src.frm.length) : (⟨(idF f.src).src,f.tgt,thenL (idF f.src).ob f.ob,thenL (idF f.src).ar f.ar⟩ : FU)=f:=by
 have e1 : thenL (idL f.src.objs.toNat) f.ob=f.ob:=thenL_id (by omega)
 have e2 : thenL (idL f.src.frm.length) f.ar=f.ar:=thenL_id h2
 cases f;simp only [idF] at *;rw [e1,e2]
theorem idL_ran {n : Nat} {y : Int} (h : y∈idL n) : 0≤y∧y.toNat<n:=by
 obtain ⟨k,hk,rfl⟩:=List.mem_map.mp h
 have:=List.mem_range.mp hk
 show 0≤(k : Int)∧(k : Int).toNat<n
 omega
theorem EquivalenceBetween_ok (B : Nat) (c : Cat) (hc : c.Is) : Pur Tryz.prog B 20 [.agg (skS c).cells,.agg c.cells] (eqvR c):=by
 refine ⟨fun H0=>c20p (by simp) fun _=>?_⟩;unfold s20p
 have o : Owns H0 H0 []:=.nil _
 have hS:=skS_is hc
 have q1:=l03Two_ok B (skS c) c hS hc
 have q2:=l11Alike_ok B (skS c) c hS hc (skS_S hc).symm
 have q3:=l11Part_ok B (skS c) hS
 have q4:=l11Part_ok B c hc
 have q5:=l10Find_ok B (skS c) hS
 have q6:=SkeletonFunctor_ok B (skS c) hS
 have q7:=l11Skeleton_ok B c hc
 have q8:=l02Full_ok B c hc.1 (leadL c)
 have q9:=l06Make_ok B (skS c) c (leadL c) (fullA c (leadL c));rw [show (⟨skS c,c,leadL c,fullA c (leadL c)⟩ : FU)=skE c from rfl] at q9
 have he:=skE_is hc
 have x1:=then_idF (idF (skS c)) (by have:=hS.1.o; simp only [idF]; rw [idL_len]; omega) (by simp only [idF]; rw [idL_len])
 have x2:=then_idF (skE c) he.fit.ol he.fit.al
 have hob:=hS.1.o
 have hol : ((skE c).ob.length : Int)=(skS c).objs:=he.fit.ol
 have hal : (skE c).ar.length=(skS c).frm.length:=he.fit.al
 have q10:=l06Then_ok B (idF (skS c)) (idF (skS c)) (fun y hy=>by have:=idL_ran hy; simp only [idF]; rw [idL_len]; exact this) (fun y hy=>by have:=idL_ran hy; simp only [idF]; rw [idL_len]; exact this)
 have q11:=l06Then_ok B (idF (skS c)) (skE c) (fun y hy=>by have:=idL_ran hy; omega) (fun y hy=>by have:=idL_ran hy; omega);rw [show (⟨(idF (skS c)).src,(idF (skS c)).tgt,thenL (idF (skS c)).ob (idF (skS c)).ob,thenL (idF (skS c)).ar (idF (skS c)).ar⟩ : FU)=idF (skS c) from x1] at q10;rw [show (⟨(idF (skS c)).src,(skE c).tgt,thenL (idF (skS c)).ob (skE c).ob,thenL (idF (skS c)).ar (skE c).ar⟩ : FU)=skE c from x2] at q11;rw [skS_S hc] at q2 q3;rw [skF_S hc] at q6
 have hR : eqvR c=if (skS c).frm.length≤16 then .tup [.agg (skE c).cells,iI 0] else .tup [.agg zF,iI 3]:=rfl
 rw [hR];clear hR x1 x2 he hol hal
 generalize fullA c (leadL c)=A at *
 generalize leadL c=L at *
 generalize skE c=E at *
 generalize idF (skS c)=I at *
 generalize skS c=S at *;refine td ?_;refine nb o fun id4 H o=>?_;refine td ?_;refine q1.go fun _=>?_;refine td ?_;refine q2.go fun _=>?_;rw [alikeR]
 by_cases hb : S.frm.length≤16
 rotate_left
 ·rw [if_neg hb,if_neg hb]
  have h30 : decide ((3 : Int)=0)=false:=rfl;try simp only [go_sem,↓reduceIte,reduceEqDiff,reduceAdd,reduceMul,reduceLeDiff,reduceLT,dT5,h30]
  refine sw o fun H o=>?_;refine td ?_
  have hr:=o.rc 12 0 (by simp);simp only [List.drop_zero] at hr;rw [hr];exact pure_ret rfl o.sub
 rw [if_pos hb,if_pos hb];refine td ?_;refine ⟨_,q3.run,_,q4.run,_,q5.run, ?_⟩;refine td ?_;refine nb o fun id9 H o=>?_;refine td ?_;refine sw o fun H o=>?_;refine td ?_;refine q6.go fun _=>?_;refine td ?_;refine nb o fun id11 H o=>?_;refine td ?_;refine sw o fun H o=>?_;refine td ?_;refine q7.go fun _=>?_;refine td ?_;refine ⟨_,q4.run,_,q8.run,_,q9.run, ?_⟩;refine td ?_;refine nb o fun id14 H o=>?_;refine td ?_;refine sw o fun H o=>?_;refine td ?_;refine rd_celln o.tl (by simp) ?_;refine td ?_;refine rd_celln o.tl.tl (by simp) ?_;refine td ?_;refine ⟨_,q10.run, ?_⟩;refine td ?_;refine rd_celln o (by simp) ?_;refine td ?_;refine ⟨_,q11.run, ?_⟩;refine td ?_
 have o4:=o.tl.tl.tl;refine sw o4 fun H o=>?_;refine td ?_
 have hr:=o.rc 12 0 (by simp);simp only [List.drop_zero] at hr;rw [hr];exact pure_ret rfl o.sub
def findR (S : Cat) : AV:=if S.frm.length≤16 then .tup [.agg (idF S).cells,iI 0] else .tup [.agg zF,iI 3]
theorem skeletonIso_ok (B : Nat) (c d : Cat) (hc : c.Is) (hd : d.Is) (e : skS d=skS c) : Pur Tryz.prog B 74 [.ptr c.cells,.ptr d.cells] (findR (skS c)):=by
 refine ⟨fun H0=>c74p (by simp) fun _=>?_⟩;unfold s74p
 have o : Owns H0 H0 []:=.nil _
 have q1:=skeleton_ok B c hc
 have q2:=skeleton_ok B d hd
 have hS:=skS_is hc
 have q3:=findIso_ok B hS;rw [e] at q2
 generalize skS c=S at *;refine tt ?_;refine nb o fun id4 H o=>tt ?_;refine q1.go fun _=>tt ?_;refine q2.go fun _=>tt ?_;refine q3.go fun _=>?_;rw [findR]
 generalize idF S=I
 by_cases hb : S.frm.length≤16
 ·rw [if_pos hb];refine tt ?_;refine sw o fun H o=>tt ?_
  have hr:=o.rc 12 0 (by simp);simp only [List.drop_zero] at hr;rw [hr];exact pure_ret rfl o.sub
 ·rw [if_neg hb];refine tt ?_;refine sw o fun H o=>tt ?_
  have hr:=o.rc 12 0 (by simp);simp only [List.drop_zero] at hr;rw [hr];exact pure_ret rfl o.sub
theorem equivalent_ok (B : Nat) (c d : Cat) (hc : c.Is) (hd : d.Is) (e : skS d=skS c) : Pur Tryz.prog B 73 [.ptr c.cells,.ptr d.cells] (alikeR (skS c)):=by
 refine ⟨fun H0=>c73p (by simp) fun _=>?_⟩;unfold s73p
 have o : Owns H0 H0 []:=.nil _
 have q1:=skeletonIso_ok B c d hc hd e
 have d1 : decide ((3 : Int)=4)=false:=rfl
 have d2 : decide ((0 : Int)=4)=false:=rfl
 have d3 : decide ((3 : Int)=0)=false:=rfl
 generalize skS c=S at *;refine tt ?_;refine q1.go fun _=>?_;rw [findR,alikeR]
 generalize idF S=I
 by_cases hb : S.frm.length≤16
 ·rw [if_pos hb,if_pos hb];refine tt ?_;refine nb o fun id6 H o=>tt ?_;refine sw o fun H o=>?_;try simp only [go_sem,↓reduceIte,reduceEqDiff,reduceAdd,reduceMul,reduceLeDiff,reduceLT,d2,dT5]
  exact pure_ret rfl o.sub
 ·rw [if_neg hb,if_neg hb];refine tt ?_;refine nb o fun id6 H o=>tt ?_;refine sw o fun H o=>?_;try simp only [go_sem,↓reduceIte,reduceEqDiff,reduceAdd,reduceMul,reduceLeDiff,reduceLT,d1,d3]
  exact pure_ret rfl o.sub
theorem areEquivalent_ok (B : Nat) (c d : Cat) (hc : c.Is) (hd : d.Is) (e : skS d=skS c) : Pur Tryz.prog B 18 [.agg c.cells,.agg d.cells] (alikeR (skS c)):=by
 refine ⟨fun H0=>c18p (by simp) fun _=>?_⟩;unfold s18p
 have q0:=areCategories_ok B [c,d];rw [dec_t (fun x hx=>by simp at hx; rcases hx with rfl | rfl <;> assumption)] at q0
 have q1:=equivalent_ok B c d hc hd e
 generalize skS c=S at *;refine tt ?_;refine q0.go fun _=>tt ?_;refine q1.go fun _=>?_;rw [alikeR]
 by_cases hb : S.frm.length≤16
 ·rw [if_pos hb];refine tt ?_;exact pure_ret rfl (.refl _)
 ·rw [if_neg hb];refine tt ?_;exact pure_ret rfl (.refl _)
theorem implEquivalenceBetween_ok (B : Nat) (c : Cat) (hc : c.Is) : Pur Tryz.prog B 19 [.agg (skS c).cells,.agg c.cells] (eqvR c):=by
 refine ⟨fun H0=>c19p (by simp) fun _=>?_⟩;unfold s19p
 have o : Owns H0 H0 []:=.nil _
 have hS:=skS_is hc
 have q0:=areCategories_ok B [skS c,c];rw [dec_t (fun x hx=>by simp at hx; rcases hx with rfl | rfl <;> assumption)] at q0
 have q1:=skeletonIso_ok B (skS c) c hS hc (skS_S hc).symm
 have q2:=toSkeleton_ok B (skS c) hS
 have q3:=fromSkeleton_ok B c hc;rw [skS_S hc] at q1;rw [skF_S hc] at q2
 have he:=skE_is hc
 have x1:=then_idF (idF (skS c)) (by have:=hS.1.o; simp only [idF]; rw [idL_len]; omega) (by simp only [idF]; rw [idL_len])
 have x2:=then_idF (skE c) he.fit.ol he.fit.al
 have hob:=hS.1.o
 have hol : ((skE c).ob.length : Int)=(skS c).objs:=he.fit.ol
 have hal : (skE c).ar.length=(skS c).frm.length:=he.fit.al
 have q10:=thenFu_ok B (idF (skS c)) (idF (skS c)) (fun y hy=>by have:=idL_ran hy; simp only [idF]; rw [idL_len]; exact this) (fun y hy=>by have:=idL_ran hy; simp only [idF]; rw [idL_len]; exact this)
 have q11:=thenFu_ok B (idF (skS c)) (skE c) (fun y hy=>by have:=idL_ran hy; omega) (fun y hy=>by have:=idL_ran hy; omega);rw [show (⟨(idF (skS c)).src,(idF (skS c)).tgt,thenL (idF (skS c)).ob (idF (skS c)).ob,thenL (idF (skS c)).ar (idF (skS c)).ar⟩ : FU)=idF (skS c) from x1] at q10;rw [show (⟨(idF (skS c)).src,(skE c).tgt,thenL (idF (skS c)).ob (skE c).ob,thenL (idF (skS c)).ar (skE c).ar⟩ : FU)=skE c from x2] at q11
 have hR : eqvR c=if (skS c).frm.length≤16 then .tup [.agg (skE c).cells,iI 0] else .tup [.agg zF,iI 3]:=rfl
 rw [hR];clear hR x1 x2 he hol hal;rw [findR] at q1
 generalize skE c=E at *
 generalize idF (skS c)=I at *
 generalize skS c=S at *
 have d3 : decide ((3 : Int)=0)=false:=rfl;refine tt ?_;refine nb o fun id4 H o=>tt ?_;refine q0.go fun _=>tt ?_;refine q1.go fun _=>?_
 by_cases hb : S.frm.length≤16
 rotate_left
 ·rw [if_neg hb,if_neg hb];refine tt ?_;refine nb o fun id6 H o=>tt ?_;refine sw o fun H o=>?_;refine tw d3 ?_;refine sw o.swap fun H o=>tt ?_
  have hr:=o.rc 12 0 (by simp);simp only [List.drop_zero] at hr;rw [hr];exact pure_ret rfl o.sub
 rw [if_pos hb,if_pos hb];refine tt ?_;refine nb o fun id6 H o=>tt ?_;refine sw o fun H o=>?_;refine td ?_;refine q2.go fun _=>tt ?_;refine q3.go fun _=>tt ?_;refine nb o fun id8 H o=>tt ?_;refine nb o fun id9 H o=>tt ?_;refine sw o.swap fun H o=>tt ?_;refine sw o.swap fun H o=>tt ?_;refine wk_ref 9 o rfl fun H o=>wk_ref 8 o rfl fun H o=>wk_ref 6 o rfl fun H o=>wkW_done ?_;refine tt ?_;refine q10.go fun _=>tt ?_;refine nb o fun id10 H o=>tt ?_;refine sw o fun H o=>tt ?_;refine wk_ref 10 o rfl fun H o=>wkW_done ?_;refine tt ?_;refine q11.go fun _=>tt ?_;refine sw o fun H o=>tt ?_
 have hr:=o.rc 12 0 (by simp);simp only [List.drop_zero] at hr;rw [hr];exact pure_ret rfl o.sub
end Go.Proofs.Shf
namespace Go.AW
def WkX (a b : AV) : Prop:=∀ g v,VRel g a v→VRel g b v
theorem WkX.refl (a : AV) : WkX a a:=fun _ _ h=>h
theorem WkX.nil : WkX .nilsl (.sl []):=fun g v h=>by cases h; exact .slnil none 0
inductive WkM : List AV→List AV→Prop
 | nil : WkM [] []
 | cons {a b : AV} {r s : List AV} (h : WkX a b) (t : WkM r s) : WkM (a::r) (b::s)
theorem WkM.get {r s : List AV} (h : WkM r s) : r.length=s.length∧∀ i,i<r.length→WkX (r.getD i nv) (s.getD i nv):=by
 induction h with
 | nil=>exact ⟨rfl,fun i hi=>by simp at hi⟩
 | cons h _ ih =>
  refine ⟨by simp [ih.1],fun i hi=>?_⟩
  cases i with
  | zero=>exact h
  | succ i=>exact ih.2 i (by simpa using hi)
theorem WkX.agg {r s : List AV} (h : WkM r s) : WkX (.agg r) (.agg s):=fun g v hv=>by
 obtain ⟨hl,h⟩:=h.get
 cases hv with
 | agg _ vs hs hv=>exact .agg s vs (by omega) fun i hi=>h i (by omega) g _ (hv i (by omega))
theorem WkX.tup {r s : List AV} (h : WkM r s) : WkX (.tup r) (.tup s):=fun g v hv=>by
 obtain ⟨hl,h⟩:=h.get
 cases hv with
 | tup _ vs hs hv=>exact .tup s vs (by omega) fun i hi=>h i (by omega) g _ (hv i (by omega))
theorem Pur.weakX {P : Program} {B : Nat} {f : FuncId} {args : List AV} {r s : AV} (h : Pur P B f args r) (hw : WkX r s) : Pur P B f args s:=by
 refine ⟨fun H=>⟨(h.run H).1,fun g w vs hW hv=>?_⟩⟩;refine ((h.run H).2 g w vs hW hv).mono fun e w' ⟨v,he,g',r2,H',q1,⟨q2,q3⟩,q4,q5,q6⟩=>?_;subst q2 q3;exact ⟨v,he,g',s,H',q1,⟨rfl,rfl⟩,hw _ _ q4,q5,q6⟩
end Go.AW
namespace Go.Proofs.Shf
open Go.AW Go.Proofs Go.Shf
def zFU : FU:=⟨⟨0,[],[],[],[]⟩,⟨0,[],[],[],[]⟩,[],[]⟩
theorem wkF : WkX (.tup [.agg zF,iI 1]) (.tup [.agg zFU.cells,iI 1]) :=
 .tup (.cons (.agg (.cons (.refl _) (.cons .nil (.cons .nil (.cons .nil (.cons .nil (.cons (.refl _) (.cons .nil (.cons .nil (.cons .nil (.cons .nil (.cons .nil (.cons .nil .nil))))))))))))) (.cons (.refl _) .nil))
theorem drawSk_ok (B : Nat) (code : List UInt8) : Rets B 9 [mL Go.AW.iB code] AnyQ:=by
 intro H0;refine c9 (by simp) fun _=>?_;unfold s9
 have o : Owns H0 H0 []:=.nil _;refine tt ?_;refine newRef_own o fun id2 H o=>tt ?_;refine (l01From_ok B code _).mono' fun r H _ ⟨id,s,e,hs,o2⟩=>?_;subst e
 have o:=o.trans o2;refine tt ?_;refine (l02Draw_ok B 8 24).go hs o fun r s H _ ⟨c,e⟩ hs o=>?_;subst e;refine tt ?_;refine sw o.swap fun H o=>tt ?_
 have hr:=o.rc 5 0 (by simp);simp only [List.drop_zero] at hr;rw [hr];exact rets_ret ⟨c,rfl⟩ o.sub
theorem fnSkeletonsAlike_ok (B : Nat) (code : List UInt8) : Pur Tryz.prog B 3 [mL Go.AW.iB code] (.bool true):=by
 refine ⟨fun H0=>c3p (by simp) fun _=>?_⟩;unfold s3p
 have o : Owns H0 H0 []:=.nil _;refine tt ?_;refine (big_ok B code).go fun _=>tt ?_;apply bk <;> intro g0
 ·refine tt ?_;exact pure_ret rfl (.refl _)
 refine tt ?_;refine (drawSk_ok B code).go fun r _ ⟨c,e⟩=>?_;subst e;refine tt ?_;refine newRef_own o fun id3 H o=>tt ?_;refine sw o fun H o=>tt ?_;refine wk_ref 3 o rfl fun H o=>wkW_done ?_
 by_cases hc : c.Is
 rotate_left
 ·have q1:=(implSkeletonFunctor_bad B c hc).weakX wkF
  have q2:=(SkeletonFunctor_bad B c hc).weakX wkF
  have d1 : decide ((1 : Int)=0)=false:=rfl
  generalize zFU=Z at *;refine tt ?_;refine q1.go fun _=>tt ?_;refine nb o fun id4 H o=>tt ?_;refine sw o fun H o=>tt ?_;refine q2.go fun _=>tt ?_;refine nb o fun id6 H o=>tt ?_;refine sw o fun H o=>tt ?_;refine wk_ref 6 o rfl fun H o=>wk_ref 4 o rfl fun H o=>wkW_done ?_;refine td ?_;refine (likeFu5_ok B Z).go fun _=>?_;try simp only [go_sem,↓reduceIte,reduceEqDiff,reduceAdd,reduceMul,reduceLeDiff,reduceLT,dT5,d1]
  refine (isCategoryI_ok B c).go fun _=>?_;rw [dec_f hc];refine tt ?_;exact pure_ret rfl o.sub
 have q1:=skeletonFunctor_ok B c hc
 have q2:=SkeletonFunctor_ok B c hc
 have hS:=skS_is hc
 have q3:=skeletonOf_ok B c hc
 have q4:=skeletonOf_ok B (skS c) hS
 have q5:=isEquivalenceI_ok B (skF c) (skF_is hc)
 have q6:=isFunctorI_ok B (skF c)
 have q7:=areEquivalent_ok B c (skS c) hc hS (skS_S hc)
 have q8:=implEquivalenceBetween_ok B c hc
 have q9:=EquivalenceBetween_ok B c hc
 have q10:=isEquivalenceI_ok B (skE c) (skE_is hc)
 have hF : (skF c).tgt=skS c:=rfl;rw [skS_S hc] at q4;rw [dec_t ⟨skF_full hc,skF_faith hc,skF_ess hc⟩] at q5;rw [dec_t (skF_is hc)] at q6;rw [alikeR] at q7;rw [eqvR] at q8 q9;rw [dec_t ⟨skE_full hc,skE_faith,skE_ess hc⟩] at q10
 generalize skE c=E at *
 generalize skF c=F at *
 generalize skS c=S at *;subst hF
 have d3 : decide ((3 : Int)=0)=false:=rfl
 have d4 : decide ((0 : Int)=3)=false:=rfl;refine tt ?_;refine q1.go fun _=>tt ?_;refine nb o fun id4 H o=>tt ?_;refine sw o fun H o=>tt ?_;refine q2.go fun _=>tt ?_;refine nb o fun id6 H o=>tt ?_;refine sw o fun H o=>tt ?_;refine wk_ref 6 o rfl fun H o=>wk_ref 4 o rfl fun H o=>wkW_done ?_;refine td ?_;refine (likeFu5_ok B F).go fun _=>?_;refine td ?_;refine q3.go fun _=>tt ?_;refine newRef_own o fun id8 H o=>tt ?_;refine sw o fun H o=>tt ?_;refine q4.go fun _=>tt ?_;refine newRef_own o fun id10 H o=>tt ?_;refine sw o fun H o=>tt ?_;refine q5.go fun _=>tt ?_;refine wk_ref 10 o rfl fun H o=>wk_ref 8 o rfl fun H o=>wkW_done ?_;refine td ?_;refine q6.go fun _=>?_;refine td ?_;refine (likeCat5_ok B F.tgt).go fun _=>?_;refine td ?_;refine (likeCat5_ok B F.tgt).go fun _=>?_;refine td ?_;refine q7.go fun _=>?_
 by_cases hb : F.tgt.frm.length≤16
 rotate_left
 ·rw [if_neg hb];rw [if_neg hb] at q8 q9;refine tt ?_;refine q8.go fun _=>tt ?_;refine nb o fun id16 H o=>tt ?_;refine sw o fun H o=>tt ?_;refine q9.go fun _=>tt ?_;refine nb o fun id18 H o=>tt ?_;refine sw o fun H o=>tt ?_;refine wk_ref 18 o rfl fun H o=>wk_ref 16 o rfl fun H o=>wkW_done ?_;refine td ?_;exact pure_ret rfl o.sub
 rw [if_pos hb];rw [if_pos hb] at q8 q9;refine tt ?_;refine q8.go fun _=>tt ?_;refine nb o fun id16 H o=>tt ?_;refine sw o fun H o=>tt ?_;refine q9.go fun _=>tt ?_;refine nb o fun id18 H o=>tt ?_;refine sw o fun H o=>tt ?_;refine wk_ref 18 o rfl fun H o=>wk_ref 16 o rfl fun H o=>wkW_done ?_;try simp only [go_sem,↓reduceIte,reduceEqDiff,reduceAdd,reduceMul,reduceLeDiff,reduceLT,dT5,d4]
 refine (likeFu5_ok B E).go fun _=>?_;refine td ?_;refine q10.go fun _=>?_;refine td ?_;exact pure_ret rfl o.sub
end Go.Proofs.Shf
namespace Go.Proofs
open Go.Shelf
end Go.Proofs
namespace Go.Proofs.Shf
open Go.AW Go.Proofs Go.Shf Go.RowKit Go.Sort
end Go.Proofs.Shf
namespace Go.Proofs.Shf
open Go.AW Go.Proofs Go.Shf
end Go.Proofs.Shf
