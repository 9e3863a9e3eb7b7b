/- Contracts, part 6. -/
import Derived.Test.YtnpimpkmgmnhhaaGreatF5
set_option linter.unusedVariables false
set_option linter.unusedSimpArgs false
set_option linter.unusedSectionVars false
set_option maxRecDepth 100000
open Nat (reduceEqDiff reduceAdd reduceMul reduceLeDiff reduceLT)
namespace Go.Shf
open Go.AW
section
variable {c : Cat} {f g x y z : Int}
noncomputable def choO (c : Cat) (x : Int) : Int:=open Classical in if repO c x=x then ix c.idn x else leastI c x (repO c x)
theorem cho_inv (h : c.Is) (hx : 0≤x∧x<c.objs) : c.Inv (choO c x) (invF c (choO c x)) x (repO c x):=by
 have hi:=(repO_spec h hx).1
 by_cases e : repO c x=x
 ·have i:=Cat.Inv.id h hx;rw [choO,if_pos e,invF_eq h i,e];exact i
 ·obtain ⟨g,i⟩:=leastI_inv hi.symm;rw [choO,if_neg e,invF_eq h i];exact i
noncomputable def skArr (c : Cat) (f : Int) : Int:=c.th (c.th (invF c (choO c (ix c.frm f))) f) (choO c (ix c.to f))
theorem skArr_ar (h : c.Is) (a : c.Ar f x y) : c.Ar (skArr c f) (repO c x) (repO c y):=by
 rw [skArr,a.s,a.t];exact ((cho_inv h (a.src h)).b.comp h a).comp h (cho_inv h (a.tgt h)).a
theorem skArr_id (h : c.Is) (hx : 0≤x∧x<c.objs) : skArr c (ix c.idn x)=ix c.idn (repO c x):=by
 have a:=h.idA hx
 have i:=cho_inv h hx;rw [skArr,a.s,a.t,i.b.idr h,i.r]
theorem skArr_comp (h : c.Is) (a : c.Ar f x y) (b : c.Ar g y z) : skArr c (c.th f g)=c.th (skArr c f) (skArr c g):=by
 have ab:=a.comp h b
 have i:=cho_inv h (a.src h)
 have j:=cho_inv h (a.tgt h)
 have k:=cho_inv h (b.tgt h);rw [skArr,skArr,skArr,ab.s,ab.t,a.s,a.t,b.s,b.t]
 have q1 : c.th (c.th (c.th (invF c (choO c x)) f) (choO c y)) (c.th (c.th (invF c (choO c y)) g) (choO c z))=c.th (c.th (invF c (choO c x)) f) (c.th (choO c y) (c.th (c.th (invF c (choO c y)) g) (choO c z))) :=
  (i.b.comp h a).assoc h j.a ((j.b.comp h b).comp h k.a)
 have q2 : c.th (choO c y) (c.th (c.th (invF c (choO c y)) g) (choO c z))=c.th g (choO c z):=by
  rw [← j.a.assoc h (j.b.comp h b) k.a,← j.a.assoc h j.b b,j.l,b.idl h]
 rw [q1,q2,← (i.b.comp h a).assoc h b k.a,i.b.assoc h a b]
theorem skArr_inj (h : c.Is) (a : c.Ar f x y) (b : c.Ar g x y) (e : skArr c f=skArr c g) : f=g:=by
 have i:=cho_inv h (a.src h)
 have j:=cho_inv h (a.tgt h)
 have key : ∀ f,c.Ar f x y→c.th (choO c x) (c.th (skArr c f) (invF c (choO c y)))=f:=fun f a=>by
  rw [skArr,a.s,a.t,(i.b.comp h a).assoc h j.a j.b,j.l,(i.b.comp h a).idr h,← i.a.assoc h i.b a,i.l,a.idl h]
 rw [← key f a,← key g b,e]
theorem skArr_sur (h : c.Is) (hx : 0≤x∧x<c.objs) (hy : 0≤y∧y<c.objs) (b : c.Ar g (repO c x) (repO c y)) : ∃ f,c.Ar f x y∧skArr c f=g:=by
 have i:=cho_inv h hx
 have j:=cho_inv h hy
 have a:=(i.a.comp h b).comp h j.b;refine ⟨_,a, ?_⟩;rw [skArr,a.s,a.t,i.b.assoc h a j.a,(i.a.comp h b).assoc h j.b j.a,j.r,(i.a.comp h b).idr h,← i.b.assoc h i.a b,i.r,b.idl h]
noncomputable def skS (c : Cat) : Cat:=part c (leadL c)
noncomputable def skA (c : Cat) : List Int:=(List.range c.frm.length).map fun f : Nat=>indexOf (fullA c (leadL c)) (skArr c f)
noncomputable def skF (c : Cat) : FU:=⟨c,skS c,clsK c,skA c⟩
noncomputable def skE (c : Cat) : FU:=⟨skS c,c,leadL c,fullA c (leadL c)⟩
theorem lead_sel : Sel c (leadL c):=⟨leadL_nodup,fun x hx=>(mem_leadL.mp hx).1⟩
theorem skS_is (h : c.Is) : (skS c).Is:=part_is lead_sel h
theorem clsK_ix (h : c.Is) (hx : 0≤x∧x<c.objs) : ix (clsK c) x=indexOf (leadL c) (repO c x):=by
 rw [ix,clsK_at (by omega),Int.toNat_of_nonneg hx.1]
theorem skA_ix (hf : 0≤f∧f.toNat<c.frm.length) : ix (skA c) f=indexOf (fullA c (leadL c)) (skArr c f):=by
 rw [ix,skA,getD_map_range _ _ hf.2,Int.toNat_of_nonneg hf.1]
theorem skA_ar (h : c.Is) (a : c.Ar f x y) : (skS c).Ar (ix (skA c) f) (ix (clsK c) x) (ix (clsK c) y)∧ix (fullA c (leadL c)) (ix (skA c) f)=skArr c f:=by
 have h1:=ar_part lead_sel (skArr_ar h a) (rep_lead h (a.src h)) (rep_lead h (a.tgt h));rw [skA_ix a.r,clsK_ix h (a.src h),clsK_ix h (a.tgt h)];exact ⟨h1.2,idx_ix h1.1⟩
theorem cls_ran (h : c.Is) (hx : 0≤x∧x<c.objs) : (0≤ix (clsK c) x∧(ix (clsK c) x).toNat<(leadL c).length)∧ix (leadL c) (ix (clsK c) x)=repO c x:=by
 rw [clsK_ix h hx]
 have:=indexOf_in (rep_lead h hx);exact ⟨⟨this.1,this.2.1⟩,this.2.2⟩
theorem part_id {L : List Int} (s : Sel c L) (h : c.Is) (hx : 0≤x∧x.toNat<L.length) : ix (fullA c L) (ix (part c L).idn x)=ix c.idn (ix L x):=by
 have hxm:=ix_mem hx.2;rw [part_idn hx.2];exact idx_ix (ar_part s (h.idA (s.ran _ hxm)) hxm hxm).1
theorem fullA_inj {L : List Int} {i j : Int} (hi : 0≤i∧i.toNat<(fullA c L).length) (hj : 0≤j∧j.toNat<(fullA c L).length) (e : ix (fullA c L) i=ix (fullA c L) j) : i=j:=by
 rw [← indexOf_ix fullA_nodup hi,← indexOf_ix fullA_nodup hj,e]
theorem ar_self {f : Int} (hf : 0≤f∧f.toNat<c.frm.length) : c.Ar f (ix c.frm f) (ix c.to f):=⟨hf,rfl,rfl⟩
theorem fu_mk {k : FU} (h1 : k.src.Is) (h2 : k.tgt.Is) (ol : (k.ob.length : Int)=k.src.objs) (al : k.ar.length=k.src.frm.length) (ho : ∀ x,0≤x∧x<k.src.objs→0≤ix k.ob x∧ix k.ob x<k.tgt.objs)
  (ha : ∀ f x y,k.src.Ar f x y→k.tgt.Ar (ix k.ar f) (ix k.ob x) (ix k.ob y)) (hi : ∀ x,0≤x∧x<k.src.objs→ix k.ar (ix k.src.idn x)=ix k.tgt.idn (ix k.ob x))
  (hc : ∀ f g x y z,k.src.Ar f x y→k.src.Ar g y z→ix k.ar (k.src.th f g)=k.tgt.th (ix k.ar f) (ix k.ar g)) : k.Is:=by
 have hil:=h1.1.il;refine ⟨h1,h2,⟨ol,al,fun y hy=>?_,fun y hy=>?_⟩,⟨fun a haa=>?_,fun x hx=>?_,fun a b haa hb e=>?_⟩⟩
 ·obtain ⟨i,hi',rfl⟩:=mem_getD.mp hy
  have:=ho i (by omega);rw [ix_nat] at this; exact this
 ·obtain ⟨i,hi',rfl⟩:=mem_getD.mp hy
  have:=(ha i _ _ (ar_self (by omega))).r;rw [ix_nat] at this; omega
 ·have:=ha a _ _ (ar_self (by omega));rw [ix_nat,ix_nat,ix_nat] at this;exact ⟨this.s,this.t⟩
 ·have:=hi x (by omega);rw [ix_nat,ix_nat] at this;exact this
 ·have h3:=ar_self (c:=k.src) (f:=(a : Int)) (by omega)
  have h4:=ar_self (c:=k.src) (f:=(b : Int)) (by omega);rw [show ix k.src.frm (b : Int)=ix k.src.to (a : Int) from by rw [ix_nat,ix_nat]; exact e.symm] at h4
  have:=hc a b _ _ _ h3 h4;rw [Cat.th,Cat.th,ix_nat,ix_nat,ix_nat,ix_nat] at this;exact this
def FU.Full (k : FU) : Prop:=∀ x y : Int,(0≤x∧x<k.src.objs)→(0≤y∧y<k.src.objs)→∀ b,b∈hom k.tgt (ix k.ob x) (ix k.ob y)→b∈(hom k.src x y).map (ix k.ar)
def FU.Faith (k : FU) : Prop:=∀ a b : Int,(0≤a∧a.toNat<k.src.frm.length)→(0≤b∧b.toNat<k.src.frm.length)→ix k.ar a=ix k.ar b→ix k.src.frm a=ix k.src.frm b→ix k.src.to a=ix k.src.to b→a=b
def FU.Ess (k : FU) : Prop:=∀ y : Int,(0≤y∧y<k.tgt.objs)→∃ x,x∈k.ob∧IsoO k.tgt x y
theorem skF_is (h : c.Is) : (skF c).Is:=by
 have hob:=h.1.o;refine fu_mk h (skS_is h) (clsK_len h) (by simp [skF,skA]) (fun x hx=>?_) (fun f x y a=>(skA_ar h a).1) (fun x hx=>?_) fun f g x y z a b=>?_
 ·have:=(cls_ran h hx).1;exact ⟨this.1,by simp only [skF,skS,part]; omega⟩
 ·have hi:=skA_ar h (h.idA hx)
  have hr:=(cls_ran h hx)
  have hr2:=((part_ar lead_sel hr.1 hr.1).mp hi.1).1
  have i2:=(skS_is h).idA (x:=ix (clsK c) x) ⟨hr.1.1,by simp only [skS,part]; omega⟩;refine fullA_inj hr2 ((part_ar lead_sel hr.1 hr.1).mp i2).1 ?_
  show ix (fullA c (leadL c)) (ix (skA c) (ix c.idn x))=ix (fullA c (leadL c)) (ix (part c (leadL c)).idn (ix (clsK c) x))
  rw [hi.2,part_id lead_sel h hr.1,hr.2,skArr_id h hx]
 ·have ab:=a.comp h b
  have rx:=(cls_ran h (a.src h)).1
  have ry:=(cls_ran h (a.tgt h)).1
  have rz:=(cls_ran h (b.tgt h)).1
  have k1:=skA_ar h a
  have k2:=skA_ar h b
  have k3:=skA_ar h ab
  have pc:=part_comp lead_sel h rx ry rz k1.1 k2.1;refine fullA_inj ((part_ar lead_sel rx rz).mp k3.1).1 ((part_ar lead_sel rx rz).mp pc.1).1 ?_
  have q:=pc.2;rw [k1.2,k2.2,← skArr_comp h a b] at q;exact k3.2.trans q.symm
theorem skF_full (h : c.Is) : (skF c).Full:=by
 intro x y hx hy b hb
 replace hb : b∈hom (skS c) (ix (clsK c) x) (ix (clsK c) y):=hb
 have rx:=cls_ran h hx
 have ry:=cls_ran h hy
 obtain ⟨hr,a⟩:=(part_ar lead_sel rx.1 ry.1).mp (ar_hom.mp hb);rw [rx.2,ry.2] at a
 obtain ⟨f,af,e⟩:=skArr_sur h hx hy a;refine List.mem_map.mpr ⟨f,ar_hom.mpr af, ?_⟩
 show ix (skA c) f=b
 rw [skA_ix af.r,e,indexOf_ix fullA_nodup hr]
theorem skF_faith (h : c.Is) : (skF c).Faith:=by
 intro a b ha hb e e1 e2
 have aa:=ar_self ha
 have ab : c.Ar b (ix c.frm a) (ix c.to a):=⟨hb,e1.symm,e2.symm⟩;refine skArr_inj h aa ab ?_;rw [← (skA_ar h aa).2,← (skA_ar h ab).2];exact congrArg _ e
theorem skF_ess (h : c.Is) : (skF c).Ess:=by
 intro y hy
 replace hy : 0≤y∧y<((leadL c).length : Int):=hy
 have hm:=ix_mem (l:=leadL c) (i:=y) (by omega)
 have hx:=mem_leadL.mp hm;refine ⟨y, ?_,.refl (skS_is h) hy⟩
 have h1:=clsK_ix h hx.1;rw [hx.2,indexOf_ix leadL_nodup (by omega)] at h1
 show y∈clsK c
 rw [← h1];exact ix_mem (by have:=clsK_len h; omega)
theorem skE_is (h : c.Is) : (skE c).Is:=by
 have hpl : (part c (leadL c)).frm.length=(fullA c (leadL c)).length:=by simp [part]
 have hr : ∀ {f x y : Int},(skS c).Ar f x y→(0≤x∧x.toNat<(leadL c).length)∧(0≤y∧y.toNat<(leadL c).length):=fun {f x y} a=>by
  have h1:=a.src (skS_is h)
  have h2:=a.tgt (skS_is h);simp only [skS,part] at h1 h2;omega
 refine fu_mk (skS_is h) h rfl hpl.symm (fun x hx=>?_) (fun f x y a=>((part_ar lead_sel (hr a).1 (hr a).2).mp a).2) (fun x hx=>?_) fun f g x y z a b=>(part_comp lead_sel h (hr a).1 (hr a).2 (hr b).2 a b).2
 ·replace hx : 0≤x∧x<((leadL c).length : Int):=hx;exact (mem_leadL.mp (ix_mem (l:=leadL c) (i:=x) (by omega))).1
 ·replace hx : 0≤x∧x<((leadL c).length : Int):=hx;exact part_id lead_sel h (by omega)
theorem skE_full (h : c.Is) : (skE c).Full:=by
 intro x y hx hy b hb
 replace hx : 0≤x∧x<((leadL c).length : Int):=hx
 replace hy : 0≤y∧y<((leadL c).length : Int):=hy
 replace hb : b∈hom c (ix (leadL c) x) (ix (leadL c) y):=hb
 have h1:=ar_part lead_sel (ar_hom.mp hb) (ix_mem (by omega)) (ix_mem (by omega));rw [indexOf_ix leadL_nodup (by omega),indexOf_ix leadL_nodup (by omega)] at h1;exact List.mem_map.mpr ⟨_,ar_hom.mpr h1.2,idx_ix h1.1⟩
theorem skE_faith : (skE c).Faith:=by
 intro a b ha hb e _ _;simp only [skE,skS,part,List.length_map] at ha hb;exact fullA_inj ha hb e
theorem skE_ess (h : c.Is) : (skE c).Ess:=fun y hy=>⟨repO c y,rep_lead h hy,(repO_spec h hy).1⟩
theorem inv_part {i j : Int} (h : c.Is) (k : (skS c).Inv i j x y) : c.Inv (ix (fullA c (leadL c)) i) (ix (fullA c (leadL c)) j) (ix (leadL c) x) (ix (leadL c) y):=by
 have h1:=k.a.src (skS_is h)
 have h2:=k.a.tgt (skS_is h)
 have rx : 0≤x∧x.toNat<(leadL c).length:=by simp only [skS,part] at h1; omega
 have ry : 0≤y∧y.toNat<(leadL c).length:=by simp only [skS,part] at h2; omega
 have a:=(part_ar lead_sel rx ry).mp k.a
 have b:=(part_ar lead_sel ry rx).mp k.b
 have p1:=(part_comp lead_sel h rx ry rx k.a k.b).2
 have p2:=(part_comp lead_sel h ry rx ry k.b k.a).2;refine ⟨a.2,b.2, ?_, ?_⟩
 ·rw [← p1,← part_id lead_sel h rx]; exact congrArg _ k.l
 ·rw [← p2,← part_id lead_sel h ry]; exact congrArg _ k.r
theorem repO_S (h : c.Is) (hx : 0≤x∧x<(skS c).objs) : repO (skS c) x=x:=by
 have hs:=repO_spec (skS_is h) hx
 obtain ⟨i,j,k⟩:=hs.1
 have hr:=repO_ran (skS_is h) hx
 replace hx : 0≤x∧x<((leadL c).length : Int):=hx
 replace hr : 0≤repO (skS c) x∧repO (skS c) x<((leadL c).length : Int):=hr
 have iso : IsoO c (ix (leadL c) (repO (skS c) x)) (ix (leadL c) x):=⟨_,_,inv_part h k⟩
 have m1:=mem_leadL.mp (ix_mem (l:=leadL c) (i:=repO (skS c) x) (by omega))
 have m2:=mem_leadL.mp (ix_mem (l:=leadL c) (i:=x) (by omega))
 have e:=(repO_iff h m1.1 m2.1).mpr iso;rw [m1.2,m2.2] at e
 have hr2 : 0≤repO (skS c) x∧(repO (skS c) x).toNat<(leadL c).length:=by omega
 have q:=congrArg (indexOf (leadL c)) e;rw [indexOf_ix leadL_nodup hr2,indexOf_ix leadL_nodup (by omega)] at q;exact q
def idL (n : Nat) : List Int:=(List.range n).map Int.ofNat
theorem idL_len (n : Nat) : (idL n).length=n:=by simp [idL]
theorem idL_at {n i : Nat} (hi : i<n) : (idL n).getD i default=i:=by rw [idL,getD_map_range _ _ hi]; rfl
theorem idL_ix {n : Nat} {i : Int} (hi : 0≤i∧i.toNat<n) : ix (idL n) i=i:=by rw [ix,idL_at hi.2,Int.toNat_of_nonneg hi.1]
theorem idL_nodup (n : Nat) : (idL n).Nodup:=List.pairwise_map.mpr (List.nodup_range.imp fun {a b} h e=>h (Int.ofNat_inj.mp e))
def idF (c : Cat) : FU:=⟨c,c,idL c.objs.toNat,idL c.frm.length⟩
def thenL (l m : List Int) : List Int:=l.map fun i=>ix m i
end
end Go.Shf
namespace Go.Shf
open Go.AW
theorem getD_setI {A : List Int} {i j : Nat} {v : Int} (h : i<A.length) : (A.set i v).getD j default=if i=j then v else A.getD j default:=by
 rw [List.getD_eq_getElem?_getD,List.getElem?_set]
 by_cases e : i=j
 ·rw [if_pos e,if_pos e,if_pos (e ▸ h)]; rfl
 ·rw [if_neg e,if_neg e,List.getD_eq_getElem?_getD]
def negs (A : List Int) : Nat:=A.countP fun x=>decide (x<0)
theorem negs_set : ∀ {A : List Int} {i : Nat} {v : Int},i<A.length→A.getD i default<0→0≤v→negs (A.set i v)+1=negs A
 | [],i,v,h,_,_=>by simp at h
 | x::r,0,v,_,hx,hv=>by
  have hx' : decide (x<0)=true:=decide_eq_true hx
  have hv' : decide (v<0)=false:=decide_eq_false (by omega)
  simp [negs,List.countP_cons,hx',hv']
 | x::r,i+1,v,h,hx,hv=>by
  have ih:=negs_set (A:=r) (i:=i) (v:=v) (by simpa using h) (by simpa using hx) hv;simp only [negs,List.set_cons_succ,List.countP_cons] at ih ⊢;omega
structure ExtA (A B : List Int) : Prop where
 len : B.length=A.length
 keep : ∀ i : Nat,i<A.length→0≤A.getD i default→B.getD i default=A.getD i default
theorem ExtA.refl (A : List Int) : ExtA A A:=⟨rfl,fun _ _ _=>rfl⟩
theorem ExtA.trans {A B C : List Int} (h : ExtA A B) (k : ExtA B C) : ExtA A C :=
 ⟨k.len.trans h.len,fun i hi h0=>(k.keep i (by rw [h.len]; exact hi) (by rw [h.keep i hi h0]; exact h0)).trans (h.keep i hi h0)⟩
theorem ExtA.set {A : List Int} {i : Nat} {v : Int} (h : i<A.length) (hn : A.getD i default<0) : ExtA A (A.set i v):=by
 refine ⟨by simp,fun j hj h0=>?_⟩;rw [getD_setI h,if_neg]
 rintro rfl; omega
def DistA (A : List Int) : Prop:=∀ i j : Nat,i<A.length→j<A.length→0≤A.getD i default→A.getD i default=A.getD j default→i=j
section
variable {c : Cat} {A : List Int}
theorem ar_nat {i : Nat} (h : i<c.frm.length) : c.Ar (i : Int) (c.frm.getD i default) (c.to.getD i default):=⟨by omega,ix_nat _ _,ix_nat _ _⟩
theorem th_meets (h : c.Is) {a b : Nat} (ha : a<c.frm.length) (hb : b<c.frm.length) (hh : 0≤(c.comp.getD a default).getD b default) :
  c.to.getD a default=c.frm.getD b default:=by
 refine Classical.byContradiction fun e=>?_
 have:=h.1.non a b ha hb e;omega
theorem th_ran (h : c.Is) {a b : Nat} (ha : a<c.frm.length) (hb : b<c.frm.length) : (c.comp.getD a default).getD b default<c.frm.length:=by
 by_cases e : c.to.getD a default=c.frm.getD b default
 ·exact (h.1.yes a b ha hb e).1.2
 ·have:=h.1.non a b ha hb e; omega
end
noncomputable def markK (A : List Int) (n k : Nat) : List Bool:=(List.range n).map fun v : Nat=>dec (∃ i,i<k∧A.getD i default=(v : Int))
theorem markK_len (A : List Int) (n k : Nat) : (markK A n k).length=n:=by simp [markK]
theorem markK_at {A : List Int} {n k v : Nat} (h : v<n) : (markK A n k).getD v default=dec (∃ i,i<k∧A.getD i default=(v : Int)):=by rw [markK,getD_map_range _ _ h]
theorem markK_zero (A : List Int) (n : Nat) : markK A n 0=List.replicate n false:=by
 refine List.ext_getElem (by simp [markK]) fun i h1 h2=>?_;simp only [markK,List.getElem_map,List.getElem_range,List.getElem_replicate];exact dec_f fun ⟨j,hj,_⟩=>by omega
theorem markK_neg {A : List Int} {n k : Nat} (h : A.getD k default<0) : markK A n (k+1)=markK A n k:=by
 refine List.map_congr_left fun v _=>?_;refine dec_congr ⟨fun ⟨i,hi,e⟩=>?_,fun ⟨i,hi,e⟩=>⟨i,by omega,e⟩⟩
 by_cases q : i=k
 ·subst q; omega
 ·exact ⟨i,by omega,e⟩
theorem markK_pos {A : List Int} {n k v : Nat} (hv : v<n) (h : A.getD k default=(v : Int)) : markK A n (k+1)=(markK A n k).set v true:=by
 refine List.ext_getElem (by simp [markK]) fun u h1 h2=>?_
 have hu : u<n:=by simpa [markK] using h1
 rw [List.getElem_set];simp only [markK,List.getElem_map,List.getElem_range]
 by_cases e : v=u
 ·subst e; rw [if_pos rfl]; exact dec_t ⟨k,by omega,h⟩
 ·rw [if_neg e];refine dec_congr ⟨fun ⟨i,hi,e2⟩=>?_,fun ⟨i,hi,e2⟩=>⟨i,by omega,e2⟩⟩
  by_cases q : i=k
  ·subst q; omega
  ·exact ⟨i,by omega,e2⟩
def DistK (A : List Int) (k : Nat) : Prop:=∀ i j : Nat,i<k→j<k→0≤A.getD i default→A.getD i default=A.getD j default→i=j
theorem DistK.neg {A : List Int} {k : Nat} (h : DistK A k) (hn : A.getD k default<0) : DistK A (k+1):=fun i j hi hj h0 e=>by
 by_cases q1 : i=k
 ·subst q1; omega
 ·by_cases q2 : j=k
  ·subst q2; omega
  ·exact h i j (by omega) (by omega) h0 e
theorem DistK.pos {A : List Int} {k : Nat} (h : DistK A k) (hn : ¬ ∃ i,i<k∧A.getD i default=A.getD k default) : DistK A (k+1):=fun i j hi hj h0 e=>by
 by_cases q1 : i=k
 ·by_cases q2 : j=k
  ·omega
  ·subst q1; exact (hn ⟨j,by omega,e.symm⟩).elim
 ·by_cases q2 : j=k
  ·subst q2; exact (hn ⟨i,by omega,e⟩).elim
  ·exact h i j (by omega) (by omega) h0 e
theorem not_dist {A : List Int} {k i : Nat} (hk : k<A.length) (hi : i<k) (h0 : 0≤A.getD k default) (e : A.getD i default=A.getD k default) : ¬ DistA A:=fun h=>by
 have:=h k i hk (by omega) h0 e.symm; omega
theorem dist_full {A : List Int} (h : DistK A A.length) : DistA A:=h
end Go.Shf
namespace Go.Shf
open Go.AW
def allL (m : Nat) : Nat→List (List Int)
 | 0=>[[]]
 | n+1=>(List.range m).flatMap fun b=>(allL m n).map fun l=>Int.ofNat b::l
theorem mem_allL {m : Nat} : ∀ {n : Nat} {l : List Int},l∈allL m n↔l.length=n∧∀ x,x∈l→0≤x∧x<m
 | 0,l=>by
  rw [allL,List.mem_singleton]
  constructor
  ·rintro rfl; exact ⟨rfl,fun x h=>by cases h⟩
  ·rintro ⟨h,_⟩; exact List.eq_nil_of_length_eq_zero h
 | n+1,l=>by
  rw [allL,List.mem_flatMap]
  constructor
  ·rintro ⟨b,hb,h⟩
   obtain ⟨r,hr,rfl⟩:=List.mem_map.mp h
   have ih:=mem_allL.mp hr
   have hb:=List.mem_range.mp hb;refine ⟨by simp [ih.1],fun x hx=>?_⟩
   rcases List.mem_cons.mp hx with rfl | hx
   ·show (0 : Int)≤(b : Int)∧(b : Int)<(m : Int)
    omega
   ·exact ih.2 x hx
  ·rintro ⟨h,k⟩
   cases l with
   | nil=>simp at h
   | cons x r =>
    have hx:=k x (.head _);refine ⟨x.toNat,List.mem_range.mpr (by omega),List.mem_map.mpr ⟨r,mem_allL.mpr ⟨by simpa using h,fun y hy=>k y (.tail _ hy)⟩, ?_⟩⟩;rw [show Int.ofNat x.toNat=x from Int.toNat_of_nonneg hx.1]
def LexI (P Q : List Int) : Prop:=∃ a : Nat,(∀ i,i<a→P.getD i default=Q.getD i default)∧P.getD a default<Q.getD a default
theorem LexI.cons {b : Int} {P Q : List Int} (h : LexI P Q) : LexI (b::P) (b::Q):=by
 obtain ⟨a,h1,h2⟩:=h;refine ⟨a+1,fun i hi=>?_,by simpa using h2⟩
 cases i with
 | zero=>rfl
 | succ i=>simpa using h1 i (by omega)
theorem allL_lex (m : Nat) : ∀ n,(allL m n).Pairwise LexI
 | 0=>List.pairwise_singleton _ _
 | n+1=>by
  rw [allL,List.pairwise_flatMap];refine ⟨fun b _=>?_,List.pairwise_lt_range.imp fun {a b} h x hx y hy=>?_⟩
  ·rw [List.pairwise_map]; exact (allL_lex m n).imp fun h=>h.cons
  ·obtain ⟨p,_,rfl⟩:=List.mem_map.mp hx
   obtain ⟨q,_,rfl⟩:=List.mem_map.mp hy;exact ⟨0,fun i hi=>by omega,by simpa using h⟩
theorem LexI.ne {P Q : List Int} (h : LexI P Q) : P≠Q:=by
 rintro rfl
 obtain ⟨a,_,h⟩:=h;omega
theorem flat_congr {α β : Type} {f g : α→List β} : ∀ {L : List α},(∀ b,b∈L→f b=g b)→L.flatMap f=L.flatMap g
 | [],_=>rfl
 | b::L,h=>by rw [List.flatMap_cons,List.flatMap_cons,h b (.head _),flat_congr fun x hx=>h x (.tail _ hx)]
theorem flat_at {β : Type} {f : Int→List β} {W : List Int} {j : Nat} (h : j<W.length) : W.flatMap f=(W.take j).flatMap f++(f (W.getD j default)++(W.drop (j+1)).flatMap f):=by
 have e : W.getD j default=W[j]:=by rw [List.getD_eq_getElem?_getD,List.getElem?_eq_getElem h]; rfl
 have:=List.take_append_drop j W;rw [List.drop_eq_getElem_cons h] at this;rw [e,← List.flatMap_cons,← List.flatMap_append,this]
theorem flat_take {β : Type} {f : Int→List β} {W : List Int} {j : Nat} (h : j<W.length) : (W.take (j+1)).flatMap f=(W.take j).flatMap f++f (W.getD j default):=by
 have e : W.getD j default=W[j]:=by rw [List.getD_eq_getElem?_getD,List.getElem?_eq_getElem h]; rfl
 rw [List.take_succ_eq_append_getElem h,List.flatMap_append,e]; simp
theorem split_min {α : Type} (κ : α→Int) (b : Int) : ∀ (l : List α),l.Pairwise (fun x y=>κ x≤κ y)→(∀ x,x∈l→b≤κ x) →
  l=l.filter (fun x=>decide (κ x=b))++l.filter (fun x=>decide (κ x≠b))
 | [],_,_=>rfl
 | x::r,hl,h=>by
  obtain ⟨h1,h2⟩:=List.pairwise_cons.mp hl
  have hx:=h x (.head _)
  by_cases e : κ x=b
  ·rw [List.filter_cons_of_pos (by simpa using e),List.filter_cons_of_neg (by simpa using e),List.cons_append,← split_min κ b r h2 fun y hy=>h y (.tail _ hy)]
  ·rw [List.filter_cons_of_neg (by simpa using e),List.filter_cons_of_pos (by simpa using e),List.filter_eq_nil_iff.mpr,List.nil_append,List.filter_eq_self.mpr]
   ·intro y hy; have:=h1 y hy; simp; omega
   ·intro y hy; have:=h1 y hy; simp; omega
theorem flat_key {α : Type} (κ : α→Int) : ∀ (L : List Int) (l : List α),L.Pairwise (·<·)→l.Pairwise (fun x y=>κ x≤κ y)→(∀ x,x∈l→κ x∈L) →
  l=L.flatMap fun b=>l.filter fun x=>decide (κ x=b)
 | [],l,_,_,h=>by
  cases l with
  | nil=>rfl
  | cons x r=>exact absurd (h x (.head _)) (by simp)
 | b::L,l,hL,hl,h=>by
  obtain ⟨h1,h2⟩:=List.pairwise_cons.mp hL
  have hm:=split_min κ b l hl fun x hx=>by
   rcases List.mem_cons.mp (h x hx) with e | e
   ·omega
   ·have:=h1 _ e; omega
  have ih:=flat_key κ L (l.filter fun x=>decide (κ x≠b)) h2 (hl.filter _) fun x hx=>by
   have:=List.mem_filter.mp hx
   rcases List.mem_cons.mp (h x this.1) with e | e
   ·exact absurd e (by simpa using this.2)
   ·exact e
  rw [List.flatMap_cons];rw [flat_congr (g:=fun b'=>l.filter fun x=>decide (κ x=b'))] at ih
  ·rw [← ih]; exact hm
  ·intro b' hb'
   have:=h1 b' hb';rw [List.filter_filter];refine List.filter_congr fun x _=>?_
   by_cases e : κ x=b'
   ·have : κ x≠b:=by omega
    simp [e,this]; omega
   ·simp [e]
theorem nodup_one {α : Type} {C : α} : ∀ {l : List α},l.Pairwise (·≠·)→(∀ x,x∈l→x=C)→C∈l→l=[C]
 | [],_,_,h=>by cases h
 | [x],_,h,_=>by rw [h x (.head _)]
 | x::y::r,hl,h,_=>by
  have:=(List.pairwise_cons.mp hl).1 y (.head _);rw [h x (.head _),h y (.tail _ (.head _))] at this;exact absurd rfl this
theorem hom_lt (c : Cat) (x y : Int) : (hom c x y).Pairwise (·<·):=by
 unfold hom nats;rw [List.pairwise_map];exact (List.pairwise_lt_range.filter _).imp fun h=>by simpa using h
structure FunL (c d : Cat) (O P : List Int) : Prop where
 len : P.length=c.frm.length
 par : ∀ i : Nat,i<c.frm.length→d.Ar (P.getD i default) (ix O (c.frm.getD i default)) (ix O (c.to.getD i default))
 idn : ∀ x : Nat,x<c.idn.length→ix P (c.idn.getD x default)=ix d.idn (O.getD x default)
 comp : ∀ a b h : Nat,a<c.frm.length→b<c.frm.length→(c.comp.getD a default).getD b default=h→P.getD h default=d.th (P.getD a default) (P.getD b default)
def ExtP (A P : List Int) : Prop:=∀ i : Nat,i<A.length→A.getD i default=-1∨P.getD i default=A.getD i default
structure OkP (c d : Cat) (once : Bool) (O A P : List Int) : Prop where
 fn : FunL c d O P
 inj : once=true→DistA P
 ext : ExtP A P
noncomputable def extP (c d : Cat) (once : Bool) (O A : List Int) : List (List Int):=(allL d.frm.length c.frm.length).filter fun P=>dec (OkP c d once O A P)
section
variable {c d : Cat} {once : Bool} {O A C P : List Int}
theorem mem_extP : P∈extP c d once O A↔OkP c d once O A P:=by
 rw [extP,List.mem_filter,dec_iff,mem_allL];refine ⟨fun h=>h.2,fun h=>⟨⟨h.fn.len,fun x hx=>?_⟩,h⟩⟩
 obtain ⟨i,hi,rfl⟩:=mem_getD.mp hx
 have:=(h.fn.par i (by rw [← h.fn.len]; exact hi)).r;omega
theorem extP_congr {A' : List Int} (h : ∀ P,FunL c d O P→(once=true→DistA P)→(ExtP A P↔ExtP A' P)) : extP c d once O A=extP c d once O A':=by
 refine List.filter_congr fun P _=>?_
 by_cases e : OkP c d once O A P
 ·rw [dec_t e,dec_t ⟨e.fn,e.inj,(h P e.fn e.inj).mp e.ext⟩]
 ·rw [dec_f e,dec_f fun q=>e ⟨q.fn,q.inj,(h P q.fn q.inj).mpr q.ext⟩]
theorem extP_nil (h : ∀ P,¬ OkP c d once O A P) : extP c d once O A=[]:=List.filter_eq_nil_iff.mpr fun P _=>by rw [dec_f (h P)]; simp
theorem extP_one (h : FunL c d O C) (hd : once=true→DistA C) (hk : ∀ i,i<C.length→C.getD i default≠-1) : extP c d once O C=[C]:=by
 refine nodup_one (((allL_lex _ _).filter _).imp fun h=>h.ne) (fun P hP=>?_) (mem_extP.mpr ⟨h,hd,fun i _=>.inr rfl⟩)
 have q:=mem_extP.mp hP
 have hl:=q.fn.len
 have hl2:=h.len;refine List.ext_getElem (by omega) fun i h1 h2=>?_
 have:=(q.ext i h2).resolve_left (hk i h2)
 rwa [List.getD_eq_getElem?_getD,List.getD_eq_getElem?_getD,List.getElem?_eq_getElem h1,List.getElem?_eq_getElem h2] at this
theorem extP_split {a : Nat} (ha : a<A.length) (hl : A.length=c.frm.length) (hn : A.getD a default=-1) (hf : ∀ i,i<a→A.getD i default≠-1) :
  extP c d once O A=(hom d (ix O (c.frm.getD a default)) (ix O (c.to.getD a default))).flatMap fun b=>extP c d once O (A.set a b):=by
 have e:=flat_key (fun P : List Int=>P.getD a default) (hom d (ix O (c.frm.getD a default)) (ix O (c.to.getD a default))) (extP c d once O A) (hom_lt _ _ _) ?_ ?_
 ·refine e.trans (flat_congr fun b hb=>?_)
  have hb0:=(ar_hom.mp hb).r.1;rw [extP,extP,List.filter_filter];refine List.filter_congr fun P _=>?_
  by_cases q : OkP c d once O (A.set a b) P
  ·have q1:=q.ext a (by simpa using ha);rw [getD_setI ha,if_pos rfl] at q1
   have q2 : P.getD a default=b:=q1.resolve_left (by omega)
   have q3 : OkP c d once O A P:=⟨q.fn,q.inj,fun i hi=>by
    by_cases e : a=i
    ·left; rw [← e]; exact hn
    ·have:=q.ext i (by simpa using hi)
     rwa [getD_setI ha,if_neg e] at this⟩
   rw [dec_t q,dec_t q3]; simp only [Bool.and_true,decide_eq_true_eq]; exact q2
  ·rw [dec_f q]
   by_cases q2 : P.getD a default=b
   ·rw [dec_f]
    ·rw [Bool.and_false]
    ·intro q3;refine q ⟨q3.fn,q3.inj,fun i hi=>?_⟩;rw [getD_setI ha]
     by_cases e : a=i
     ·rw [if_pos e]; right; rw [← e]; exact q2
     ·rw [if_neg e]; exact q3.ext i (by simpa using hi)
   ·rw [decide_eq_false q2,Bool.false_and]
 ·refine List.Pairwise.imp_of_mem (fun {x y} hx hy h=>?_) ((allL_lex _ _).filter _)
  have hx:=(mem_extP.mp hx).ext
  have hy:=(mem_extP.mp hy).ext
  obtain ⟨k,h1,h2⟩:=h
  show x.getD a default≤y.getD a default
  by_cases e1 : a<k
  ·rw [h1 a e1]; exact Int.le_refl _
  ·by_cases e2 : k=a
   ·rw [← e2]; omega
   ·have a1:=(hx k (by omega)).resolve_left (hf k (by omega))
    have a2:=(hy k (by omega)).resolve_left (hf k (by omega));omega
 ·intro P hP;exact ar_hom.mpr ((mem_extP.mp hP).fn.par a (by omega))
structure ParD (c d : Cat) (O A : List Int) : Prop where
 len : A.length=c.frm.length
 par : ∀ i : Nat,i<A.length→A.getD i default=-1∨d.Ar (A.getD i default) (ix O (c.frm.getD i default)) (ix O (c.to.getD i default))
theorem ParD.set (h : ParD c d O A) {i : Nat} {v : Int} (hi : i<A.length) (a : d.Ar v (ix O (c.frm.getD i default)) (ix O (c.to.getD i default))) : ParD c d O (A.set i v):=by
 refine ⟨by rw [List.length_set,h.len],fun j hj=>?_⟩;rw [List.length_set] at hj;rw [getD_setI hi]
 by_cases e : i=j
 ·rw [if_pos e]; exact .inr (e ▸ a)
 ·rw [if_neg e]; exact h.par j hj
theorem ParD.known (h : ParD c d O A) {i : Nat} (hi : i<A.length) (h0 : 0≤A.getD i default) : d.Ar (A.getD i default) (ix O (c.frm.getD i default)) (ix O (c.to.getD i default)):=by
 rcases h.par i hi with a | a
 ·omega
 ·exact a
theorem ParD.neg (h : ParD c d O A) {i : Nat} (hi : i<A.length) : A.getD i default=-1∨0≤A.getD i default:=(h.par i hi).imp id fun a=>a.r.1
theorem ParD.th (hc : c.Is) (hd : d.Is) (p : ParD c d O A) {a b : Nat} (ha : a<A.length) (hb : b<A.length) (hA : 0≤A.getD a default) (hB : 0≤A.getD b default)
  {t : Nat} (hh : (c.comp.getD a default).getD b default=(t : Int)) : t<A.length∧d.Ar (d.th (A.getD a default) (A.getD b default)) (ix O (c.frm.getD t default)) (ix O (c.to.getD t default)):=by
 have pl:=p.len
 have e:=th_meets hc (a:=a) (b:=b) (by omega) (by omega) (by omega)
 have k1:=p.known ha hA
 have k2:=p.known hb hB;rw [← e] at k2
 have ab:=(ar_nat (c:=c) (i:=a) (by omega)).comp hc (e ▸ ar_nat (c:=c) (i:=b) (by omega))
 have et : c.th (a : Int) (b : Int)=t:=by rw [Cat.th,ix_nat,ix_nat,hh]
 rw [et] at ab
 have hr:=ab.r
 have hs:=ab.s
 have ht:=ab.t;rw [ix_nat] at hs ht;refine ⟨by omega, ?_⟩;rw [hs,ht];exact k1.comp hd k2
structure SprD (c d : Cat) (O A C : List Int) : Prop where
 ext : ExtA A C
 par : ParD c d O C
 keep : ∀ P,FunL c d O P→ExtP A P→ExtP C P
theorem SprD.refl (h : ParD c d O A) : SprD c d O A A:=⟨.refl A,h,fun _ _ q=>q⟩
theorem SprD.at (h : SprD c d O A C) (hP : FunL c d O P) (hE : ExtP A P) {i : Nat} (hi : i<C.length) (h0 : 0≤C.getD i default) : P.getD i default=C.getD i default :=
 (h.keep P hP hE i hi).resolve_left (by omega)
theorem SprD.th (h : SprD c d O A C) (hP : FunL c d O P) (hE : ExtP A P) {a b t : Nat} (ha : a<C.length) (hb : b<C.length) (hA : 0≤C.getD a default) (hB : 0≤C.getD b default)
  (hh : (c.comp.getD a default).getD b default=(t : Int)) : P.getD t default=d.th (C.getD a default) (C.getD b default):=by
 have hl:=h.par.len;rw [hP.comp a b t (by omega) (by omega) hh,h.at hP hE ha hA,h.at hP hE hb hB]
theorem SprD.set (h : SprD c d O A C) (hc : c.Is) (hd : d.Is) {a b t : Nat} (ha : a<C.length) (hb : b<C.length) (hA : 0≤C.getD a default) (hB : 0≤C.getD b default)
  (hh : (c.comp.getD a default).getD b default=(t : Int)) (hn : C.getD t default<0) : SprD c d O A (C.set t (d.th (C.getD a default) (C.getD b default))):=by
 obtain ⟨ht,har⟩:=h.par.th hc hd ha hb hA hB hh;refine ⟨h.ext.trans (.set ht hn),h.par.set ht har,fun P hP hE i hi=>?_⟩;rw [List.length_set] at hi;rw [getD_setI ht]
 by_cases e : t=i
 ·rw [if_pos e]; right; rw [← e]; exact h.th hP hE ha hb hA hB hh
 ·rw [if_neg e]; exact h.keep P hP hE i hi
theorem SprD.clash (h : SprD c d O A C) {a b t : Nat} (ha : a<C.length) (hb : b<C.length) (hA : 0≤C.getD a default) (hB : 0≤C.getD b default)
  (hh : (c.comp.getD a default).getD b default=(t : Int)) (ht : t<C.length) (h0 : 0≤C.getD t default) (hne : C.getD t default≠d.th (C.getD a default) (C.getD b default)) : extP c d once O A=[] :=
 extP_nil fun P q=>hne (by rw [← h.at q.fn q.ext ht h0,h.th q.fn q.ext ha hb hA hB hh])
theorem ExtA.extP (h : ExtA A C) (hE : ExtP C P) (hn : ∀ i,i<A.length→A.getD i default=-1∨0≤A.getD i default) : ExtP A P:=fun i hi=>by
 rcases hn i hi with e | e
 ·exact .inl e
 ·rw [← h.keep i hi e]
  rcases hE i (by rw [h.len]; exact hi) with q | q
  ·rw [h.keep i hi e] at q; omega
  ·exact .inr q
theorem SprD.same (h : SprD c d O A C) (pa : ParD c d O A) : extP c d once O A=extP c d once O C :=
 extP_congr fun P hP _=>⟨h.keep P hP,fun q=>h.ext.extP q fun i hi=>pa.neg hi⟩
def ClosD (c d : Cat) (C : List Int) : Prop:=∀ a b t : Nat,a<C.length→b<C.length→(c.comp.getD a default).getD b default=(t : Int)→0≤C.getD a default→0≤C.getD b default →
 C.getD t default=d.th (C.getD a default) (C.getD b default)
def IdsD (c d : Cat) (O A : List Int) : Prop:=∀ x : Nat,x<c.idn.length→ix A (c.idn.getD x default)=ix d.idn (O.getD x default)
theorem full_fun (p : ParD c d O C) (hcl : ClosD c d C) (hi : IdsD c d O C) (hk : ∀ i,i<C.length→C.getD i default≠-1) : FunL c d O C:=by
 have hl:=p.len;refine ⟨hl,fun i h=>(p.par i (by omega)).resolve_left (hk i (by omega)),hi,fun a b t ha hb hh=>hcl a b t (by omega) (by omega) hh ?_ ?_⟩
 ·rcases p.neg (i:=a) (by omega) with q | q
  ·exact (hk a (by omega) q).elim
  ·exact q
 ·rcases p.neg (i:=b) (by omega) with q | q
  ·exact (hk b (by omega) q).elim
  ·exact q
theorem IdsD.ext (h : IdsD c d O A) (hc : c.Is) (hd : d.Is) (hO : ∀ x : Nat,x<c.idn.length→0≤O.getD x default∧O.getD x default<d.objs) (hl : A.length=c.frm.length) (e : ExtA A C) : IdsD c d O C:=fun x hx=>by
 have hi:=hc.1.idn _ (mem_getD.mpr ⟨x,hx,rfl⟩)
 have:=h x hx
 have h0:=(hd.idA (hO x hx)).r.1;rw [← this];exact e.keep _ (by omega) (by show 0≤ix A _; omega)
end
noncomputable def fnsP (c d : Cat) (once : Bool) : Nat→List Int→List FU
 | 0,O=>(extP c d once O (List.replicate c.frm.length (-1))).map fun P=>⟨c,d,O,P⟩
 | k+1,O=>(natsL d.objs).flatMap fun y=>fnsP c d once k (O++[y])
noncomputable def allF (c d : Cat) (once : Bool) : List FU:=fnsP c d once c.objs.toNat []
section
variable {c d : Cat} {once : Bool}
theorem extP_free {P : List Int} (n : Nat) : ExtP (List.replicate n (-1)) P:=fun i hi=>by
 left
 rw [List.length_replicate] at hi;rw [List.getD_eq_getElem?_getD,List.getElem?_replicate,if_pos hi]; rfl
theorem mem_natsL {n y : Int} : y∈natsL n↔0≤y∧y<n:=by
 rw [natsL,List.mem_map]
 constructor
 ·rintro ⟨i,hi,rfl⟩
  have:=List.mem_range.mp hi;exact ⟨by simp,by simp; omega⟩
 ·intro h;exact ⟨y.toNat,List.mem_range.mpr (by omega),Int.toNat_of_nonneg h.1⟩
theorem mem_fnsP {k : FU} : ∀ {n : Nat} {O : List Int},k∈fnsP c d once n O↔∃ O' P,O'.length=n∧(∀ y,y∈O'→0≤y∧y<d.objs)∧FunL c d (O++O') P∧(once=true→DistA P)∧k=⟨c,d,O++O',P⟩
 | 0,O=>by
  rw [fnsP,List.mem_map]
  constructor
  ·rintro ⟨P,hP,rfl⟩
   have q:=mem_extP.mp hP;exact ⟨[],P,rfl,(fun y h=>by cases h),by rw [List.append_nil]; exact q.fn,q.inj,by rw [List.append_nil]⟩
  ·rintro ⟨O',P,h0,_,h1,h2,rfl⟩
   have : O'=[]:=List.eq_nil_of_length_eq_zero h0;subst this;rw [List.append_nil] at h1 ⊢;exact ⟨P,mem_extP.mpr ⟨h1,h2,extP_free _⟩,rfl⟩
 | n+1,O=>by
  rw [fnsP,List.mem_flatMap]
  constructor
  ·rintro ⟨y,hy,h⟩
   obtain ⟨O',P,h0,h1,h2,h3,rfl⟩:=mem_fnsP.mp h;rw [List.append_assoc] at h2 ⊢;refine ⟨y::O',P,by simp [h0],fun z hz=>?_,h2,h3,rfl⟩
   rcases List.mem_cons.mp hz with rfl | hz
   ·exact mem_natsL.mp hy
   ·exact h1 z hz
  ·rintro ⟨O',P,h0,h1,h2,h3,rfl⟩
   cases O' with
   | nil=>simp at h0
   | cons y O' =>
    refine ⟨y,mem_natsL.mpr (h1 y (.head _)),mem_fnsP.mpr ⟨O',P,by simpa using h0,fun z hz=>h1 z (.tail _ hz),by rw [List.append_assoc]; exact h2,h3,by rw [List.append_assoc]; rfl⟩⟩
theorem fnsP_nil {n : Nat} {O : List Int} (h : ∀ O' P,O'.length=n→FunL c d (O++O') P→(once=true→DistA P)→False) : fnsP c d once n O=[]:=by
 refine List.eq_nil_iff_forall_not_mem.mpr fun k hk=>?_
 obtain ⟨O',P,h0,_,h1,h2,_⟩:=mem_fnsP.mp hk;exact h O' P h0 h1 h2
theorem ix_app {O O' : List Int} {x : Int} (h : 0≤x∧x.toNat<O.length) : ix (O++O') x=ix O x:=by
 rw [ix,ix,List.getD_eq_getElem?_getD,List.getElem?_append_left h.2,← List.getD_eq_getElem?_getD]
theorem fnsP_few {n : Nat} {O : List Int} {s u : Int} (h1 : 0≤s∧s.toNat<O.length) (h2 : 0≤u∧u.toNat<O.length)
  (hf : ∃ f,c.Ar f s u) (hno : (hom d (ix O s) (ix O u)).length<if once=true then (hom c s u).length else 1) : fnsP c d once n O=[] :=
 fnsP_nil fun O' P _ hP hd=>by
  have hin : ∀ g,c.Ar g s u→ix P g∈hom d (ix O s) (ix O u):=fun g a=>by
   have:=hP.par g.toNat a.r.2;rw [show c.frm.getD g.toNat default=s from a.s,show c.to.getD g.toNat default=u from a.t,ix_app h1,ix_app h2] at this;exact ar_hom.mpr this
  cases once with
  | false =>
   obtain ⟨f,a⟩:=hf
   have:=List.length_pos_of_mem (hin f a)
   simp at hno;rw [hno] at this
   simp at this
  | true =>
   have hl:=hP.len
   have nd : ((hom c s u).map (ix P)).Nodup:=by
    refine List.pairwise_map.mpr (List.Pairwise.imp_of_mem (fun {a b} ha hb h e=>?_) (hom_lt c s u))
    have u1:=ar_hom.mp ha
    have u2:=ar_hom.mp hb
    have k0 : 0≤ix P a:=(ar_hom.mp (hin a u1)).r.1
    have:=hd rfl a.toNat b.toNat (by have:=u1.r; omega) (by have:=u2.r; omega) k0 e
    have:=u1.r
    have:=u2.r;omega
   have:=List.Nodup.length_le_of_subset nd fun x hx=>by
    obtain ⟨g,hg,rfl⟩:=List.mem_map.mp hx;exact hin g (ar_hom.mp hg)
   simp at this hno;omega
theorem fnsP_twice (hc : c.Is) {n : Nat} {O : List Int} {i j : Nat} (hij : i<j) (hj : j<O.length) (hl : O.length≤c.idn.length) (e : O.getD i default=O.getD j default) : fnsP c d true n O=[] :=
 fnsP_nil fun O' P _ hP hd=>by
  have h1:=hP.idn i (by omega)
  have h2:=hP.idn j (by omega);rw [show (O++O').getD i default=O.getD i default by rw [List.getD_eq_getElem?_getD,List.getElem?_append_left (by omega),← List.getD_eq_getElem?_getD],e] at h1;rw [show (O++O').getD j default=O.getD j default by rw [List.getD_eq_getElem?_getD,List.getElem?_append_left (by omega),← List.getD_eq_getElem?_getD]] at h2
  have hil:=hc.1.il
  have a1:=hc.idA (x:=(i : Int)) (by omega)
  have a2:=hc.idA (x:=(j : Int)) (by omega);rw [ix_nat] at a1 a2
  have r1:=a1.r
  have r2:=a2.r
  have hl:=hP.len
  have k0 : 0≤P.getD (c.idn.getD i default).toNat default:=(hP.par _ (by omega)).r.1
  have:=hd rfl (c.idn.getD i default).toNat (c.idn.getD j default).toNat (by omega) (by omega) k0 (show ix P _=ix P _ by rw [h1,h2])
  have e3 : c.idn.getD i default=c.idn.getD j default:=by omega
  have s1:=a1.s
  have s2:=a2.s;rw [e3] at s1;omega
theorem extP_ids {O A : List Int} (hA : A.length=c.frm.length) (h : ∀ i : Nat,i<A.length→A.getD i default=-1∨∃ x : Nat,x<c.idn.length∧c.idn.getD x default=i∧A.getD i default=ix d.idn (O.getD x default)) :
  extP c d once O (List.replicate c.frm.length (-1))=extP c d once O A :=
 extP_congr fun P hP _=>⟨fun _ i hi=>(h i hi).imp id fun ⟨x,hx,e1,e2⟩=>by
  have:=hP.idn x hx;rw [e1,ix_nat] at this;rw [this,e2],fun _=>extP_free _⟩
theorem FU.Is.funL {k : FU} (h : k.Is) : FunL k.src k.tgt k.ob k.ar:=by
 have hal:=h.fit.al;refine ⟨hal,fun i hi=>?_,h.laws.idn,fun a b t ha hb e=>?_⟩
 ·have:=h.laws.ends i hi
  have hr:=h.fit.arr _ (mem_getD.mpr ⟨i,(by omega : i<k.ar.length),rfl⟩);exact ⟨⟨hr.1,by omega⟩,this.1,this.2⟩
 ·have:=h.laws.comp a b ha hb (th_meets h.sI ha hb (by omega));rw [e,ix_nat] at this;exact this
theorem funL_is (hc : c.Is) (hd : d.Is) {O P : List Int} (hO : (O.length : Int)=c.objs) (hr : ∀ y,y∈O→0≤y∧y<d.objs) (h : FunL c d O P) : FU.Is ⟨c,d,O,P⟩:=by
 refine ⟨hc,hd,⟨hO,h.len,hr,fun y hy=>?_⟩,⟨fun a ha=>?_,h.idn,fun a b ha hb e=>?_⟩⟩
 ·obtain ⟨i,hi,rfl⟩:=mem_getD.mp hy
  have:=(h.par i (by rw [← h.len]; exact hi)).r;exact ⟨this.1,by show P.getD i default<((d.frm.length : Nat) : Int); omega⟩
 ·have:=h.par a ha;exact ⟨this.s,this.t⟩
 ·have:=hc.1.yes a b ha hb e
  obtain ⟨t,ht⟩ : ∃ t : Nat,(c.comp.getD a default).getD b default=t:=⟨_,(Int.toNat_of_nonneg this.1.1).symm⟩
  show ix P ((c.comp.getD a default).getD b default)=_
  rw [ht,ix_nat,h.comp a b t ha hb ht]; rfl
theorem mem_allF (hc : c.Is) (hd : d.Is) {k : FU} : k∈allF c d once↔k.src=c∧k.tgt=d∧k.Is∧(once=true→DistA k.ar):=by
 have ho:=hc.1.o;rw [allF,mem_fnsP]
 constructor
 ·rintro ⟨O',P,h0,h1,h2,h3,rfl⟩;rw [List.nil_append] at h2 ⊢;exact ⟨rfl,rfl,funL_is hc hd (by omega) h1 h2,h3⟩
 ·obtain ⟨c',d',O,P⟩:=k
  rintro ⟨rfl,rfl,h1,h2⟩
  have hl:=h1.fit.ol;exact ⟨O,P,by simp only at hl ⊢; omega,h1.fit.obr,h1.funL,h2,rfl⟩
end
def colF {α : Type} (most : Nat) (L l : List α) : List α:=(L++l).take (most+1)
theorem colF_nil {most : Nat} {α : Type} {L : List α} (h : L.length≤most+1) : colF most L []=L:=by rw [colF,List.append_nil,List.take_of_length_le h]
theorem colF_app {most : Nat} {α : Type} {L l l' : List α} (h : (L++l).length≤most) : colF most L (l++l')=colF most (L++l) l':=by rw [colF,colF,List.append_assoc]
theorem colF_stop {most : Nat} {α : Type} {L l l' : List α} (h : most<(L++l).length) : colF most L (l++l')=colF most L l:=by
 rw [colF,colF,← List.append_assoc,List.take_append_of_le_length (by omega)]
theorem colF_all {most : Nat} {α : Type} {L l : List α} (h : (L++l).length≤most) : colF most L l=L++l:=by rw [colF,List.take_of_length_le (by omega)]
end Go.Shf
namespace Go.Shf
open Go.AW
def FU.thn (f g : FU) : FU:=⟨f.src,g.tgt,thenL f.ob g.ob,thenL f.ar g.ar⟩
section
variable {f g : FU} {x y a b : Int}
theorem FU.Is.arA (h : f.Is) (u : f.src.Ar a x y) : f.tgt.Ar (ix f.ar a) (ix f.ob x) (ix f.ob y):=by
 have h1:=h.arAt u.r
 have h2:=h.endsAt u.r;rw [u.s,u.t] at h2;exact ⟨h1.2,h2.1,h2.2⟩
theorem FU.Is.obA (h : f.Is) (hx : 0≤x∧x<f.src.objs) : 0≤ix f.ob x∧ix f.ob x<f.tgt.objs:=(h.obAt hx).2
theorem FU.Is.thA {z : Int} (h : f.Is) (u : f.src.Ar a x y) (v : f.src.Ar b y z) : ix f.ar (f.src.th a b)=f.tgt.th (ix f.ar a) (ix f.ar b):=h.compAt u.r v.r (u.t.trans v.s.symm)
theorem FU.Is.invA (h : f.Is) (i : f.src.Inv a b x y) : f.tgt.Inv (ix f.ar a) (ix f.ar b) (ix f.ob x) (ix f.ob y):=by
 refine ⟨h.arA i.a,h.arA i.b, ?_, ?_⟩
 ·rw [← h.thA i.a i.b,i.l,h.idAt (i.a.src h.sI)]
 ·rw [← h.thA i.b i.a,i.r,h.idAt (i.a.tgt h.sI)]
theorem FU.Full.at (h : f.Full) (hx : 0≤x∧x<f.src.objs) (hy : 0≤y∧y<f.src.objs) (u : f.tgt.Ar b (ix f.ob x) (ix f.ob y)) : ∃ a,f.src.Ar a x y∧ix f.ar a=b:=by
 obtain ⟨a,h1,h2⟩:=List.mem_map.mp (h x y hx hy b (ar_hom.mpr u));exact ⟨a,ar_hom.mp h1,h2⟩
theorem FU.Full.mk (h : ∀ x y b,(0≤x∧x<f.src.objs)→(0≤y∧y<f.src.objs)→f.tgt.Ar b (ix f.ob x) (ix f.ob y)→∃ a,f.src.Ar a x y∧ix f.ar a=b) : f.Full:=fun x y hx hy b hb=>by
 obtain ⟨a,h1,h2⟩:=h x y b hx hy (ar_hom.mp hb);exact List.mem_map.mpr ⟨a,ar_hom.mpr h1,h2⟩
theorem FU.Faith.at (h : f.Faith) (u : f.src.Ar a x y) (v : f.src.Ar b x y) (e : ix f.ar a=ix f.ar b) : a=b:=h a b u.r v.r e (u.s.trans v.s.symm) (u.t.trans v.t.symm)
theorem FU.Faith.mk (h : ∀ a b x y,f.src.Ar a x y→f.src.Ar b x y→ix f.ar a=ix f.ar b→a=b) : f.Faith:=fun a b ha hb e e1 e2=>h a b _ _ (ar_self ha) ⟨hb,e1.symm,e2.symm⟩ e
theorem thn_ob (hf : f.Is) (hx : 0≤x∧x<f.src.objs) : ix (f.thn g).ob x=ix g.ob (ix f.ob x):=ix_map _ (hf.obAt hx).1
theorem thn_ar (hf : f.Is) (ha : 0≤a∧a.toNat<f.src.frm.length) : ix (f.thn g).ar a=ix g.ar (ix f.ar a):=ix_map _ (hf.arAt ha).1
theorem thn_is (hf : f.Is) (hg : g.Is) (e : f.tgt=g.src) : (f.thn g).Is:=by
 refine fu_mk hf.sI hg.tI (by simp [FU.thn,thenL]; exact hf.fit.ol) (by simp [FU.thn,thenL]; exact hf.fit.al) (fun x hx=>?_) (fun a x y u=>?_) (fun x hx=>?_) fun a b x y z u v=>?_
 ·rw [thn_ob hf hx]; exact hg.obA (by rw [← e]; exact hf.obA hx)
 ·rw [thn_ar hf u.r,thn_ob hf (u.src hf.sI),thn_ob hf (u.tgt hf.sI)];exact hg.arA (by rw [← e]; exact hf.arA u)
 ·have hx' : 0≤x∧x<f.src.objs:=hx
  show ix (f.thn g).ar (ix f.src.idn x)=ix g.tgt.idn _
  rw [thn_ar hf (hf.sI.idA hx').r,thn_ob hf hx',hf.idAt hx',e,hg.idAt (by rw [← e]; exact hf.obA hx')]
 ·have u : f.src.Ar a x y:=u
  have v : f.src.Ar b y z:=v
  show ix (f.thn g).ar (f.src.th a b)=g.tgt.th _ _
  rw [thn_ar hf (u.comp hf.sI v).r,thn_ar hf u.r,thn_ar hf v.r,hf.thA u v,e,hg.thA (by rw [← e]; exact hf.arA u) (by rw [← e]; exact hf.arA v)]
theorem thn_full (hf : f.Is) (e : f.tgt=g.src) (h : f.Full) (k : g.Full) : (f.thn g).Full:=.mk fun x y b hx hy u=>by
 rw [thn_ob hf hx,thn_ob hf hy] at u
 obtain ⟨c,h1,h2⟩:=k.at (by rw [← e]; exact hf.obA hx) (by rw [← e]; exact hf.obA hy) u;rw [← e] at h1
 obtain ⟨a,h3,h4⟩:=h.at hx hy h1;exact ⟨a,h3,by rw [thn_ar hf h3.r,h4,h2]⟩
theorem thn_faith (hf : f.Is) (e : f.tgt=g.src) (h : f.Faith) (k : g.Faith) : (f.thn g).Faith:=.mk fun a b x y u v q=>by
 have u : f.src.Ar a x y:=u
 have v : f.src.Ar b x y:=v;rw [thn_ar hf u.r,thn_ar hf v.r] at q;exact h.at u v (k.at (by rw [← e]; exact hf.arA u) (by rw [← e]; exact hf.arA v) q)
theorem mem_ob (hf : f.Is) : y∈f.ob↔∃ x,(0≤x∧x<f.src.objs)∧ix f.ob x=y:=by
 have hl:=hf.fit.ol
 constructor
 ·intro h
  obtain ⟨i,hi,rfl⟩:=mem_getD.mp h;exact ⟨i,by omega,ix_nat _ _⟩
 ·rintro ⟨x,hx,rfl⟩; exact ix_mem (hf.obAt hx).1
theorem thn_ess (hf : f.Is) (hg : g.Is) (e : f.tgt=g.src) (h : f.Ess) (k : g.Ess) : (f.thn g).Ess:=fun y hy=>by
 obtain ⟨z,hz,iz⟩:=k y hy
 obtain ⟨w,hw,rfl⟩:=(mem_ob hg).mp hz
 obtain ⟨v,hv,p,q,iv⟩:=h w (by rw [e]; exact hw)
 obtain ⟨x,hx,rfl⟩:=(mem_ob hf).mp hv;rw [e] at iv
 have:=hg.invA iv;refine ⟨ix (f.thn g).ob x,(mem_ob (thn_is hf hg e)).mpr ⟨x,hx,rfl⟩, ?_⟩;rw [thn_ob hf hx];exact IsoO.trans hg.tI ⟨_,_,this⟩ iz
theorem iso_back (hf : f.Is) (h : f.Full) (k : f.Faith) (hx : 0≤x∧x<f.src.objs) (hy : 0≤y∧y<f.src.objs) (i : f.tgt.Inv a b (ix f.ob x) (ix f.ob y)) : ∃ p q,f.src.Inv p q x y∧ix f.ar p=a∧ix f.ar q=b:=by
 obtain ⟨p,u,rfl⟩:=h.at hx hy i.a
 obtain ⟨q,v,rfl⟩:=h.at hy hx i.b;refine ⟨p,q,⟨u,v,k.at (u.comp hf.sI v) (hf.sI.idA hx) ?_,k.at (v.comp hf.sI u) (hf.sI.idA hy) ?_⟩,rfl,rfl⟩
 ·rw [hf.thA u v,i.l,hf.idAt hx]
 ·rw [hf.thA v u,i.r,hf.idAt hy]
theorem nodup_len {l : List Int} {n : Nat} (h : l.Nodup) (hm : ∀ y,y∈l↔0≤y∧y<(n : Int)) : l.length=n:=by
 have : l.Perm (idL n):=(List.perm_ext_iff_of_nodup h (idL_nodup n)).mpr fun y=>by
  rw [hm,idL,List.mem_map]
  constructor
  ·intro h; exact ⟨y.toNat,List.mem_range.mpr (by omega),Int.toNat_of_nonneg h.1⟩
  ·rintro ⟨i,hi,rfl⟩
   have:=List.mem_range.mp hi;exact ⟨Int.natCast_nonneg i,by show (i : Int)<n; omega⟩
 rw [this.length_eq,idL_len]
theorem nodup_of {l : List Int} (h : ∀ i j : Nat,i<l.length→j<l.length→l.getD i default=l.getD j default→i=j) : l.Nodup:=by
 rw [List.Nodup,List.pairwise_iff_getElem]
 intro i j hi hj hij e
 have:=h i j hi hj (by rw [List.getD_eq_getElem?_getD,List.getD_eq_getElem?_getD,List.getElem?_eq_getElem hi,List.getElem?_eq_getElem hj,e]);omega
end
theorem skel_iso {k : FU} (hk : k.Is) (h1 : k.Full) (h2 : k.Faith) (h3 : k.Ess) :
  (skS k.src).objs=(skS k.tgt).objs∧(skS k.src).frm.length=(skS k.tgt).frm.length∧∃ G,G∈allF (skS k.src) (skS k.tgt) true:=by
 have hA:=hk.sI
 have hB:=hk.tI
 have e1 : (skE k.src).tgt=k.src:=rfl
 have i1:=thn_is (skE_is hA) hk rfl
 have f1:=thn_full (skE_is hA) (g:=k) rfl (skE_full hA) h1
 have g1:=thn_faith (skE_is hA) (g:=k) rfl skE_faith h2
 have s1:=thn_ess (skE_is hA) hk rfl (skE_ess hA) h3
 have i2:=thn_is i1 (skF_is hB) rfl
 have f2:=thn_full i1 (g:=skF k.tgt) rfl f1 (skF_full hB)
 have g2:=thn_faith i1 (g:=skF k.tgt) rfl g1 (skF_faith hB)
 have s2:=thn_ess i1 (skF_is hB) rfl s1 (skF_ess hB)
 generalize hG : ((skE k.src).thn k).thn (skF k.tgt)=G at *
 have es : G.src=skS k.src:=by rw [← hG]; rfl
 have et : G.tgt=skS k.tgt:=by rw [← hG]; rfl
 have oS:=i2.sI.1.o
 have oT:=i2.tI.1.o
 have hol:=i2.fit.ol
 have hal:=i2.fit.al
 have inj : ∀ x y,(0≤x∧x<G.src.objs)→(0≤y∧y<G.src.objs)→ix G.ob x=ix G.ob y→x=y:=fun x y hx hy e=>by
  have i:=Cat.Inv.id i2.tI (i2.obA hx)
  have i' : G.tgt.Inv (ix G.tgt.idn (ix G.ob x)) (ix G.tgt.idn (ix G.ob x)) (ix G.ob x) (ix G.ob y):=by rw [← e]; exact i
  obtain ⟨p,q,j,_⟩:=iso_back i2 f2 g2 hx hy i'
  have:=(repO_iff i2.sI hx hy).mpr ⟨p,q,j⟩;rw [es] at this hx hy
  rwa [repO_S hA hx,repO_S hA hy] at this
 have sur : ∀ y,0≤y∧y<G.tgt.objs→∃ x,(0≤x∧x<G.src.objs)∧ix G.ob x=y:=fun y hy=>by
  obtain ⟨z,hz,iz⟩:=s2 y hy
  obtain ⟨x,hx,rfl⟩:=(mem_ob i2).mp hz;refine ⟨x,hx, ?_⟩
  have ho:=i2.obA hx
  have:=(repO_iff i2.tI ho hy).mpr iz;rw [et] at this ho hy
  rwa [repO_S hB ho,repO_S hB hy] at this
 have n1 : G.ob.length=G.tgt.objs.toNat:=nodup_len (nodup_of fun i j hi hj e=>by
  have:=inj i j (by omega) (by omega) (by rw [ix_nat,ix_nat]; exact e)
  omega) fun y=>by
   rw [mem_ob i2]
   constructor
   ·rintro ⟨x,hx,rfl⟩; have:=i2.obA hx; omega
   ·intro h; exact sur y (by omega)
 have dst : DistA G.ar:=fun i j hi hj _ e=>by
  have u:=ar_self (c:=G.src) (f:=(i : Int)) (by omega)
  have v:=ar_self (c:=G.src) (f:=(j : Int)) (by omega)
  have iu:=i2.arA u
  have iv:=i2.arA v;rw [ix_nat (l:=G.ar),e] at iu;rw [ix_nat (l:=G.ar)] at iv
  have e1:=inj _ _ (u.src i2.sI) (v.src i2.sI) (iu.s.symm.trans iv.s)
  have e2:=inj _ _ (u.tgt i2.sI) (v.tgt i2.sI) (iu.t.symm.trans iv.t)
  have:=g2 i j u.r v.r (by rw [ix_nat,ix_nat]; exact e) e1 e2;omega
 have n2 : G.ar.length=G.tgt.frm.length:=nodup_len (nodup_of fun i j hi hj e=>by
  have u:=i2.fit.arr _ (mem_getD.mpr ⟨i,hi,rfl⟩)
  exact dst i j hi hj u.1 e) fun y=>by
   constructor
   ·intro h; exact i2.fit.arr y h
   ·intro h
    have u:=ar_self (c:=G.tgt) (f:=y) (by omega)
    obtain ⟨x1,hx1,e1⟩:=sur _ (u.src i2.tI)
    obtain ⟨x2,hx2,e2⟩:=sur _ (u.tgt i2.tI);rw [← e1,← e2] at u
    obtain ⟨a,v,rfl⟩:=f2.at hx1 hx2 u;exact ix_mem (by have:=v.r; omega)
 refine ⟨by rw [← es,← et]; omega,by rw [← es,← et]; omega,G, ?_⟩;exact (mem_allF (skS_is hA) (skS_is hB)).mpr ⟨es,et,i2,fun _=>dst⟩
end Go.Shf
namespace Go.Shf
open Go.AW
def resF (k : FU) (xs ys : List Int) : FU:=⟨part k.src xs,part k.tgt ys,xs.map fun x=>indexOf ys (ix k.ob x),(fullA k.src xs).map fun f=>indexOf (fullA k.tgt ys) (ix k.ar f)⟩
section
variable {k : FU} {xs ys : List Int} {x y i f : Int}
theorem part_ran {c : Cat} (s : Sel c xs) (h : c.Is) {f x y : Int} (a : (part c xs).Ar f x y) : (0≤x∧x.toNat<xs.length)∧(0≤y∧y.toNat<xs.length):=by
 have h1:=a.src (part_is s h)
 have h2:=a.tgt (part_is s h);simp only [part] at h1 h2;omega
theorem part_inv {c : Cat} (s : Sel c xs) (h : c.Is) {p q x y : Int} (hx : 0≤x∧x.toNat<xs.length) (hy : 0≤y∧y.toNat<xs.length) (i : c.Inv p q (ix xs x) (ix xs y)) : IsoO (part c xs) x y:=by
 have mx:=ix_mem hx.2
 have my:=ix_mem hy.2
 have a:=ar_part s i.a mx my
 have b:=ar_part s i.b my mx;rw [indexOf_ix s.1 hx,indexOf_ix s.1 hy] at a b
 have p1:=part_comp s h hx hy hx a.2 b.2
 have p2:=part_comp s h hy hx hy b.2 a.2;rw [idx_ix a.1,idx_ix b.1] at p1 p2
 have r1:=((part_ar s hx hx).mp p1.1).1
 have r2:=((part_ar s hy hy).mp p2.1).1
 have j1:=(part_is s h).idA (x:=x) (by simp only [part]; omega)
 have j2:=(part_is s h).idA (x:=y) (by simp only [part]; omega);refine ⟨_,_,a.2,b.2, ?_, ?_⟩
 ·refine fullA_inj r1 ((part_ar s hx hx).mp j1).1 ?_;rw [p1.2,part_id s h hx,i.l]
 ·refine fullA_inj r2 ((part_ar s hy hy).mp j2).1 ?_;rw [p2.2,part_id s h hy,i.r]
theorem res_ob (hm : ∀ x,x∈xs→ix k.ob x∈ys) (hi : 0≤i∧i.toNat<xs.length) : (0≤ix (resF k xs ys).ob i∧(ix (resF k xs ys).ob i).toNat<ys.length)∧ix ys (ix (resF k xs ys).ob i)=ix k.ob (ix xs i):=by
 have e : ix (resF k xs ys).ob i=indexOf ys (ix k.ob (ix xs i)):=ix_map _ hi.2
 have:=indexOf_in (hm _ (ix_mem hi.2));rw [e];exact ⟨⟨this.1,by omega⟩,idx_ix (hm _ (ix_mem hi.2))⟩
theorem res_ar (hk : k.Is) (s1 : Sel k.src xs) (s2 : Sel k.tgt ys) (hm : ∀ x,x∈xs→ix k.ob x∈ys) (a : (part k.src xs).Ar f x y) :
  (part k.tgt ys).Ar (ix (resF k xs ys).ar f) (ix (resF k xs ys).ob x) (ix (resF k xs ys).ob y)∧ix (fullA k.tgt ys) (ix (resF k xs ys).ar f)=ix k.ar (ix (fullA k.src xs) f):=by
 have r:=part_ran s1 hk.sI a
 have u:=(part_ar s1 r.1 r.2).mp a
 have e : ix (resF k xs ys).ar f=indexOf (fullA k.tgt ys) (ix k.ar (ix (fullA k.src xs) f)):=ix_map _ u.1.2
 have hx:=res_ob hm r.1
 have hy:=res_ob hm r.2
 have v:=ar_part s2 (hk.arA u.2) (hm _ (ix_mem r.1.2)) (hm _ (ix_mem r.2.2));rw [e,← hx.2,← hy.2,indexOf_ix s2.1 hx.1,indexOf_ix s2.1 hy.1] at *;exact ⟨v.2,idx_ix v.1⟩
theorem res_is (hk : k.Is) (s1 : Sel k.src xs) (s2 : Sel k.tgt ys) (hm : ∀ x,x∈xs→ix k.ob x∈ys) : (resF k xs ys).Is:=by
 refine fu_mk (part_is s1 hk.sI) (part_is s2 hk.tI) (by simp [resF,part]) (by simp [resF,part]) (fun x hx=>?_) (fun f x y a=>(res_ar hk s1 s2 hm a).1) (fun x hx=>?_) fun f g x y z a b=>?_
 ·simp only [resF,part] at hx
  have:=(res_ob (k:=k) (xs:=xs) (ys:=ys) hm (i:=x) (by omega)).1;refine ⟨this.1, ?_⟩
  show _<((ys.length : Nat) : Int)
  omega
 ·have hx' : 0≤x∧x.toNat<xs.length:=by simp only [resF,part] at hx; omega
  have i1:=(part_is s1 hk.sI).idA (x:=x) hx
  have h1:=res_ar hk s1 s2 hm i1
  have ho:=res_ob hm hx'
  have i2:=(part_is s2 hk.tI).idA (x:=ix (resF k xs ys).ob x) (by simp only [part]; omega);refine fullA_inj ((part_ar s2 ho.1 ho.1).mp h1.1).1 ((part_ar s2 ho.1 ho.1).mp i2).1 ?_;refine h1.2.trans ?_;rw [part_id s1 hk.sI hx',hk.idAt (s1.2 _ (ix_mem hx'.2)),← ho.2];exact (part_id s2 hk.tI ho.1).symm
 ·have a' : (part k.src xs).Ar f x y:=a
  have b' : (part k.src xs).Ar g y z:=b
  have ra:=part_ran s1 hk.sI a'
  have rb:=part_ran s1 hk.sI b'
  have ua:=(part_ar s1 ra.1 ra.2).mp a'
  have ub:=(part_ar s1 rb.1 rb.2).mp b'
  have pc:=part_comp s1 hk.sI ra.1 ra.2 rb.2 a' b'
  have hx:=res_ob hm ra.1
  have hy:=res_ob hm ra.2
  have hz:=res_ob hm rb.2
  have k1:=res_ar hk s1 s2 hm a'
  have k2:=res_ar hk s1 s2 hm b'
  have k3:=res_ar hk s1 s2 hm pc.1
  have pd:=part_comp s2 hk.tI hx.1 hy.1 hz.1 k1.1 k2.1;refine fullA_inj ((part_ar s2 hx.1 hz.1).mp k3.1).1 ((part_ar s2 hx.1 hz.1).mp pd.1).1 ?_;refine k3.2.trans ?_;rw [pc.2,hk.thA ua.2 ub.2,← k1.2,← k2.2];exact pd.2.symm
theorem res_full (hk : k.Is) (s1 : Sel k.src xs) (s2 : Sel k.tgt ys) (hm : ∀ x,x∈xs→ix k.ob x∈ys)
  (h : ∀ x y b,x∈xs→y∈xs→k.tgt.Ar b (ix k.ob x) (ix k.ob y)→∃ a,k.src.Ar a x y∧ix k.ar a=b) : (resF k xs ys).Full:=.mk fun x y b hx hy u=>by
 have hx' : 0≤x∧x.toNat<xs.length:=by simp only [resF,part] at hx; omega
 have hy' : 0≤y∧y.toNat<xs.length:=by simp only [resF,part] at hy; omega
 have ox:=res_ob hm hx'
 have oy:=res_ob hm hy'
 have v:=(part_ar s2 ox.1 oy.1).mp u;rw [ox.2,oy.2] at v
 obtain ⟨a,h1,h2⟩:=h _ _ _ (ix_mem hx'.2) (ix_mem hy'.2) v.2
 have w:=ar_part s1 h1 (ix_mem hx'.2) (ix_mem hy'.2);rw [indexOf_ix s1.1 hx',indexOf_ix s1.1 hy'] at w;refine ⟨_,w.2, ?_⟩
 have q:=res_ar hk s1 s2 hm w.2;refine fullA_inj ((part_ar s2 ox.1 oy.1).mp q.1).1 v.1 ?_;rw [q.2,idx_ix w.1,h2]
theorem res_faith (hk : k.Is) (s1 : Sel k.src xs) (s2 : Sel k.tgt ys) (hm : ∀ x,x∈xs→ix k.ob x∈ys)
  (h : ∀ x y a b,x∈xs→y∈xs→k.src.Ar a x y→k.src.Ar b x y→ix k.ar a=ix k.ar b→a=b) : (resF k xs ys).Faith:=.mk fun a b x y u v e=>by
 have u : (part k.src xs).Ar a x y:=u
 have v : (part k.src xs).Ar b x y:=v
 have r:=part_ran s1 hk.sI u
 have u':=(part_ar s1 r.1 r.2).mp u
 have v':=(part_ar s1 r.1 r.2).mp v;refine fullA_inj u'.1 v'.1 (h _ _ _ _ (ix_mem r.1.2) (ix_mem r.2.2) u'.2 v'.2 ?_);rw [← (res_ar hk s1 s2 hm u).2,← (res_ar hk s1 s2 hm v).2,e]
theorem res_ess (hk : k.Is) (s1 : Sel k.src xs) (s2 : Sel k.tgt ys) (hm : ∀ x,x∈xs→ix k.ob x∈ys)
  (h : ∀ y,y∈ys→∃ x,x∈xs∧IsoO k.tgt (ix k.ob x) y) : (resF k xs ys).Ess:=fun y hy=>by
 have hy' : 0≤y∧y.toNat<ys.length:=by simp only [resF,part] at hy; omega
 obtain ⟨x,hx,p,q,i⟩:=h _ (ix_mem hy'.2)
 have hi:=indexOf_in hx
 have hx' : 0≤indexOf xs x∧(indexOf xs x).toNat<xs.length:=⟨hi.1,by omega⟩
 have o:=res_ob hm hx';refine ⟨ix (resF k xs ys).ob (indexOf xs x),(mem_ob (res_is hk s1 s2 hm)).mpr ⟨_, ?_,rfl⟩,part_inv s2 hk.tI (p:=p) (q:=q) o.1 hy' ?_⟩
 ·simp only [resF,part]; omega
 ·rw [o.2,idx_ix hx]; exact i
end
structure NatF (f g : FU) (t : List Int) : Prop where
 len : (t.length : Int)=f.src.objs
 ar : ∀ x,0≤x∧x<f.src.objs→f.tgt.Ar (ix t x) (ix f.ob x) (ix g.ob x)
 nat : ∀ a x y,f.src.Ar a x y→f.tgt.th (ix f.ar a) (ix t y)=f.tgt.th (ix t x) (ix g.ar a)
structure AJ where
 l : FU
 r : FU
 u : List Int
 v : List Int
 deriving Inhabited
@[go_sem] def AJ.cells (a : AJ) : List AV:=a.l.cells++(a.r.cells++[iL a.u,iL a.v])
structure AJ.Is (a : AJ) : Prop where
 lI : a.l.Is
 rI : a.r.Is
 e1 : a.r.tgt=a.l.src
 e2 : a.r.src=a.l.tgt
 un : NatF (idF a.l.src) (a.l.thn a.r) a.u
 vn : NatF (a.r.thn a.l) (idF a.l.tgt) a.v
 t1 : ∀ x,0≤x∧x<a.l.src.objs→a.l.tgt.th (ix a.l.ar (ix a.u x)) (ix a.v (ix a.l.ob x))=ix a.l.tgt.idn (ix a.l.ob x)
 t2 : ∀ y,0≤y∧y<a.l.tgt.objs→a.l.src.th (ix a.u (ix a.r.ob y)) (ix a.r.ar (ix a.v y))=ix a.l.src.idn (ix a.r.ob y)
def isoL (c : Cat) (t : List Int) : List Int:=nats (fun x=>decide (0≤invF c (t.getD x default))) t.length
theorem mem_isoL {c : Cat} {t : List Int} {x : Int} : x∈isoL c t↔(0≤x∧x.toNat<t.length)∧0≤invF c (ix t x):=by
 rw [isoL,mem_nats,decide_eq_true_iff,and_assoc]; rfl
theorem isoL_nodup {c : Cat} {t : List Int} : (isoL c t).Nodup:=(rising_pw.mp (nats_rising _ _)).imp fun {a b} h=>by omega
section
variable {a : AJ} {x y z f g p q : Int}
theorem AJ.Is.ro (h : a.Is) (hy : 0≤y∧y<a.l.tgt.objs) : 0≤ix a.r.ob y∧ix a.r.ob y<a.l.src.objs:=by have:=h.rI.obA (x:=y) (by rw [h.e2]; exact hy); rwa [h.e1] at this
theorem AJ.Is.ra (h : a.Is) (k : a.l.tgt.Ar g y z) : a.l.src.Ar (ix a.r.ar g) (ix a.r.ob y) (ix a.r.ob z):=by have:=h.rI.arA (a:=g) (by rw [h.e2]; exact k); rwa [h.e1] at this
theorem AJ.Is.rt {w : Int} (h : a.Is) (k : a.l.tgt.Ar f y z) (m : a.l.tgt.Ar g z w) : ix a.r.ar (a.l.tgt.th f g)=a.l.src.th (ix a.r.ar f) (ix a.r.ar g):=by
 have:=h.rI.thA (a:=f) (b:=g) (by rw [h.e2]; exact k) (by rw [h.e2]; exact m)
 rwa [h.e1,h.e2] at this
theorem AJ.Is.ri (h : a.Is) (hy : 0≤y∧y<a.l.tgt.objs) : ix a.r.ar (ix a.l.tgt.idn y)=ix a.l.src.idn (ix a.r.ob y):=by
 have:=h.rI.idAt (x:=y) (by rw [h.e2]; exact hy)
 rwa [h.e1,h.e2] at this
theorem AJ.Is.rinv (h : a.Is) (i : a.l.tgt.Inv p q y z) : a.l.src.Inv (ix a.r.ar p) (ix a.r.ar q) (ix a.r.ob y) (ix a.r.ob z):=by
 have:=h.rI.invA (a:=p) (b:=q) (by rw [h.e2]; exact i)
 rwa [h.e1] at this
theorem AJ.Is.ua (h : a.Is) (hx : 0≤x∧x<a.l.src.objs) : a.l.src.Ar (ix a.u x) x (ix a.r.ob (ix a.l.ob x)):=by
 have:=h.un.ar x hx;rw [thn_ob h.lI hx] at this
 have e : ix (idF a.l.src).ob x=x:=idL_ix (by omega);rw [e] at this; exact this
theorem AJ.Is.va (h : a.Is) (hy : 0≤y∧y<a.l.tgt.objs) : a.l.tgt.Ar (ix a.v y) (ix a.l.ob (ix a.r.ob y)) y:=by
 have hy' : 0≤y∧y<a.r.src.objs:=by rw [h.e2]; exact hy
 have:=h.vn.ar y hy';rw [thn_ob h.rI hy'] at this
 have e : ix (idF a.l.tgt).ob y=y:=idL_ix (by omega);rw [e] at this; exact this
theorem AJ.Is.unat (h : a.Is) (k : a.l.src.Ar f x y) : a.l.src.th f (ix a.u y)=a.l.src.th (ix a.u x) (ix a.r.ar (ix a.l.ar f)):=by
 have:=h.un.nat f x y k;rw [thn_ar h.lI k.r] at this
 have e : ix (idF a.l.src).ar f=f:=idL_ix k.r;rw [e] at this; exact this
theorem AJ.Is.vnat (h : a.Is) (k : a.l.tgt.Ar g y z) : a.l.tgt.th (ix a.l.ar (ix a.r.ar g)) (ix a.v z)=a.l.tgt.th (ix a.v y) g:=by
 have k' : a.r.src.Ar g y z:=by rw [h.e2]; exact k
 have:=h.vn.nat g y z k';rw [thn_ar h.rI k'.r] at this
 have e : ix (idF a.l.tgt).ar g=g:=idL_ix k.r;rw [e] at this; exact this
theorem Cat.Inv.canl {c : Cat} (hc : c.Is) (i : c.Inv p q x y) (k : c.Ar f y z) (m : c.Ar g y z) (e : c.th p f=c.th p g) : f=g:=by
 rw [← k.idl hc,← m.idl hc,← i.r,i.b.assoc hc i.a k,i.b.assoc hc i.a m,e]
theorem Cat.Inv.canr {c : Cat} (hc : c.Is) (i : c.Inv p q y z) (k : c.Ar f x y) (m : c.Ar g x y) (e : c.th f p=c.th g p) : f=g:=by
 rw [← k.idr hc,← m.idr hc,← i.l,← k.assoc hc i.a i.b,← m.assoc hc i.a i.b,e]
theorem AJ.Is.vL (h : a.Is) (hx : 0≤x∧x<a.l.src.objs) (i : a.l.src.Inv (ix a.u x) q x (ix a.r.ob (ix a.l.ob x))) : ix a.v (ix a.l.ob x)=ix a.l.ar q:=by
 have j:=h.lI.invA i;refine j.canl h.lI.tI (h.va (h.lI.obA hx)) j.b ?_;rw [h.t1 x hx,j.l]
theorem AJ.Is.uR (h : a.Is) (hy : 0≤y∧y<a.l.tgt.objs) (i : a.l.tgt.Inv (ix a.v y) q (ix a.l.ob (ix a.r.ob y)) y) : ix a.u (ix a.r.ob y)=ix a.r.ar q:=by
 have j:=h.rinv i;refine j.canr h.lI.sI (h.ua (h.ro hy)) j.b ?_;rw [h.t2 y hy,j.r]
theorem AJ.Is.selX (h : a.Is) : Sel a.l.src (isoL a.l.src a.u):=⟨isoL_nodup,fun x hx=>by
 have:=(mem_isoL.mp hx).1
 have hl:=h.un.len
 have : (a.u.length : Int)=a.l.src.objs:=hl;omega⟩
theorem AJ.Is.selY (h : a.Is) : Sel a.l.tgt (isoL a.l.tgt a.v):=⟨isoL_nodup,fun x hx=>by
 have:=(mem_isoL.mp hx).1
 have : (a.v.length : Int)=a.l.tgt.objs:=h.vn.len.trans (by rw [show (a.r.thn a.l).src=a.r.src from rfl,h.e2]);omega⟩
theorem AJ.Is.isoX (h : a.Is) (hx : 0≤x∧x<a.l.src.objs) : x∈isoL a.l.src a.u↔∃ q,a.l.src.Inv (ix a.u x) q x (ix a.r.ob (ix a.l.ob x)):=by
 have hl : (a.u.length : Int)=a.l.src.objs:=h.un.len;rw [mem_isoL,invF_iff (h.ua hx)];exact ⟨fun q=>q.2,fun q=>⟨by omega,q⟩⟩
theorem AJ.Is.isoY (h : a.Is) (hy : 0≤y∧y<a.l.tgt.objs) : y∈isoL a.l.tgt a.v↔∃ q,a.l.tgt.Inv (ix a.v y) q (ix a.l.ob (ix a.r.ob y)) y:=by
 have hl : (a.v.length : Int)=a.l.tgt.objs:=h.vn.len.trans (by rw [show (a.r.thn a.l).src=a.r.src from rfl,h.e2]);rw [mem_isoL,invF_iff (h.va hy)];exact ⟨fun q=>q.2,fun q=>⟨by omega,q⟩⟩
theorem AJ.Is.fixed (h : a.Is) : ∃ k : FU,k.src=part a.l.src (isoL a.l.src a.u)∧k.tgt=part a.l.tgt (isoL a.l.tgt a.v)∧k.Is∧k.Full∧k.Faith∧k.Ess:=by
 have hm : ∀ x,x∈isoL a.l.src a.u→ix a.l.ob x∈isoL a.l.tgt a.v:=fun x hx=>by
  have rx:=h.selX.2 x hx
  obtain ⟨q,i⟩:=(h.isoX rx).mp hx
  have j:=h.lI.invA i;refine (h.isoY (h.lI.obA rx)).mpr ⟨ix a.l.ar (ix a.u x), ?_⟩;rw [h.vL rx i]; exact j.symm
 refine ⟨resF a.l (isoL a.l.src a.u) (isoL a.l.tgt a.v),rfl,rfl,res_is h.lI h.selX h.selY hm,res_full h.lI h.selX h.selY hm fun x y b hx hy k=>?_,res_faith h.lI h.selX h.selY hm fun x y f g hx hy k m e=>?_,res_ess h.lI h.selX h.selY hm fun y hy=>?_⟩
 ·have rx:=h.selX.2 x hx
  have ry:=h.selX.2 y hy
  obtain ⟨q,i⟩:=(h.isoX ry).mp hy
  have k1:=h.ua rx
  have k2:=h.ra k
  have k3:=k1.comp h.lI.sI k2;refine ⟨a.l.src.th (a.l.src.th (ix a.u x) (ix a.r.ar b)) q,k3.comp h.lI.sI i.b, ?_⟩;rw [h.lI.thA k3 i.b,h.lI.thA k1 k2,← h.vL ry i,(h.lI.arA k1).assoc h.lI.tI (h.lI.arA k2) (h.va (h.lI.obA ry)),h.vnat k,← (h.lI.arA k1).assoc h.lI.tI (h.va (h.lI.obA rx)) k,h.t1 x rx,k.idl h.lI.tI]
 ·have ry:=h.selX.2 y hy
  obtain ⟨q,i⟩:=(h.isoX ry).mp hy;refine i.canr h.lI.sI k m ?_;rw [h.unat k,h.unat m,e]
 ·have ry:=h.selY.2 y hy
  obtain ⟨q,i⟩:=(h.isoY ry).mp hy
  have j:=h.rinv i;refine ⟨ix a.r.ob y,(h.isoX (h.ro ry)).mpr ⟨ix a.r.ar (ix a.v y), ?_⟩,_,_,i⟩;rw [h.uR ry i]; exact j.symm
theorem AJ.Is.refl_of (h : a.Is) (h1 : a.r.Full) (h2 : a.r.Faith) (hy : 0≤y∧y<a.l.tgt.objs) : y∈isoL a.l.tgt a.v:=by
 have hLy:=h.lI.obA (h.ro hy)
 have k:=h.ua (h.ro hy)
 obtain ⟨s,m,e⟩:=h1.at (x:=y) (y:=ix a.l.ob (ix a.r.ob y)) (by rw [h.e2]; exact hy) (by rw [h.e2]; exact hLy) (by rw [h.e1]; exact k);rw [h.e2] at m
 have v:=h.va hy;refine (h.isoY hy).mpr ⟨s,v,m, ?_, ?_⟩
 ·rw [← h.vnat m,e,h.t1 _ (h.ro hy)]
 ·have i1:=m.comp h.lI.tI v
  have i2:=h.lI.tI.idA hy;rw [← h.e2] at i1 i2
  have:=h2.at i1 i2 (by rw [h.e2,h.rt m v,e,h.t2 y hy,h.ri hy])
  rwa [h.e2] at this
theorem AJ.Is.refl_ff (h : a.Is) (ha : ∀ y,0≤y∧y<a.l.tgt.objs→y∈isoL a.l.tgt a.v) : a.r.Full∧a.r.Faith:=by
 constructor
 ·refine .mk fun y z b hy hz k=>?_;rw [h.e2] at hy hz;rw [h.e1] at k;rw [h.e2]
  obtain ⟨q,i⟩:=(h.isoY hy).mp (ha y hy)
  have k1:=h.lI.arA k
  have v:=h.va hz
  have k2:=i.b.comp h.lI.tI k1;refine ⟨a.l.tgt.th (a.l.tgt.th q (ix a.l.ar b)) (ix a.v z),k2.comp h.lI.tI v, ?_⟩;rw [h.rt k2 v,h.rt i.b k1,← h.uR hy i,← h.unat k,k.assoc h.lI.sI (h.ua (h.ro hz)) (h.ra v),h.t2 z hz,k.idr h.lI.sI]
 ·refine .mk fun f g y z k m e=>?_;rw [h.e2] at k m
  have hy:=k.src h.lI.tI
  obtain ⟨q,i⟩:=(h.isoY hy).mp (ha y hy);refine i.canl h.lI.tI k m ?_;rw [← h.vnat k,← h.vnat m,e]
theorem isoL_all {c : Cat} {t : List Int} : (isoL c t).length=t.length↔∀ y : Int,0≤y∧y.toNat<t.length→y∈isoL c t:=by
 have e : (isoL c t).length=((List.range t.length).filter fun x=>decide (0≤invF c (t.getD x default))).length:=by rw [isoL,nats,List.length_map]
 have n : (List.range t.length).length=t.length:=List.length_range
 have m:=List.length_filter_eq_length_iff (p:=fun x=>decide (0≤invF c (t.getD x default))) (l:=List.range t.length);rw [n] at m;rw [e];refine m.trans ?_
 constructor
 ·intro h y hy
  have:=h y.toNat (List.mem_range.mpr hy.2);exact mem_isoL.mpr ⟨hy,of_decide this⟩
 ·intro h x hx
  have:=(mem_isoL.mp (h (x : Int) (by have:=List.mem_range.mp hx; omega))).2;exact decide_eq_true this
theorem AJ.Is.reflection (h : a.Is) : (isoL a.l.tgt a.v).length=a.v.length↔a.r.Full∧a.r.Faith:=by
 have hl : (a.v.length : Int)=a.l.tgt.objs:=h.vn.len.trans (by rw [show (a.r.thn a.l).src=a.r.src from rfl,h.e2]);rw [isoL_all];exact ⟨fun q=>h.refl_ff fun y hy=>q y (by omega),fun q y hy=>h.refl_of q.1 q.2 (by omega)⟩
end
end Go.Shf
namespace Go.Shf
open Go.AW
def FnT (c d : Cat) (ob ar : List Int) : Prop:=TyA c d ob ar∧∀ i : Nat,i<c.frm.length→0≤ar.getD i default
theorem FnT.ar {c d : Cat} {ob ar : List Int} (h : FnT c d ob ar) {a : Int} (ha : c.ArR a) : TyE c d ob a (ix ar a):=by
 rcases h.1.ty a ha with q | q
 ·have:=h.2 a.toNat ha.2;rw [ix] at q;omega
 ·exact q
structure FuOk (k : FU) : Prop where
 s : k.src.Shape
 t : k.tgt.Shape
 o : TyO k.src k.tgt k.ob
 a : FnT k.src k.tgt k.ob k.ar
theorem FuOk.arI {k : FU} (h : FuOk k) {a : Int} (ha : k.src.ArR a) : 0≤a∧a.toNat<k.ar.length:=⟨ha.1,by rw [h.a.1.len]; exact ha.2⟩
theorem homC_ar {d : Cat} {x y v : Int} (hv : v∈homC d x y) : d.ArR v:=(homC_mem.mp hv).1
theorem homC_le {d : Cat} (hd : d.Shape) (x y : Int) : (homC d x y).length≤40:=by
 have h5:=hd.m
 have h6 : (homK d x y d.frm.length).length≤d.frm.length:=homK_len _ _ _;rw [homK_full] at h6; omega
def liftU (k : FU) (x y e due : Int) : List Int:=(homC k.src x y).filter fun u=>decide (ix (ix k.tgt.comp (ix k.ar u)) e=due)
def liftN (k : FU) (x y e due : Int) (n : Nat) : List Int:=((homC k.src x y).take n).filter fun u=>decide (ix (ix k.tgt.comp (ix k.ar u)) e=due)
theorem liftN_full {k : FU} {x y e due : Int} {n : Nat} (h : (homC k.src x y).length≤n) : liftN k x y e due n=liftU k x y e due:=by
 rw [liftN,liftU,List.take_of_length_le h]
theorem liftN_t {k : FU} {x y e due : Int} {n : Nat} (h : n<(homC k.src x y).length) (q : ix (ix k.tgt.comp (ix k.ar ((homC k.src x y).getD n default))) e=due) :
  liftN k x y e due (n+1)=liftN k x y e due n++[(homC k.src x y).getD n default]:=by
 rw [liftN,take_succ' _ h,List.filter_append,← liftN];refine congrArg (liftN k x y e due n++·) ?_;rw [List.filter_cons,if_pos (decide_eq_true q),List.filter_nil]
theorem liftN_f {k : FU} {x y e due : Int} {n : Nat} (h : n<(homC k.src x y).length) (q : ¬ ix (ix k.tgt.comp (ix k.ar ((homC k.src x y).getD n default))) e=due) :
  liftN k x y e due (n+1)=liftN k x y e due n:=by
 rw [liftN,take_succ' _ h,List.filter_append,← liftN,List.filter_cons,if_neg (by rw [decide_eq_false q]; simp),List.filter_nil,List.append_nil]
theorem liftN_len {k : FU} {x y e due : Int} {n : Nat} : (liftN k x y e due n).length≤n:=by
 have h1:=List.length_filter_le (fun u=>decide (ix (ix k.tgt.comp (ix k.ar u)) e=due)) ((homC k.src x y).take n);rw [List.length_take] at h1;rw [liftN]; omega
def UniZ (k : FU) (y x e : Int) (z : Nat) : Prop:=∀ j : Nat,j<(homC k.tgt (k.ob.getD z default) y).length→(liftU k z x e ((homC k.tgt (k.ob.getD z default) y).getD j default)).length=1
def Uni (k : FU) (y x e : Int) : Prop:=∀ z : Nat,z<k.src.objs.toNat→UniZ k y x e z
structure UniAt (k : FU) (y x e : Int) : Prop where
 ob : k.src.ObR x
 me : e∈homC k.tgt (ix k.ob x) y
 un : Uni k y x e
theorem UniAt.lift {k : FU} {y x e z h : Int} (u : UniAt k y x e) (hz : k.src.ObR z) (hh : h∈homC k.tgt (ix k.ob z) y) : (liftU k z x e h).length=1:=by
 have hz1:=hz.1
 have hz2:=hz.2
 have hh' : h∈homC k.tgt (k.ob.getD z.toNat default) y:=hh
 obtain ⟨j,hj,rfl⟩:=mem_getD.mp hh'
 have q:=u.un z.toNat (by omega) j hj;rw [Int.toNat_of_nonneg hz1] at q;exact q
theorem UniAt.behind {k : FU} (hk : FuOk k) {y x e z x2 e2 : Int} (u : UniAt k y x e) (w : UniAt k z x2 e2) {g : Int} (hg : k.tgt.ArR g) (e1 : ix k.tgt.frm g=y) (e3 : ix k.tgt.to g=z) :
  (liftU k x x2 e2 (ix (ix k.tgt.comp e) g)).length=1:=by
 have m:=homC_mem.mp u.me
 have q:=hk.t.compEnds m.1 hg (by rw [m.2.2,e1]);exact w.lift u.ob (homC_mem.mpr ⟨q.1,by rw [q.2.1,m.2.1],by rw [q.2.2,e3]⟩)
theorem UniAt.unit {k : FU} (hk : FuOk k) {x x2 e2 : Int} (hx : k.src.ObR x) (w : UniAt k (ix k.ob x) x2 e2) : (liftU k x x2 e2 (ix k.tgt.idn (ix k.ob x))).length=1:=by
 have q:=hk.t.idArr (hk.o.ob x hx);exact w.lift hx (homC_mem.mpr ⟨q.1,q.2.1,q.2.2⟩)
def opF (k : FU) : FU:=⟨opC k.src,opC k.tgt,k.ob,k.ar⟩
theorem shape_good40 {c : Cat} (h : c.Shape) : c.Good 40:=by
 have ho:=h.o
 exact ⟨⟨⟨ho.1,by omega⟩,h.il,h.m,h.tol,h.cl,h.row⟩,
  ⟨fun f hf=>h.frm _ (mem_getD.mpr ⟨f,hf,rfl⟩),fun f hf=>h.to _ (mem_getD.mpr ⟨f,by rw [h.tol]; exact hf,rfl⟩),fun x hx=>⟨h.idn _ (mem_getD.mpr ⟨x,hx,rfl⟩),h.ide x hx⟩,h.non,h.yes⟩⟩
theorem good_shape {c : Cat} (h : c.Good 40) (h8 : c.objs≤8) : c.Shape:=h.2.shape h.1 h8 h.1.ml
theorem opC_shape {c : Cat} (h : c.Shape) : (opC c).Shape:=good_shape (opC_good (shape_good40 h)) h.o.2
theorem opF_ok {k : FU} (h : FuOk k) : FuOk (opF k):=by
 have hl:=h.s.tol;refine ⟨opC_shape h.s,opC_shape h.t,⟨h.o.len,fun x hx=>h.o.ob x hx⟩,⟨?_,fun a ha=>.inr ?_⟩,fun i hi=>h.a.2 i ?_⟩
 ·show k.ar.length=k.src.to.length; rw [hl]; exact h.a.1.len
 ·have ha' : k.src.ArR a:=⟨ha.1,by have:=ha.2; show a.toNat<k.src.frm.length; rw [← hl]; exact this⟩
  have q:=h.a.ar ha';exact ⟨⟨q.1.1,by show (ix k.ar a).toNat<k.tgt.to.length; rw [h.t.tol]; exact q.1.2⟩,q.2.2,q.2.1⟩
 ·rw [← hl]; exact hi
end Go.Shf
namespace Go.Shf
open Go.AW
structure NatS (f g : FU) (t : List Int) : Prop where
 len : (t.length : Int)=f.src.objs
 ran : ∀ y,y∈t→0≤y∧y<(f.tgt.frm.length : Int)
 ends : ∀ x : Nat,x<t.length→ix f.tgt.frm (t.getD x default)=f.ob.getD x default∧ix f.tgt.to (t.getD x default)=g.ob.getD x default
def SqA (f g : FU) (t : List Int) (a : Nat) : Prop:=f.tgt.th (f.ar.getD a default) (ix t (f.src.to.getD a default))=f.tgt.th (ix t (f.src.frm.getD a default)) (g.ar.getD a default)
theorem natF_iff {f g : FU} (hf : f.src.Is) {t : List Int} : NatF f g t↔NatS f g t∧∀ a : Nat,a<f.src.frm.length→SqA f g t a:=by
 have hob:=hf.1.o
 constructor
 ·intro h;refine ⟨⟨h.len,fun y hy=>?_,fun x hx=>?_⟩,fun a ha=>?_⟩
  ·obtain ⟨i,hi,rfl⟩:=mem_getD.mp hy
   have:=(h.ar i (by have:=h.len; omega)).r;rw [ix_nat] at this; omega
  ·have:=h.ar x (by have:=h.len; omega);rw [ix_nat,ix_nat,ix_nat] at this;exact ⟨this.s,this.t⟩
  ·have:=h.nat a _ _ (ar_nat ha);rw [ix_nat,ix_nat] at this; exact this
 ·rintro ⟨h,k⟩;refine ⟨h.len,fun x hx=>?_,fun a x y u=>?_⟩
  ·have hl:=h.len
   have h1:=h.ran _ (ix_mem (l:=t) (i:=x) (by omega))
   have h2:=h.ends x.toNat (by omega);exact ⟨by omega,h2.1,h2.2⟩
  ·have:=k a.toNat u.r.2;rw [SqA,show f.src.to.getD a.toNat default=y from u.t,show f.src.frm.getD a.toNat default=x from u.s] at this;exact this
theorem adj_iff {a : AJ} (h1 : a.l.Is) (h2 : a.r.Is) (e1 : a.r.tgt=a.l.src) (e2 : a.r.src=a.l.tgt) :
  a.Is↔(NatF (idF a.l.src) (a.l.thn a.r) a.u∧NatF (a.r.thn a.l) (idF a.l.tgt) a.v) ∧
   (∀ x : Nat,x<a.l.ob.length→a.l.tgt.th (ix a.l.ar (a.u.getD x default)) (ix a.v (a.l.ob.getD x default))=ix a.l.tgt.idn (a.l.ob.getD x default)) ∧
   (∀ y : Nat,y<a.r.ob.length→a.l.src.th (ix a.u (a.r.ob.getD y default)) (ix a.r.ar (a.v.getD y default))=ix a.l.src.idn (a.r.ob.getD y default)):=by
 have l1:=h1.fit.ol
 have l2:=h2.fit.ol;rw [e2] at l2
 constructor
 ·intro h;refine ⟨⟨h.un,h.vn⟩,fun x hx=>?_,fun y hy=>?_⟩
  ·have:=h.t1 x (by omega);rw [ix_nat,ix_nat] at this; exact this
  ·have:=h.t2 y (by omega);rw [ix_nat,ix_nat] at this; exact this
 ·rintro ⟨⟨u,v⟩,t1,t2⟩;exact ⟨h1,h2,e1,e2,u,v,fun x hx=>t1 x.toNat (by omega),fun y hy=>t2 y.toNat (by omega)⟩
end Go.Shf
namespace Go.Proofs.Shf
open Go.AW Go.Proofs Go.Shf
theorem l02Hom_ok (B : Nat) (c : Cat) (s : c.Shape) (x y : Int) : Pur Tryz.prog B 197 [.agg c.cells,iI x,iI y] (iL (homC c x y)):=by
 refine ⟨fun H0=>c197 (by simp) fun _=>?_⟩;unfold s197
 have o : Owns H0 H0 []:=.nil _
 have hm:=s.m
 have htl:=s.tol;refine tt ?_;refine new_list iI o fun id H o=>tt ?_
 refine awp_for [1,2,3] (G:=Nat × List Int) (fun k g=>[(7,some (.buf g.1 g.2.length)),(8,some (.int .i64 (k : Int)))])
  (fun k g H=>g.2=homK c x y k∧Owns H0 H [(g.1,.cells 1 (g.2.map iI) 0)]) c.frm.length (id,[]) ⟨rfl,o⟩ rfl ?_
 clear o
 rintro k ⟨id,out⟩ H hk ⟨hout,o⟩;dsimp only at hout o
 have houl : out.length≤k:=by rw [hout]; exact homK_len _ _ _
 refine tt ?_;apply bk <;> intro h1
 ·have h1p : k<c.frm.length:=of_decide h1
  have w1:=wsucc (k:=k) (by omega);refine tt ?_;refine ⟨h1p, ?_⟩
  by_cases e1 : c.frm.getD k default=x
  ·rw [decide_eq_true e1];refine tt ?_;refine ⟨by omega, ?_⟩
   by_cases e2 : c.to.getD k default=y
   ·rw [decide_eq_true e2];refine tt ?_;refine app_own (k : Int) o rfl rfl (by simp only [maxL]; omega) fun z H o=>?_;refine tw w1 ?_;exact for_next (z,out++[(k : Int)]) h1p ⟨by rw [hout,homK_t e1 e2],o⟩ rfl
   ·rw [decide_eq_false e2];refine tw w1 ?_;exact for_next (id,out) h1p ⟨by rw [hout,homK_f fun h=>e2 h.2],o⟩ rfl
  ·rw [decide_eq_false e1];refine tw w1 ?_;exact for_next (id,out) h1p ⟨by rw [hout,homK_f fun h=>e1 h.1],o⟩ rfl
 ·have h1p:=of_ndecide h1
  have ek : k=c.frm.length:=by omega
  rw [ek,homK_full] at hout;refine tt ?_;refine fz_own o rfl fun H o=>tt ?_;exact pure_ret (by rw [hout]) o.sub
def RootK (n : Nat) (N : List (Int × Int)) (j : List Int) (x : Int) (id : Nat) (H0 : Heap) (l : Ob) : Kont:=fun r H'=>∃ (a : Int) (j' : List Int),r=iI a∧JoinOk n N j'∧Root j x a∧InR n a∧(∀ y r,InR n y→Root j y r→Root j' y r)∧Owns H0 H' ((id,.cells 1 (j'.map iI) 0)::l)
theorem root_own (B : Nat) {n : Nat} {N : List (Int × Int)} {j : List Int} (k : JoinOk n N j) (x : Int) (hx : InR n x) {H0 H : Heap} {l : Ob} {id : Nat} (o : Owns H0 H ((id,.cells 1 (j.map iI) 0)::l)) :
  CallH Tryz.prog B 272 [.buf id n,iI x] H (RootK n N j x id H0 l):=by
 refine c272 (by simp) fun _=>?_
 obtain ⟨a,hra,haR,_⟩:=k.uf.rootAt (x:=x) (by rw [k.len]; exact hx);rw [k.len] at haR;unfold s272;refine tt ?_
 refine awp_while [0] (G:=List Int × Int) (fun g=>[(1,some (iI g.2))])
  (fun m g H'=>m=g.2.toNat∧JoinOk n N g.1∧InR n g.2∧(∀ y r,InR n y→Root j y r→Root g.1 y r)∧Root g.1 g.2 a∧Owns H0 H' ((id,.cells 1 (g.1.map iI) 0)::l)) x.toNat (j,x) ⟨rfl,k,hx,fun y r _ h=>h,hra,o⟩ rfl ?_
 clear o
 rintro m ⟨j1,x1⟩ H' ⟨hm,k1,hx1,hpre,hr1,o⟩;dsimp only at k1 hx1 o hm
 obtain ⟨c,rfl⟩ : ∃ c : Nat,x1=c:=⟨x1.toNat,(Int.toNat_of_nonneg hx1.1).symm⟩
 have hcn : c<n:=by simpa using hx1.2
 have hlen:=k1.len
 have hjc:=k1.uf.inR (x:=(c : Int)) (by rw [k1.len]; exact hx1)
 have hle:=k1.uf.le (c : Int) (by rw [k1.len]; exact hx1)
 obtain ⟨p,hp⟩ : ∃ p : Nat,ix j1 (c : Int)=p:=⟨_,(Int.toNat_of_nonneg hjc.1).symm⟩
 have hle2:=k1.uf.le _ hjc
 have hjp:=k1.uf.inR hjc;rw [hp] at hjc hle hle2 hjp
 have hpn : p<n:=by have:=hjc.2; rw [hlen] at this; simpa using this
 obtain ⟨w,hw⟩ : ∃ w : Nat,ix j1 (p : Int)=w:=⟨_,(Int.toNat_of_nonneg hjp.1).symm⟩;rw [hw] at hle2 hjp
 have hwn : w<n:=by have:=hjp.2; rw [hlen] at this; simpa using this
 have e1 : (j1.map iI).getD c nv=iI (p : Int):=by rw [map_getD _ (by omega),← hp,ix_nat]
 have e2 : (j1.map iI).getD p nv=iI (w : Int):=by rw [map_getD _ (by omega),← hw,ix_nat]
 refine tt ?_;refine ⟨hcn,rd_cells o (by simp; omega) ?_⟩;rw [e1];refine tt ?_;apply bk <;> intro h1
 ·have h1p : p≠c:=by simp at h1; omega
  refine tt ?_;refine ⟨hcn,rd_cells o (by simp; omega) ?_⟩;rw [e1];refine tt ?_;refine ⟨hpn,rd_cells o (by simp; omega) ?_⟩;rw [e2];refine tt ?_;refine ⟨hcn, ?_⟩;refine set_own (f:=iI) (w : Int) o rfl (by omega) fun H2 o=>?_
  obtain ⟨k2,hk2⟩:=k1.halve hx1;rw [hp,hw,Int.toNat_natCast] at k2 hk2
  have e3 : ((j1.set c (w : Int)).map iI).getD c nv=iI (w : Int):=by
   rw [map_getD _ (by rw [List.length_set]; omega)]
   simp [List.getD_eq_getElem?_getD,show c<j1.length by omega]
  have e4 : ix (j1.set c (w : Int)) (c : Int)=w:=by
   simp [ix_nat,List.getD_eq_getElem?_getD,show c<j1.length by omega]
  have hr2:=(hk2 c a hx1 hr1).next;rw [e4] at hr2;refine tt ?_;refine ⟨hcn,rd_cells o (by simp; omega) ?_⟩;rw [e3];refine tt ?_;exact while_next w (j1.set c (w : Int),(w : Int)) (by omega) ⟨by simp,k2,⟨by omega,by simpa using hwn⟩,fun y r hy h=>hk2 y r hy (hpre y r hy h),hr2,o⟩ rfl
 ·have h1p : p=c:=by simp at h1; omega
  refine tt ?_
  have ea : a=c:=hr1.uniq (.here _ (by rw [hp,h1p]));exact ⟨H',.refl H',c,j1,rfl,k1,ea ▸ hra,hx1,hpre,o⟩
def JoinK (n : Nat) (N : List (Int × Int)) (id : Nat) (H0 : Heap) (l : Ob) : Kont:=fun r H'=>∃ (b : Bool) (j' : List Int),r=.bool b∧JoinOk n N j'∧Owns H0 H' ((id,.cells 1 (j'.map iI) 0)::l)
theorem join_own (B : Nat) {n : Nat} {N : List (Int × Int)} {j : List Int} (k : JoinOk n N j) (x y : Int) (hx : InR n x) (hy : InR n y) {H0 H : Heap} {l : Ob} {id : Nat} (o : Owns H0 H ((id,.cells 1 (j.map iI) 0)::l)) :
  CallH Tryz.prog B 265 [.buf id n,iI x,iI y] H (JoinK n (N++[(x,y)]) id H0 l):=by
 refine c265 (by simp) fun _=>?_;unfold s265;refine tt ?_;refine (root_own B k x hx o).mono ?_
 rintro r H ⟨a,j1,rfl,k1,hra,haR,hp1,o⟩;refine tt ?_;refine (root_own B k1 y hy o).mono ?_
 rintro r H ⟨b,j2,rfl,k2,hrb,hbR,hp2,o⟩
 have ha2:=hp2 x a hx (hp1 x a hx hra)
 have hb2:=hp2 y b hy hrb
 have kl:=k2.link hx hy ha2 hb2
 have hl:=k2.len;refine tt ?_
 have em : (if b > a then b else a)=max a b:=by split <;> omega
 have en : (if false=true then if b > a then b else a else if b<a then b else a)=min a b:=by
  rw [if_neg (by simp)]; split <;> omega
 have hM : InR n (max a b):=by
  rcases Int.le_total a b with h | h
  ·rw [Int.max_eq_right h]; exact hbR
  ·rw [Int.max_eq_left h]; exact haR
 rw [en,em];refine ⟨hM, ?_⟩;refine set_own (f:=iI) (min a b) o rfl (by rw [hl]; exact hM.2) fun H2 o=>tt ?_;exact ⟨H2,.refl H2,_,_,rfl,kl,o⟩
def numK (n k : Nat) : List Int:=(List.range n).map fun i=>if i<k then (i : Int) else 0
theorem numK_zero (n : Nat) : numK n 0=List.replicate n 0:=by
 refine List.ext_getElem (by simp [numK]) fun i h1 h2=>?_
 simp [numK]
theorem numK_full (n : Nat) : numK n n=(List.range n).map Int.ofNat:=by
 refine List.ext_getElem (by simp [numK]) fun i h1 h2=>?_
 have hi : i<n:=by simpa [numK] using h1
 simp [numK,hi]
theorem numK_succ (n k : Nat) (hk : k<n) : (numK n k).set k (k : Int)=numK n (k+1):=by
 refine List.ext_getElem (by simp [numK]) fun i h1 h2=>?_;simp only [numK,List.getElem_set,List.getElem_map,List.getElem_range]
 by_cases e : k=i
 ·subst e; rw [if_pos rfl,if_pos (by omega)]
 ·rw [if_neg e]
  by_cases e2 : i<k
  ·rw [if_pos e2,if_pos (by omega)]
  ·rw [if_neg e2,if_neg (by omega)]
theorem numbers_own (B : Nat) (n : Nat) (hn : n≤1048576) {H0 H : Heap} {l : Ob} (o : Owns H0 H l) : CallH Tryz.prog B 223 [iI n] H fun r H'=>∃ id,r=.buf id n∧Owns H0 H' ((id,.cells 1 (((List.range n).map Int.ofNat).map iI) 0)::l):=by
 refine c223p (by simp) fun _=>?_;unfold s223p;refine tt ?_;refine ⟨⟨by omega,by simp only [maxL]; omega⟩,mks_list iI 0 rfl o fun id H o=>?_⟩;refine tt ?_
 refine awp_for [3,8] (G:=List Int) (fun k _=>[(9,some (.int .i64 (k : Int)))])
  (fun k A H=>A=numK n k∧Owns H0 H ((id,.cells 1 (A.map iI) 0)::l)) n (List.replicate n 0) ⟨(numK_zero n).symm,o⟩ rfl ?_
 clear o
 rintro k A H hk ⟨hA,o⟩;refine tt ?_;apply bk <;> intro h1
 ·have h1p : k<n:=of_decide h1
  have w1:=wsucc (k:=k) (by omega);refine tt ?_;refine ⟨h1p, ?_⟩;refine set_own (f:=iI) (k : Int) o rfl (by rw [hA]; simpa [numK] using h1p) fun H o=>?_;refine tw w1 ?_;exact for_next (A.set k (k : Int)) h1p ⟨by rw [hA,numK_succ n k h1p],o⟩ rfl
 ·have h1p : ¬ k<n:=of_ndecide h1
  obtain rfl : k=n:=by omega
  refine tt ?_;rw [hA,numK_full] at o;exact ⟨H,.refl H,id,rfl,o⟩
theorem joinerOf_own (B : Nat) (n : Nat) (hn : n≤1048576) {H0 H : Heap} {l : Ob} (o : Owns H0 H l) : CallH Tryz.prog B 264 [iI n] H fun r H'=>∃ id,r=.buf id n∧Owns H0 H' ((id,.cells 1 (((List.range n).map Int.ofNat).map iI) 0)::l):=by
 refine c264p (by simp) fun _=>?_;unfold s264p;refine tt ?_;refine (numbers_own B n hn o).mono ?_
 rintro r H ⟨id,rfl,o⟩;refine tt ?_;exact ⟨H,.refl H,id,rfl,o⟩
def numM (n : Nat) : List AV:=(List.range n).map fun i : Nat=>iI (i : Int)
theorem numM_len (n : Nat) : (numM n).length=n:=by simp [numM]
theorem numM_get {n i : Nat} (h : i<n) : (numM n)[i]? = some (iI (i : Int)):=by simp [numM,h]
theorem numM_none {n : Nat} : (numM n)[n]? = none:=by simp [numM]
theorem numM_succ (n : Nat) : numM (n+1)=numM n++[iI (n : Int)]:=by rw [numM,List.range_succ,List.map_append]; rfl
theorem idxOf_index {s : List Int} {v : Int} (h : v∈s) : ((s.idxOf v : Nat) : Int)=indexOf s v∧s.idxOf v<s.length:=by
 have hl:=List.idxOf_lt_length_of_mem h;refine ⟨(indexOf_hit (k:=s.idxOf v) hl (fun i hi e=>?_) ?_).symm,hl⟩
 ·have:=List.not_of_lt_findIdx (p:=(· == v)) (xs:=s) (i:=i) (by exact hi)
  have hil : i<s.length:=by omega
  rw [List.getD_eq_getElem?_getD,List.getElem?_eq_getElem hil] at e
  simp at this e;exact this e
 ·rw [List.getD_eq_getElem?_getD,List.getElem?_eq_getElem hl]
  simp
theorem lkR_tn (z : AV) : lkR true z none=.tup [z,.bool false]:=rfl
theorem lkR_ts (z v : AV) : lkR true z (some v)=.tup [v,.bool true]:=rfl
theorem normal_ok (B : Nat) (l : List Int) : Pur Tryz.prog B 273 [iL l] (iL (classL l)):=by
 refine ⟨fun H0=>c273 (by simp) fun ⟨hf,_⟩=>?_⟩
 have hl:=fine_mL_le hf;simp only [maxL] at hl;unfold s273
 have o : Owns H0 H0 []:=.nil _;refine tt ?_;refine newMap_own o fun idm H o=>tt ?_;refine ⟨⟨by omega,by simp only [maxL]; omega⟩,mks_list iI 0 rfl o fun id H o=>?_⟩;refine tt ?_
 refine awp_for [3,4,13,14] (fun k _=>[(15,some (.int .i64 (k : Int)))])
  (fun k _ H=>Owns H0 H [(id,.cells 1 ((classK l k).map iI) 0),(idm,.map ((seenL (l.take k)).map iI) (numM (seenL (l.take k)).length))]) l.length () (by rw [classK_zero]; exact o) rfl ?_
 clear o
 rintro k _ H hk o;refine tt ?_;apply bk <;> intro h1
 ·have h1p:=of_decide h1
  have w1:=wsucc (k:=k) (by omega)
  have hg : H.get idm=some (.map ((seenL (l.take k)).map iI) (numM (seenL (l.take k)).length)):=o.swap.h0
  have hcl:=classK_len l (k:=k) (by omega);refine tt ?_;refine ⟨h1p,tt ?_⟩;rw [hg];refine ⟨okKey_iI _ _, ?_⟩;rw [mget_iI (by rw [numM_len])]
  by_cases hm : l.getD k default∈seenL (l.take k)
  ·obtain ⟨e1,e2⟩:=idxOf_index hm
   obtain ⟨e3,_⟩:=seen_old h1p hm;rw [numM_get e2,e1,lkR_ts];refine tt ?_;refine ⟨by omega, ?_⟩;refine set_own (f:=iI) (indexOf (seenL (l.take k)) (l.getD k default)) o rfl (by omega) fun H o=>?_;refine tw w1 ?_;refine for_next () h1p ?_ rfl
   have:=classK_succ l h1p;rw [e3] at this;rw [this] at o;simp only [e3];exact o
  ·obtain ⟨e3,e4⟩:=seen_new h1p hm
   have e5 : (seenL (l.take k)).idxOf (l.getD k default)=(seenL (l.take k)).length:=List.idxOf_eq_length hm;rw [e5,numM_none,lkR_tn];refine tt ?_;rw [hg];refine tt ?_;rw [hg];refine ⟨okKey_iI _ _, ?_⟩;rw [mput_iI _ _ (by rw [numM_len]),if_neg hm]
   have o:=o.swap.put (.map ((seenL (l.take k)++[l.getD k default]).map iI) (numM (seenL (l.take k)).length++[iI ((seenL (l.take k)).length : Int)]));rw [List.length_map];refine tt ?_;refine ⟨by omega, ?_⟩;refine set_own (f:=iI) ((seenL (l.take k)).length : Int) o.swap rfl (by omega) fun H o=>?_;refine tw w1 ?_;refine for_next () h1p ?_ rfl
   have:=classK_succ l h1p;rw [e4] at this;rw [this] at o;simp only [e3,List.length_append,List.length_cons,List.length_nil,Nat.zero_add,numM_succ];exact o
 ·have h1p:=of_ndecide h1
  obtain rfl : k=l.length:=by omega
  rw [classK_full] at o;refine tt ?_;refine fz_own o (by rw [classL_len]) fun H o=>tt ?_;exact pure_ret rfl o.sub
noncomputable def rootK (j : List Int) (n k : Nat) : List Int:=(List.range n).map fun i : Nat=>if i<k then rootF j i else 0
theorem rootK_zero (j : List Int) (n : Nat) : rootK j n 0=List.replicate n 0:=by
 refine List.ext_getElem (by simp [rootK]) fun i h1 h2=>?_
 simp [rootK]
theorem rootK_succ (j : List Int) (n k : Nat) (hk : k<n) : (rootK j n k).set k (rootF j k)=rootK j n (k+1):=by
 refine List.ext_getElem (by simp [rootK]) fun i h1 h2=>?_;simp only [rootK,List.getElem_set,List.getElem_map,List.getElem_range]
 by_cases e : k=i
 ·subst e; rw [if_pos rfl,if_pos (by omega)]
 ·rw [if_neg e]
  by_cases e2 : i<k
  ·rw [if_pos e2,if_pos (by omega)]
  ·rw [if_neg e2,if_neg (by omega)]
theorem rootK_at (j : List Int) (n : Nat) {i : Nat} (hi : i<n) : (rootK j n n).getD i default=rootF j i:=by rw [rootK,getD_map_range _ _ hi,if_pos hi]
def PartK (n : Nat) (N : List (Int × Int)) (H0 : Heap) (l : Ob) : Kont:=fun r H'=>∃ R : List Int,r=iL (classL R)∧R.length=n∧(∀ u v : Nat,u<n→v<n→(R.getD u default=R.getD v default↔EqN N u v))∧Owns H0 H' l
theorem partition_own (B : Nat) {n : Nat} (hn : n≤1048576) {N : List (Int × Int)} {j : List Int} (k : JoinOk n N j) {H0 H : Heap} {l : Ob} {id : Nat} (o : Owns H0 H ((id,.cells 1 (j.map iI) 0)::l)) :
  CallH Tryz.prog B 266 [.buf id n] H (PartK n N H0 l):=by
 refine c266p (by simp) fun _=>?_;unfold s266p;refine tt ?_;refine ⟨⟨by omega,by simp only [maxL]; omega⟩,mks_list iI 0 rfl o fun id3 H o=>?_⟩;refine tt ?_
 refine awp_for [0,3,9] (G:=List Int × List Int) (fun i _=>[(10,some (.int .i64 (i : Int)))])
  (fun i G H=>G.1=rootK j n i∧JoinOk n N G.2∧(∀ y r,InR n y→Root j y r→Root G.2 y r)∧Owns H0 H ((id3,.cells 1 (G.1.map iI) 0)::(id,.cells 1 (G.2.map iI) 0)::l)) n (List.replicate n 0,j) ⟨(rootK_zero j n).symm,k,fun y r _ h=>h,o⟩ rfl ?_
 clear o
 rintro i ⟨A,j2⟩ H hi ⟨hA,k2,hp,o⟩;dsimp only at hA k2 o
 have hAl : A.length=n:=by rw [hA]; simp [rootK]
 refine tt ?_;apply bk <;> intro h1
 ·have h1p : i<n:=by have:=of_decide h1; omega
  have w1:=wsucc (k:=i) (by omega)
  have hin : InR n (i : Int):=⟨by omega,by simpa using h1p⟩;refine tt ?_;refine (root_own B k2 (i : Int) hin o.swap).mono ?_;clear o
  rintro r H ⟨a,j3,rfl,k3,hr,_,hp3,o⟩
  have ea : a=rootF j i:=hr.uniq (hp _ _ hin (k.rootE hin));refine tt ?_;refine ⟨h1p, ?_⟩;refine set_own (f:=iI) a o.swap rfl (by rw [hAl]; exact h1p) fun H o=>?_;refine tw w1 ?_;exact for_next (A.set i a,j3) h1p ⟨by rw [hA,ea,rootK_succ j n i h1p],k3,fun y r hy h=>hp3 y r hy (hp y r hy h),o⟩ rfl
 ·have h1p : i=n:=by have:=of_ndecide h1; omega
  refine tt ?_;refine fz_own o (by rw [hAl]) fun H o=>tt ?_;refine (normal_ok B A).go fun _=>tt ?_;refine ⟨H,.refl H,A,rfl,hAl,fun u v hu hv=>?_,o.tl⟩;rw [hA,h1p,rootK_at j n hu,rootK_at j n hv];exact k.rootR u v ⟨by omega,by simpa using hu⟩ ⟨by omega,by simpa using hv⟩
theorem find_at {α : Type} [Inhabited α] {p : α→Bool} {l : List α} {k : Nat} (hk : k<l.length) (h : p (l.getD k default)=true) (hall : ∀ i,i<k→p (l.getD i default)=false) : l.find? p=some (l.getD k default):=by
 rw [List.find?_eq_some_iff_append];refine ⟨h,l.take k,l.drop (k+1), ?_,fun a ha=>?_⟩
 ·have e : l.getD k default=l[k]:=by simp [List.getD_eq_getElem?_getD,hk]
  rw [e]
  conv=>lhs; rw [← List.take_append_drop k l,List.drop_eq_getElem_cons hk]
 ·obtain ⟨i,hi,rfl⟩:=List.mem_iff_getElem.mp ha;simp only [List.length_take] at hi
  have:=hall i (by omega);rw [List.getElem_take]
  simp [List.getD_eq_getElem?_getD,show i<l.length by omega] at this
  simp [this]
theorem find_non {α : Type} [Inhabited α] {p : α→Bool} {l : List α} (hall : ∀ i,i<l.length→p (l.getD i default)=false) : l.find? p=none:=by
 rw [List.find?_eq_none]
 intro a ha
 obtain ⟨i,hi,rfl⟩:=mem_getD.mp ha;rw [hall i hi]; simp
instance : Inhabited Cat:=⟨⟨0,[],[],[],[]⟩⟩
abbrev caP (c : Cat) : AV:=.ptr c.cells
instance : One caP:=⟨fun _=>rfl,fun _=>rfl⟩
theorem areCategories_ok (B : Nat) (l : List Cat) : Pur Tryz.prog B 57 [mL caP l] (.bool (dec (∀ c,c∈l→c.Is))):=by
 refine ⟨fun H0=>c57p (by simp) fun ⟨hf,_⟩=>?_⟩
 have hl:=fine_mL_le hf;simp only [maxL] at hl;unfold s57p;refine tt ?_;refine awp_for [5,6] (fun k _=>[(7,some (.int .i64 (k : Int)))]) (fun k _ H=>H=H0∧∀ i,i<k→(l.getD i default).Is) l.length () ⟨rfl,by simp⟩ rfl ?_
 rintro k _ H hk ⟨rfl,hall⟩;refine tt ?_;apply bk <;> intro h1
 ·have h1p:=dd h1
  have w1:=wsucc (k:=k) (by omega);refine tt ?_;refine ⟨h1p,(isCategory_ok B _).go fun _=>?_⟩;refine tt ?_;apply bk <;> intro h2
  ·refine tt ?_
   have h2p:=dd h2;exact pure_ret (by rw [dec_f]; intro h; exact h2p (h _ (mem_getD.mpr ⟨k,h1p,rfl⟩))) (.refl _)
  ·refine tw w1 ?_
   have h2p:=dd h2;exact for_next () (by omega) ⟨rfl,lt_succ_all hall h2p⟩ rfl
 ·refine tt ?_
  have h1p:=dd h1;exact pure_ret (by rw [dec_t]; exact all_getD.mpr fun i hi=>hall i (by omega)) (.refl _)
theorem hom_at {c : Cat} {x y : Int} {k : Nat} (hk : k<(hom c x y).length) : c.Ar ((hom c x y).getD k default) x y:=ar_hom.mp (mem_getD.mpr ⟨k,hk,rfl⟩)
theorem inverse_ok (B : Nat) (c : Cat) (hc : c.Is) (f : Int) (hf : 0≤f∧f.toNat<c.frm.length) : Pur Tryz.prog B 128 [.ptr c.cells,iI f] (iI (invF c f)):=by
 refine ⟨fun H0=>c128p (by simp) fun _=>?_⟩;unfold s128p
 have hs:=hc.1
 have a : c.Ar f (ix c.frm f) (ix c.to f):=⟨hf,rfl,rfl⟩
 have htl:=hs.tol
 have hx:=hs.frmObj hf.2
 have hy:=hs.toObj hf.2;refine tt ?_;refine ⟨hf,⟨hf.1,by omega⟩,(hom_ok B c hs _ _).go fun hfl=>?_⟩
 have hbk : ∀ k,k<(hom c (ix c.to f) (ix c.frm f)).length→c.Ar ((hom c (ix c.to f) (ix c.frm f)).getD k default) (ix c.to f) (ix c.frm f):=fun k hk=>hom_at hk
 have hL : invF c f=((hom c (ix c.to f) (ix c.frm f)).find? (invP c f)).getD (-1):=rfl
 have hln:=fine_mL_le hfl;simp only [maxL] at hln;clear hfl
 have hm:=hs.m
 generalize hom c (ix c.to f) (ix c.frm f)=L at hbk hL hln ⊢;refine tt ?_;refine awp_for [0,1,5,6,26,27] (fun k _=>[(28,some (.int .i64 (k : Int)))]) (fun k _ H=>H=H0∧∀ i,i<k→invP c f (L.getD i default)=false) L.length () ⟨rfl,by simp⟩ rfl ?_
 rintro k _ H hk ⟨rfl,hall⟩;refine tt ?_;apply bk <;> intro h1
 ·have h1p:=dd h1
  have w1:=wsucc (k:=k) (by omega)
  have b:=hbk k h1p
  have r1:=hs.row' hf.2
  have r2:=hs.row' b.r.2
  have hcl:=hs.cl
  have hil:=hs.il;refine tt ?_;refine ⟨h1p,_,(catThen_ok B c f _ ⟨hf.1,by omega⟩ ⟨b.r.1,by rw [r1]; exact b.r.2⟩).run,⟨hx.1,by omega⟩, ?_⟩
  by_cases e1 : c.th f (L.getD k default)=ix c.idn (ix c.frm f)
  ·have e1' : decide (ix (ix c.comp f) (L.getD k default)=ix c.idn (ix c.frm f))=true:=decide_eq_true e1;try simp only [go_sem,↓reduceIte,reduceEqDiff,reduceAdd,reduceMul,reduceLeDiff,reduceLT,e1']
   refine ⟨_,(catThen_ok B c _ f ⟨b.r.1,by rw [hcl]; exact b.r.2⟩ ⟨hf.1,by rw [r2]; exact hf.2⟩).run,⟨hy.1,by omega⟩, ?_⟩
   by_cases e2 : c.th (L.getD k default) f=ix c.idn (ix c.to f)
   ·have e2' : decide (ix (ix c.comp (L.getD k default)) f=ix c.idn (ix c.to f))=true:=decide_eq_true e2;try simp only [go_sem,↓reduceIte,reduceEqDiff,reduceAdd,reduceMul,reduceLeDiff,reduceLT,e2']
    exact pure_ret (by rw [hL,find_at h1p (by rw [invP,decide_eq_true e1,decide_eq_true e2]; rfl) hall]; rfl) (.refl _)
   ·have e2' : decide (ix (ix c.comp (L.getD k default)) f=ix c.idn (ix c.to f))=false:=decide_eq_false e2;try simp only [go_sem,↓reduceIte,reduceEqDiff,reduceAdd,reduceMul,reduceLeDiff,reduceLT,e2',w1]
    exact for_next () (by omega) ⟨rfl,lt_succ_all hall (by rw [invP,decide_eq_true e1,decide_eq_false e2]; rfl)⟩ rfl
  ·have e1' : decide (ix (ix c.comp f) (L.getD k default)=ix c.idn (ix c.frm f))=false:=decide_eq_false e1;try simp only [go_sem,↓reduceIte,reduceEqDiff,reduceAdd,reduceMul,reduceLeDiff,reduceLT,e1',w1]
   exact for_next () (by omega) ⟨rfl,lt_succ_all hall (by rw [invP,decide_eq_false e1]; rfl)⟩ rfl
 ·refine tt ?_
  have h1p:=dd h1;exact pure_ret (by rw [hL,find_non fun i hi=>hall i (by omega)]; rfl) (.refl _)
theorem l02Unit_ok (B : Nat) (c : Cat) (hs : c.Shape) (f : Int) (hf : 0≤f∧f.toNat<c.frm.length) : Pur Tryz.prog B 131 [.agg c.cells,iI f] (.bool (decide (ix c.idn (ix c.frm f)=f))):=by
 refine ⟨fun H0=>c131p (by simp) fun _=>?_⟩;unfold s131p
 have hx:=hs.frmObj hf.2
 have hil:=hs.il;refine tt ?_;exact ⟨hf,⟨hx.1,by omega⟩,pure_ret rfl (.refl _)⟩
theorem l02Inverse_ok (B : Nat) (c : Cat) (hc : c.Is) (f : Int) (hf : 0≤f∧f.toNat<c.frm.length) : Pur Tryz.prog B 133 [.agg c.cells,iI f] (iI (invF c f)):=by
 refine ⟨fun H0=>c133p (by simp) fun _=>?_⟩;unfold s133p
 have hs:=hc.1
 have a : c.Ar f (ix c.frm f) (ix c.to f):=⟨hf,rfl,rfl⟩
 have htl:=hs.tol
 have hx:=hs.frmObj hf.2
 have hy:=hs.toObj hf.2;refine tt ?_;refine ⟨⟨hf.1,by omega⟩,hf,_,(l02Hom_ok B c hs _ _).run, ?_⟩
 have hbk : ∀ k,k<(homC c (ix c.to f) (ix c.frm f)).length→c.Ar ((homC c (ix c.to f) (ix c.frm f)).getD k default) (ix c.to f) (ix c.frm f):=fun k hk=>by
  rw [← hom_homC] at hk ⊢; exact hom_at hk
 have hL : invF c f=((homC c (ix c.to f) (ix c.frm f)).find? (invP c f)).getD (-1):=by rw [← hom_homC]; rfl
 have hm:=hs.m
 have hln : (homC c (ix c.to f) (ix c.frm f)).length≤c.frm.length:=homC_len _ _
 generalize homC c (ix c.to f) (ix c.frm f)=L at hbk hL hln ⊢;refine tt ?_;refine awp_for [1,2,5] (fun k _=>[(6,some (.int .i64 (k : Int)))]) (fun k _ H=>H=H0∧∀ i,i<k→invP c f (L.getD i default)=false) L.length () ⟨rfl,by simp⟩ rfl ?_
 rintro k _ H hk ⟨rfl,hall⟩;refine tt ?_;apply bk <;> intro h1
 ·have h1p:=dd h1
  have w1:=wsucc (k:=k) (by omega)
  have b:=hbk k h1p
  have c1:=a.comp hc b
  have c2:=b.comp hc a
  have r1:=hs.row' hf.2
  have r2:=hs.row' b.r.2
  have hcl:=hs.cl
  have hil:=hs.il;refine tt ?_;refine ⟨h1p,_,(l02Then_ok B c f _ ⟨hf.1,by omega⟩ ⟨b.r.1,by rw [r1]; exact b.r.2⟩).run,_,(l02Unit_ok B c hs (c.th f (L.getD k default)) c1.r).run, ?_⟩;rw [c1.s]
  by_cases e1 : c.th f (L.getD k default)=ix c.idn (ix c.frm f)
  ·have e1' : decide (ix c.idn (ix c.frm f)=c.th f (L.getD k default))=true:=decide_eq_true e1.symm;try simp only [go_sem,↓reduceIte,reduceEqDiff,reduceAdd,reduceMul,reduceLeDiff,reduceLT,e1']
   refine ⟨h1p,_,(l02Then_ok B c _ f ⟨b.r.1,by rw [hcl]; exact b.r.2⟩ ⟨hf.1,by rw [r2]; exact hf.2⟩).run,_,(l02Unit_ok B c hs (c.th (L.getD k default) f) c2.r).run, ?_⟩;rw [c2.s]
   by_cases e2 : c.th (L.getD k default) f=ix c.idn (ix c.to f)
   ·have e2' : decide (ix c.idn (ix c.to f)=c.th (L.getD k default) f)=true:=decide_eq_true e2.symm;try simp only [go_sem,↓reduceIte,reduceEqDiff,reduceAdd,reduceMul,reduceLeDiff,reduceLT,e2']
    exact ⟨h1p,pure_ret (by rw [hL,find_at h1p (by rw [invP,decide_eq_true e1,decide_eq_true e2]; rfl) hall]; rfl) (.refl _)⟩
   ·have e2' : decide (ix c.idn (ix c.to f)=c.th (L.getD k default) f)=false:=decide_eq_false fun h=>e2 h.symm;try simp only [go_sem,↓reduceIte,reduceEqDiff,reduceAdd,reduceMul,reduceLeDiff,reduceLT,e2',w1]
    exact for_next () (by omega) ⟨rfl,lt_succ_all hall (by rw [invP,decide_eq_true e1,decide_eq_false e2]; rfl)⟩ rfl
  ·have e1' : decide (ix c.idn (ix c.frm f)=c.th f (L.getD k default))=false:=decide_eq_false fun h=>e1 h.symm;try simp only [go_sem,↓reduceIte,reduceEqDiff,reduceAdd,reduceMul,reduceLeDiff,reduceLT,e1',w1]
   exact for_next () (by omega) ⟨rfl,lt_succ_all hall (by rw [invP,decide_eq_false e1]; rfl)⟩ rfl
 ·refine tt ?_
  have h1p:=dd h1;exact pure_ret (by rw [hL,find_non fun i hi=>hall i (by omega)]; rfl) (.refl _)
def isoN (c : Cat) (k : Nat) : List (Int × Int):=((List.range k).filter fun f : Nat=>decide (0≤invF c f)).map fun f : Nat=>(ix c.frm f,ix c.to f)
theorem isoN_t {c : Cat} {k : Nat} (h : 0≤invF c k) : isoN c (k+1)=isoN c k++[(c.frm.getD k default,c.to.getD k default)]:=by
 rw [isoN,List.range_succ,List.filter_append,List.map_append,isoN]; simp [h,ix_nat]
theorem isoN_f {c : Cat} {k : Nat} (h : ¬ 0≤invF c k) : isoN c (k+1)=isoN c k:=by
 rw [isoN,List.range_succ,List.filter_append,List.map_append,isoN]; simp [h]
theorem isoN_iff {c : Cat} {x y : Int} : (x,y)∈isoN c c.frm.length↔IsoO c x y:=by
 simp only [isoN,List.mem_map,List.mem_filter,List.mem_range,decide_eq_true_eq,Prod.mk.injEq]
 constructor
 ·rintro ⟨f,⟨h1,h2⟩,rfl,rfl⟩
  obtain ⟨g,i⟩:=(invF_iff (c:=c) (f:=(f : Int)) ⟨⟨by omega,by simpa using h1⟩,rfl,rfl⟩).mp h2;exact ⟨_,_,i⟩
 ·rintro ⟨f,g,i⟩
  have h1:=(invF_iff i.a).mpr ⟨g,i⟩
  have hf : ((f.toNat : Nat) : Int)=f:=Int.toNat_of_nonneg i.a.r.1;exact ⟨f.toNat,⟨i.a.r.2,by rw [hf]; exact h1⟩,by rw [hf]; exact i.a.s,by rw [hf]; exact i.a.t⟩
theorem isoN_eq {c : Cat} (h : c.Is) {x y : Int} (hx : 0≤x∧x<c.objs) : EqN (isoN c c.frm.length) x y↔IsoO c x y:=by
 constructor
 ·intro e
  have key : ∀ u v,EqN (isoN c c.frm.length) u v→u=v∨IsoO c u v:=fun u v e=>by
   induction e with
   | gen x y hm=>exact .inr (isoN_iff.mp hm)
   | refl x=>exact .inl rfl
   | symm _ k=>exact k.imp Eq.symm IsoO.symm
   | trans _ _ k l =>
    rcases k with rfl | k
    ·exact l
    rcases l with rfl | l
    ·exact .inr k
    ·exact .inr (k.trans h l)
  rcases key _ _ e with rfl | k
  ·exact .refl h hx
  ·exact k
 ·intro i;exact .gen _ _ (isoN_iff.mpr i)
theorem isoClasses_ok (B : Nat) (c : Cat) (hc : c.Is) : Pur Tryz.prog B 255 [.ptr c.cells] (iL (clsK c)):=by
 refine ⟨fun H0=>c255p (by simp) fun _=>?_⟩
 have hs:=hc.1
 have hm:=hs.m
 have htl:=hs.tol
 have hob:=hs.o
 obtain ⟨n,hn⟩ : ∃ n : Nat,c.objs=n:=⟨_,(Int.toNat_of_nonneg hob.1).symm⟩;unfold s255p
 have o : Owns H0 H0 []:=.nil _;refine tt ?_;rw [hn];refine (joinerOf_own B n (by omega) o).mono ?_;clear o
 rintro r H ⟨id,rfl,o⟩;refine tt ?_
 refine awp_for [0,3,14] (G:=List Int) (fun k _=>[(15,some (.int .i64 (k : Int)))])
  (fun k j H=>JoinOk n (isoN c k) j∧Owns H0 H [(id,.cells 1 (j.map iI) 0)]) c.frm.length ((List.range n).map Int.ofNat) ⟨.start n,o⟩ rfl ?_
 clear o
 rintro k j H hk ⟨hj,o⟩;refine tt ?_;apply bk <;> intro h1
 ·have h1p : k<c.frm.length:=of_decide h1
  have w1:=wsucc (k:=k) (by omega)
  have hx:=hs.frmObj (f:=(k : Int)) (by simpa using h1p)
  have hy:=hs.toObj (f:=(k : Int)) (by simpa using h1p);rw [ix_nat] at hx hy;refine tt ?_
  have hv:=inverse_ok B c hc (k : Int) ⟨by omega,by simpa using h1p⟩;simp only [Cat.cells,hn] at hv;refine hv.go fun _=>?_
  by_cases e1 : 0≤invF c (k : Int)
  ·have e1':=decide_eq_true e1;try simp only [go_sem,↓reduceIte,reduceEqDiff,reduceAdd,reduceMul,reduceLeDiff,reduceLT,e1']
   refine ⟨h1p,tt ?_⟩;refine ⟨by omega, ?_⟩;refine (join_own B hj _ _ ⟨hx.1,by omega⟩ ⟨hy.1,by omega⟩ o).mono ?_;clear o
   rintro r H ⟨b,j2,rfl,hj2,o⟩;refine tw w1 ?_;exact for_next j2 h1p ⟨by rw [isoN_t e1]; exact hj2,o⟩ rfl
  ·have e1':=decide_eq_false e1;try simp only [go_sem,↓reduceIte,reduceEqDiff,reduceAdd,reduceMul,reduceLeDiff,reduceLT,e1',w1]
   exact for_next j h1p ⟨by rw [isoN_f e1]; exact hj,o⟩ rfl
 ·have h1p : k=c.frm.length:=by have:=of_ndecide h1; omega
  rw [h1p] at hj;refine tt ?_;refine (partition_own B (by omega) hj o).mono ?_;clear o
  rintro r H ⟨R,rfl,hRl,hR,o⟩;refine tt ?_;refine pure_ret ?_ o.sub;rw [clsK_eq hc (by omega) fun u v hu hv=>(hR u v (by omega) (by omega)).trans (isoN_eq hc ⟨by omega,by omega⟩)]
theorem leaders_ok (B : Nat) (c : Cat) (hc : c.Is) : Pur Tryz.prog B 256 [iL (clsK c)] (iL (leadL c)):=by
 refine ⟨fun H0=>c256p (by simp) fun _=>?_⟩;unfold s256p
 have o : Owns H0 H0 []:=.nil _
 have hob:=hc.1.o
 have hll : (clsK c).length=c.objs.toNat:=by have:=clsK_len hc; omega
 refine tt ?_;refine new_list iI o fun id H o=>tt ?_
 refine awp_for [7,8] (G:=Nat × List Int) (fun k g=>[(3,some (.buf g.1 g.2.length)),(9,some (.int .i64 (k : Int)))])
  (fun k g H=>g.2=leadK c k∧Owns H0 H [(g.1,.cells 1 (g.2.map iI) 0)]) (clsK c).length (id,[]) ⟨rfl,o⟩ rfl ?_
 clear o
 rintro k ⟨id,out⟩ H hk ⟨hout,o⟩;dsimp only at hout o
 have houl : out.length≤k:=by rw [hout]; exact leadK_len _
 refine tt ?_;apply bk <;> intro h1
 ·have h1p : k<(clsK c).length:=of_decide h1
  have w1:=wsucc (k:=k) (by omega)
  have hh:=cls_hit hc (k:=k) (by omega);rw [← hout] at hh;refine tt ?_;refine ⟨h1p, ?_⟩
  by_cases e1 : repO c k=k
  ·have e1':=decide_eq_true (hh.mpr e1);try simp only [go_sem,↓reduceIte,reduceEqDiff,reduceAdd,reduceMul,reduceLeDiff,reduceLT,e1']
   refine app_own (k : Int) o rfl rfl (by simp only [maxL]; omega) fun z H o=>?_;refine tw w1 ?_;exact for_next (z,out++[(k : Int)]) h1p ⟨by rw [hout,leadK_t e1],o⟩ rfl
  ·have e1':=decide_eq_false (fun h=>e1 (hh.mp h));try simp only [go_sem,↓reduceIte,reduceEqDiff,reduceAdd,reduceMul,reduceLeDiff,reduceLT,e1',w1]
   exact for_next (id,out) h1p ⟨by rw [hout,leadK_f e1],o⟩ rfl
 ·have h1p:=of_ndecide h1;refine tt ?_;refine fz_own o rfl fun H o=>?_;exact pure_ret (by rw [hout,leadL,show k=c.objs.toNat by omega]) o.sub
def fullK (c : Cat) (L : List Int) (k : Nat) : List Int:=nats (fun f=>decide (c.frm.getD f default∈L) && decide (c.to.getD f default∈L)) k
theorem fullK_len (c : Cat) (L : List Int) (k : Nat) : (fullK c L k).length≤k:=nats_len _ _
theorem fullK_t {c : Cat} {L : List Int} {k : Nat} (h1 : c.frm.getD k default∈L) (h2 : c.to.getD k default∈L) : fullK c L (k+1)=fullK c L k++[(k : Int)]:=nats_t (by rw [decide_eq_true h1,decide_eq_true h2]; rfl)
theorem fullK_f {c : Cat} {L : List Int} {k : Nat} (h : ¬ (c.frm.getD k default∈L∧c.to.getD k default∈L)) : fullK c L (k+1)=fullK c L k:=nats_f (by
 rw [Bool.and_eq_false_iff]
 by_cases h1 : c.frm.getD k default∈L
 ·exact .inr (decide_eq_false fun h2=>h ⟨h1,h2⟩)
 ·exact .inl (decide_eq_false h1))
theorem between_ok (B : Nat) (c : Cat) (hc : c.Shape) (L : List Int) : Pur Tryz.prog B 56 [.ptr c.cells,iL L] (iL (fullA c L)):=by
 refine ⟨fun H0=>c56p (by simp) fun _=>?_⟩;unfold s56p
 have o : Owns H0 H0 []:=.nil _
 have hm:=hc.m
 have htl:=hc.tol;refine tt ?_;refine new_list iI o fun id H o=>tt ?_
 refine awp_for [0,1,12] (G:=Nat × List Int) (fun k g=>[(5,some (.buf g.1 g.2.length)),(13,some (.int .i64 (k : Int)))])
  (fun k g H=>g.2=fullK c L k∧Owns H0 H [(g.1,.cells 1 (g.2.map iI) 0)]) c.frm.length (id,[]) ⟨rfl,o⟩ rfl ?_
 clear o
 rintro k ⟨id,out⟩ H hk ⟨hout,o⟩;dsimp only at hout o
 have houl : out.length≤k:=by rw [hout]; exact fullK_len _ _ _
 refine tt ?_;apply bk <;> intro h1
 ·have h1p : k<c.frm.length:=of_decide h1
  have w1:=wsucc (k:=k) (by omega);refine tt ?_;refine ⟨h1p,(has_ok B L _).go fun _=>?_⟩
  by_cases e1 : c.frm.getD k default∈L
  ·rw [dec_t e1];refine tt ?_;refine ⟨by omega,(has_ok B L _).go fun _=>?_⟩
   by_cases e2 : c.to.getD k default∈L
   ·rw [dec_t e2];refine tt ?_;refine app_own (k : Int) o rfl rfl (by simp only [maxL]; omega) fun z H o=>?_;refine tw w1 ?_;exact for_next (z,out++[(k : Int)]) h1p ⟨by rw [hout,fullK_t e1 e2],o⟩ rfl
   ·rw [dec_f e2];refine tw w1 ?_;exact for_next (id,out) h1p ⟨by rw [hout,fullK_f fun h=>e2 h.2],o⟩ rfl
  ·rw [dec_f e1];refine tw w1 ?_;exact for_next (id,out) h1p ⟨by rw [hout,fullK_f fun h=>e1 h.1],o⟩ rfl
 ·have h1p:=of_ndecide h1;refine tt ?_;refine fz_own o rfl fun H o=>?_;exact pure_ret (by rw [hout,show k=c.frm.length by omega]; rfl) o.sub
theorem skeletonArrows_ok (B : Nat) (c : Cat) (hc : c.Is) : Pur Tryz.prog B 239 [.ptr c.cells] (iL (fullA c (leadL c))):=by
 refine ⟨fun H0=>c239p (by simp) fun _=>?_⟩;unfold s239p;refine tt ?_;refine (isoClasses_ok B c hc).go fun _=>?_;refine (leaders_ok B c hc).go fun _=>?_;refine (between_ok B c hc.1 _).go fun _=>tt ?_;exact pure_ret rfl (.refl _)
noncomputable def memK (n : Nat) (L : List Int) : List Bool:=(List.range n).map fun f : Nat=>dec ((f : Int)∈L)
theorem memK_at {n : Nat} {L : List Int} {f : Nat} (hf : f<n) : (memK n L).getD f default=dec ((f : Int)∈L):=getD_map_range _ _ hf
theorem memK_len (n : Nat) (L : List Int) : (memK n L).length=n:=by simp [memK]
theorem memK_set {n : Nat} {L : List Int} {k : Nat} (hk : k<L.length) (h : 0≤L.getD k default) : (memK n (L.take k)).set (L.getD k default).toNat true=memK n (L.take (k+1)):=by
 refine List.ext_getElem (by simp [memK]) fun i h1 h2=>?_
 have hi : i<n:=by simpa [memK] using h2
 simp only [memK,take_one _ hk,List.getElem_set,List.getElem_map,List.getElem_range,List.mem_append,List.mem_singleton]
 by_cases e : (L.getD k default).toNat=i
 ·rw [if_pos e,dec_t (.inr (by omega))]
 ·rw [if_neg e];exact dec_congr ⟨.inl,fun h=>h.elim (fun h=>h) fun h=>absurd (by omega) e⟩
theorem marks_ok (B : Nat) (c : Cat) (hm : c.frm.length≤40) (L : List Int) (hL : ∀ f,f∈L→0≤f∧f.toNat<c.frm.length) : Pur Tryz.prog B 135 [.ptr c.cells,iL L] (bL (memK c.frm.length L)):=by
 refine ⟨fun H0=>c135p (by simp) fun ⟨_,hfl,_⟩=>?_⟩;unfold s135p
 have hll:=fine_mL_le hfl;simp only [maxL] at hll
 have o : Owns H0 H0 []:=.nil _;refine tt ?_;refine (arrows_ok B c).go fun _=>tt ?_;refine ⟨⟨by omega,by simp only [maxL]; omega⟩,mks_list AV.bool false rfl o fun id H o=>?_⟩;refine tt ?_
 refine awp_for [5,11,12] (G:=List Bool) (fun k _=>[(13,some (.int .i64 (k : Int)))])
  (fun k A H=>A=memK c.frm.length (L.take k)∧Owns H0 H [(id,.cells 1 (A.map AV.bool) 0)]) L.length (List.replicate c.frm.length false) ⟨?_,o⟩ rfl ?_
 ·refine List.ext_getElem (by simp [memK]) fun i h1 h2=>?_
  simp [memK,dec_f]
 clear o
 rintro k A H hk ⟨hA,o⟩
 have hAl : A.length=c.frm.length:=by rw [hA,memK_len]
 refine tt ?_;apply bk <;> intro h1
 ·have h1p : k<L.length:=of_decide h1
  have w1:=wsucc (k:=k) (by omega)
  have hv:=hL _ (mem_getD.mpr ⟨k,h1p,rfl⟩);refine tt ?_;refine ⟨h1p,hv, ?_⟩;refine set_own (f:=AV.bool) true o rfl (by omega) fun H o=>?_;refine tw w1 ?_;exact for_next (A.set (L.getD k default).toNat true) h1p ⟨by rw [hA,memK_set h1p hv.1],o⟩ rfl
 ·have h1p : k=L.length:=by have:=of_ndecide h1; omega
  refine tt ?_;refine fz_own o (by rw [hAl]) fun H o=>?_;exact pure_ret (by rw [hA,h1p,List.take_of_length_le (Nat.le_refl _)]) o.sub
noncomputable def numI (n : Nat) (T : List Int) : List Int:=open Classical in (List.range n).map fun f : Nat=>if (f : Int)∈T then indexOf T f else 0
theorem numI_len (n : Nat) (T : List Int) : (numI n T).length=n:=by simp [numI]
theorem numI_nil (n : Nat) : numI n []=List.replicate n 0:=by
 refine List.ext_getElem (by simp [numI]) fun i h1 h2=>?_
 simp [numI]
theorem numI_at {n : Nat} {T : List Int} {f : Int} (hf : 0≤f∧f.toNat<n) (h : f∈T) : (numI n T).getD f.toNat default=indexOf T f:=by
 have e : ((f.toNat : Nat) : Int)=f:=Int.toNat_of_nonneg hf.1;rw [numI,getD_map_range _ _ hf.2,e,if_pos h]
theorem numI_set {n : Nat} {T : List Int} {v : Int} (hv : 0≤v∧v.toNat<n) (h : v ∉ T) : (numI n T).set v.toNat T.length=numI n (T++[v]):=by
 have e : ((v.toNat : Nat) : Int)=v:=Int.toNat_of_nonneg hv.1;refine List.ext_getElem (by simp [numI]) fun i h1 h2=>?_;simp only [numI,List.getElem_set,List.getElem_map,List.getElem_range]
 by_cases q : v.toNat=i
 ·subst q;rw [if_pos rfl,e,if_pos (by simp),indexOf_newT h]
 ·rw [if_neg q]
  have q2 : (i : Int)≠v:=by omega
  by_cases hi : (i : Int)∈T
  ·rw [if_pos hi,if_pos (List.mem_append_left _ hi),indexOf_appT hi]
  ·rw [if_neg hi,if_neg]
   intro hh
   rcases List.mem_append.mp hh with hh | hh
   ·exact hi hh
   ·exact q2 (List.mem_singleton.mp hh)
theorem take_not {l : List Int} (nd : l.Nodup) {k : Nat} (hk : k<l.length) : l.getD k default ∉ l.take k:=by
 intro h
 have h1:=nd.sublist (List.take_sublist (k+1) l);rw [take_one _ hk,List.nodup_append] at h1;exact h1.2.2 _ h _ (List.mem_singleton.mpr rfl) rfl
def selK (L : List Int) (k : Nat) : List Int:=nats (fun x=>decide ((x : Int)∈L)) k
theorem selK_t {L : List Int} {k : Nat} (h : (k : Int)∈L) : selK L (k+1)=selK L k++[(k : Int)]:=nats_t (decide_eq_true h)
theorem selK_f {L : List Int} {k : Nat} (h : (k : Int) ∉ L) : selK L (k+1)=selK L k:=nats_f (decide_eq_false h)
theorem selK_len (L : List Int) (k : Nat) : (selK L k).length≤k:=nats_len _ _
theorem selK_not {L : List Int} {k : Nat} : (k : Int) ∉ selK L k:=by
 intro h;simp only [selK,nats,List.mem_map,List.mem_filter,List.mem_range] at h
 obtain ⟨a,⟨h1,_⟩,h2⟩:=h
 have : (a : Int)=k:=h2;omega
theorem sub_ok (B : Nat) (c : Cat) (hc : c.Is) (L : List Int) (s : Sel c L) (hL : selK L c.objs.toNat=L) : Pur Tryz.prog B 55 [.ptr c.cells,iL (fullA c L)] (.tup [.agg (Go.Shf.part c L).cells,iL L]):=by
 refine ⟨fun H0=>c55p (by simp) fun _=>?_⟩;unfold s55p
 have hs:=hc.1
 have hm:=hs.m
 have htl:=hs.tol
 have hil:=hs.il
 have hob:=hs.o
 have hAl:=fullA_len (c:=c) (L:=L)
 have hAm : ∀ f,f∈fullA c L→0≤f∧f.toNat<c.frm.length:=fun f hf=>(mem_fullA.mp hf).1
 have hAn:=fullA_nodup (c:=c) (L:=L)
 have hpf : (Go.Shf.part c L).frm=(fullA c L).map fun a=>indexOf L (ix c.frm a):=rfl
 have hpt : (Go.Shf.part c L).to=(fullA c L).map fun a=>indexOf L (ix c.to a):=rfl
 have hpi : (Go.Shf.part c L).idn=L.map fun x=>indexOf (fullA c L) (ix c.idn x):=rfl
 have hpc : (Go.Shf.part c L).comp=(fullA c L).map fun a=>(fullA c L).map fun b=>indexOf (fullA c L) (c.th a b):=rfl
 have hAi : ∀ x : Nat,x<c.objs.toNat→((c.idn.getD x default)∈fullA c L↔(x : Int)∈L):=fun x hx=>by
  have h:=hs.idArr (x:=(x : Int)) ⟨by omega,by omega⟩;rw [ix_nat] at h;rw [mem_fullA,h.2.1,h.2.2];exact ⟨fun q=>q.2.1,fun q=>⟨h.1,q,q⟩⟩
 have hfr : ∀ f,f∈fullA c L→ix c.frm f∈L∧ix c.to f∈L:=fun f hf=>(mem_fullA.mp hf).2
 have hth : ∀ f g,f∈fullA c L→g∈fullA c L→(0≤c.th f g∧(c.th f g).toNat<c.frm.length∧c.th f g∈fullA c L)∨(c.th f g=-1∧c.th f g ∉ fullA c L):=fun f g hf hg=>by
  have af:=mem_fullA.mp hf
  have ag:=mem_fullA.mp hg
  by_cases q : ix c.to f=ix c.frm g
  ·have h:=hs.comp af.1 ag.1 q;refine .inl ⟨h.1.1,h.1.2,mem_fullA.mpr ⟨⟨h.1.1,h.1.2⟩, ?_, ?_⟩⟩
   ·rw [show ix c.frm (c.th f g)=ix c.frm f from h.2.1]; exact af.2.1
   ·rw [show ix c.to (c.th f g)=ix c.to g from h.2.2]; exact ag.2.2
  ·have h : c.th f g=-1:=hs.non f.toNat g.toNat af.1.2 ag.1.2 q;exact .inr ⟨h,fun hh=>by have:=(hAm _ hh).1; omega⟩
 generalize hA : fullA c L=A at *
 have o : Owns H0 H0 []:=.nil _;refine tt ?_;refine newRef_own o fun id4 H o=>tt ?_;refine (arrows_ok B c).go fun _=>tt ?_;refine ⟨⟨by omega,by simp only [maxL]; omega⟩,mks_list iI 0 rfl o fun id6 H o=>?_⟩;refine tt ?_
 refine awp_for [0,1,4,6,24,25] (G:=List Int) (fun k _=>[(26,some (.int .i64 (k : Int)))])
  (fun k N H=>N=numI c.frm.length (A.take k)∧Owns H0 H ((id6,.cells 1 (N.map iI) 0)::(id4,MObj.cells 5 [.int .i64 0,.nilsl,.nilsl,.nilsl,.nilsl] 0)::[])) A.length (List.replicate c.frm.length 0) ⟨?_,o⟩ rfl ?_
 ·rw [List.take_zero,numI_nil]
 clear o
 rintro k N H hk ⟨hN,o⟩
 have hNl : N.length=c.frm.length:=by rw [hN,numI_len]
 refine tt ?_;apply bk <;> intro h1
 ·have h1p : k<A.length:=of_decide h1
  have w1:=wsucc (k:=k) (by omega)
  have hv:=hAm _ (mem_getD.mpr ⟨k,h1p,rfl⟩);refine tt ?_;refine ⟨h1p,hv, ?_⟩;refine set_own (f:=iI) (k : Int) o rfl (by omega) fun H o=>?_;refine tw w1 ?_;refine for_next (N.set (A.getD k default).toNat k) h1p ⟨?_,o⟩ rfl
  have:=numI_set hv (take_not hAn h1p);rw [List.length_take,Nat.min_eq_left hk] at this;rw [hN,take_one _ h1p,this]
 have h1p : k=A.length:=by have:=of_ndecide h1; omega
 clear h1;rw [h1p,List.take_of_length_le (Nat.le_refl _)] at hN;clear h1p hk;refine tt ?_;refine fz_own o (by rw [hNl]) fun H o=>tt ?_;refine (marks_ok B c hm A hAm).go fun _=>tt ?_;refine new_list iI o fun id10 H o=>tt ?_;refine ⟨⟨by omega,by simp only [maxL]; omega⟩,mks_list iI 0 rfl o fun id11 H o=>?_⟩;refine tt ?_;refine newRef_own o fun id12 H o=>tt ?_;refine sw o fun H o=>tt ?_
 refine awp_for [0,1,4,6,9,11,12,49,50] (G:=(Nat × List Int) × List Int × AV) (fun k g=>[(10,some (.buf g.1.1 g.1.2.length)),(51,some (.int .i64 (k : Int)))])
  (fun k g H=>g.1.2=selK L k∧g.2.1=numI c.objs.toNat (selK L k)∧LsO iI H0 H ((id12,.cells 5 [.int .i64 0,.nilsl,.nilsl,g.2.2,.nilsl] 0)::[(g.1.1,.cells 1 (g.1.2.map iI) 0),(id11,.cells 1 (g.2.1.map iI) 0),
   (id4,MObj.cells 5 [.int .i64 0,.nilsl,.nilsl,.nilsl,.nilsl] 0)]) g.2.2 ((selK L k).map fun x=>indexOf A (ix c.idn x))) c.idn.length ((id10,[]),List.replicate c.objs.toNat 0,.nilsl)
  ⟨rfl,(numI_nil _).symm,.inl ⟨rfl,rfl,o.pm⟩⟩ rfl ?_
 clear o
 rintro k ⟨⟨id10,out⟩,P,X⟩ H hk ⟨hout,hP,hX⟩;dsimp only at hout hP
 replace hX : LsO iI H0 H ((id12,.cells 5 [.int .i64 0,.nilsl,.nilsl,X,.nilsl] 0)::[(id10,.cells 1 (out.map iI) 0),(id11,.cells 1 (P.map iI) 0),(id4,MObj.cells 5 [.int .i64 0,.nilsl,.nilsl,.nilsl,.nilsl] 0)]) X
  ((selK L k).map fun x=>indexOf A (ix c.idn x)):=hX
 have houl : out.length≤k:=by rw [hout]; exact selK_len _ _
 have hPl : P.length=c.objs.toNat:=by rw [hP,numI_len]
 refine tt ?_;apply bk <;> intro h1
 ·have h1p : k<c.idn.length:=of_decide h1
  have w1:=wsucc (k:=k) (by omega)
  have hv:=hs.idArr (x:=(k : Int)) ⟨by omega,by omega⟩;rw [ix_nat] at hv
  have hN2:=hNl
  have hM : ix (memK c.frm.length A) (c.idn.getD k default)=dec (c.idn.getD k default∈A):=by
   rw [ix,memK_at hv.1.2,Int.toNat_of_nonneg hv.1.1]
  refine tt ?_;refine ⟨h1p,⟨hv.1.1,by rw [memK_len]; exact hv.1.2⟩, ?_⟩;rw [hM]
  by_cases e1 : (k : Int)∈L
  ·rw [dec_t ((hAi k (by omega)).mpr e1)];refine tt ?_;refine ⟨by omega, ?_⟩
   obtain ⟨p,o,hp⟩:=hX.split;clear hX
   replace o : Owns H0 H ((id11,.cells 1 (P.map iI) 0)::(id10,.cells 1 (out.map iI) 0)::(id12,.cells 5 [.int .i64 0,.nilsl,.nilsl,X,.nilsl] 0)::(id4,MObj.cells 5 [.int .i64 0,.nilsl,.nilsl,.nilsl,.nilsl] 0)::p):=o.pm;refine set_own (f:=iI) (out.length : Int) o rfl (by omega) fun H o=>tt ?_;refine app_own (k : Int) o.swap rfl rfl (by simp only [maxL]; omega) fun z H o=>?_
   have hX:=LsO.mk (l:=(id12,.cells 5 [.int .i64 0,.nilsl,.nilsl,X,.nilsl] 0)::[(z,.cells 1 ((out++[(k : Int)]).map iI) 0),(id11,.cells 1 ((P.set k (out.length : Int)).map iI) 0),(id4,MObj.cells 5 [.int .i64 0,.nilsl,.nilsl,.nilsl,.nilsl] 0)]) (o.pm) hp;clear o
   have hmA:=(hAi k (by omega)).mpr e1
   have hNv : ix N (c.idn.getD k default)=indexOf A (c.idn.getD k default):=by rw [hN,ix,numI_at hv.1 hmA]
   refine tt ?_;refine rd_get hX.obj (by simp) ?_;refine tt ?_;refine ⟨⟨hv.1.1,by omega⟩, ?_⟩;rw [hNv];refine hX.app (indexOf A (c.idn.getD k default)) rfl (by have:=selK_len L k; simp only [List.length_map,maxL]; omega) fun idn H o=>?_
   have eS : ((selK L k).map fun x=>indexOf A (ix c.idn x))++[indexOf A (c.idn.getD k default)]=(selK L (k+1)).map fun x=>indexOf A (ix c.idn x):=by
    rw [selK_t e1,List.map_append,List.map_singleton,ix_nat]
   rw [eS] at o ⊢;refine tt ?_;refine sw o.swap fun H o=>?_;refine tw w1 ?_
   exact for_next ((z,out++[(k : Int)]),P.set k (out.length : Int),_) h1p ⟨by rw [hout,selK_t e1],by
    have:=numI_set (n:=c.objs.toNat) (T:=selK L k) (v:=(k : Int)) ⟨by omega,by omega⟩ selK_not;rw [selK_t e1,← this,hP,hout]; rfl,.inr ⟨idn,rfl,o.swap⟩⟩ rfl
  ·rw [dec_f fun h=>e1 ((hAi k (by omega)).mp h)];refine tw w1 ?_;exact for_next ((id10,out),P,X) h1p ⟨by rw [hout,selK_f e1],by rw [hP,selK_f e1],by rw [selK_f e1]; exact hX⟩ rfl
 have h1p : k=c.objs.toNat:=by have:=of_ndecide h1; omega
 clear h1;rw [h1p,hL] at hout hP hX;refine tt ?_;refine wk_ls 3 hX rfl fun H o=>wkW_done ?_;clear hX;simp only [List.set_cons_zero,List.set_cons_succ] at o;refine tt ?_;refine sw o fun H o=>tt ?_;refine fz_own (o.pull [_,_]) (by rw [hPl]) fun H o=>?_;clear h1p houl hk;subst hout
 let st : AV→AV→AV→MObj:=fun x1 x2 x4=>.cells 5 [iI (out.length : Int),x1,x2,iL (out.map fun x=>indexOf A (ix c.idn x)),x4] 0
 let r : Ob:=[(id10,.cells 1 (out.map iI) 0),(id4,MObj.cells 5 [.int .i64 0,.nilsl,.nilsl,.nilsl,.nilsl] 0)]
 replace o : Owns H0 H ((id12,st .nilsl .nilsl .nilsl)::([]++([]++r))):=o
 generalize hr : r=r at o;refine tt ?_
 refine awp_for [0,1,4,6,10,11,12,82,83] (G:=(AV × AV × AV) × Ob × Ob) (fun k _=>[(84,some (.int .i64 (k : Int)))])
  (fun a g H=>LsO iI H0 H ((id12,st g.1.1 g.1.2.1 g.1.2.2)::(g.2.1++(g.2.2++r))) g.1.1 ((A.take a).map fun f=>indexOf out (ix c.frm f))∧LsP iI g.2.1 g.1.2.1 ((A.take a).map fun f=>indexOf out (ix c.to f)) ∧
   LsP iL g.2.2 g.1.2.2 ((A.take a).map fun f=>A.map fun g=>indexOf A (c.th f g))) A.length ((.nilsl,.nilsl,.nilsl),[],[]) ⟨.inl ⟨rfl,rfl,o⟩,.inl ⟨rfl,rfl,rfl⟩,.inl ⟨rfl,rfl,rfl⟩⟩ rfl ?_
 clear o
 rintro a ⟨⟨X1,X2,X4⟩,p2,p4⟩ H ha ⟨hX,h2,h4⟩;dsimp only at hX h2 h4;refine tt ?_;apply bk <;> intro h1
 ·have h1p : a<A.length:=of_decide h1
  have w1:=wsucc (k:=a) (by omega)
  have hfA : A.getD a default∈A:=mem_getD.mpr ⟨a,h1p,rfl⟩
  have hf:=hAm _ hfA
  obtain ⟨hf1,hf2⟩:=hfr _ hfA
  have r1:=s.ran _ hf1
  have r2:=s.ran _ hf2
  have hP1 : ix P (ix c.frm (A.getD a default))=indexOf out (ix c.frm (A.getD a default)):=by rw [hP,ix,numI_at ⟨r1.1,by omega⟩ hf1]
  have hP2 : ix P (ix c.to (A.getD a default))=indexOf out (ix c.to (A.getD a default)):=by rw [hP,ix,numI_at ⟨r2.1,by omega⟩ hf2]
  have eA : A.take (a+1)=A.take a++[A.getD a default]:=take_one _ h1p;refine tt ?_;refine ⟨h1p,tt ?_⟩;refine rd_get hX.obj (by simp [st]) ?_;refine tt ?_;refine ⟨hf,⟨r1.1,by omega⟩, ?_⟩;rw [hP1];refine hX.app (indexOf out (ix c.frm (A.getD a default))) rfl (by simp only [List.length_map,List.length_take,maxL]; omega) fun idn H o=>?_
  have e1 : ((A.take a).map fun f=>indexOf out (ix c.frm f))++[indexOf out (ix c.frm (A.getD a default))]=(A.take (a+1)).map fun f=>indexOf out (ix c.frm f):=by rw [eA,List.map_append]; rfl
  rw [e1] at o ⊢;clear hX;refine tt ?_;refine sw o.swap fun H o=>?_
  have hX : LsO iI H0 H ((id12,st (.buf idn ((A.take (a+1)).map fun f=>indexOf out (ix c.frm f)).length) X2 X4)::(p2++(p4++r))) (.buf idn ((A.take (a+1)).map fun f=>indexOf out (ix c.frm f)).length) ((A.take (a+1)).map fun f=>indexOf out (ix c.frm f)):=.inr ⟨idn,rfl,o.swap⟩;clear o
  generalize (AV.buf idn ((A.take (a+1)).map fun f=>indexOf out (ix c.frm f)).length)=X1 at hX
  obtain ⟨q1,o,k1⟩:=hX.split;clear hX
  have hX : LsO iI H0 H ((id12,st X1 X2 X4)::(q1++(p4++r))) X2 ((A.take a).map fun f=>indexOf out (ix c.to f)):=LsO.mk (p:=p2) (o.pm) h2;clear o;refine tt ?_;refine rd_get hX.obj (by simp [st]) ?_;refine tt ?_;refine ⟨⟨hf.1,by omega⟩,⟨r2.1,by omega⟩, ?_⟩;rw [hP2];refine hX.app (indexOf out (ix c.to (A.getD a default))) rfl (by simp only [List.length_map,List.length_take,maxL]; omega) fun idn H o=>?_
  have e2 : ((A.take a).map fun f=>indexOf out (ix c.to f))++[indexOf out (ix c.to (A.getD a default))]=(A.take (a+1)).map fun f=>indexOf out (ix c.to f):=by rw [eA,List.map_append]; rfl
  rw [e2] at o ⊢;clear hX;refine tt ?_;refine sw o.swap fun H o=>?_
  have hX : LsO iI H0 H ((id12,st X1 (.buf idn ((A.take (a+1)).map fun f=>indexOf out (ix c.to f)).length) X4)::(q1++(p4++r))) (.buf idn ((A.take (a+1)).map fun f=>indexOf out (ix c.to f)).length) ((A.take (a+1)).map fun f=>indexOf out (ix c.to f)):=.inr ⟨idn,rfl,o.swap⟩;clear o
  generalize (AV.buf idn ((A.take (a+1)).map fun f=>indexOf out (ix c.to f)).length)=X2 at hX
  obtain ⟨q2,o,k2⟩:=hX.split;clear hX
  replace o : Owns H0 H (p4++(id12,st X1 X2 X4)::(q1++(q2++r))):=o.pm;refine tt ?_;refine new_list iI o fun idr H o=>tt ?_
  refine awp_for [0,1,4,6,10,11,12,16,82,83,84,119,120] (G:=Nat × List Int) (fun b g=>[(17,some (.buf g.1 g.2.length)),(121,some (.int .i64 (b : Int)))])
   (fun b g H=>g.2=(A.take b).map (fun g=>indexOf A (c.th (A.getD a default) g))∧Owns H0 H ((g.1,.cells 1 (g.2.map iI) 0)::(p4++(id12,st X1 X2 X4)::(q1++(q2++r))))) A.length (idr,[]) ⟨rfl,o⟩ rfl ?_
  clear o
  rintro b ⟨idr,row⟩ H hb ⟨hrow,o⟩;dsimp only at hrow o
  have hrl : row.length=b:=by rw [hrow,List.length_map,List.length_take]; omega
  refine tt ?_;apply bk <;> intro h2
  ·have h2p : b<A.length:=of_decide h2
   have w2:=wsucc (k:=b) (by omega)
   have hgA : A.getD b default∈A:=mem_getD.mpr ⟨b,h2p,rfl⟩
   have hg:=hAm _ hgA
   have rf:=hs.row' hf.2
   have hcl:=hs.cl
   have eB : (A.take (b+1)).map (fun g=>indexOf A (c.th (A.getD a default) g))=row++[indexOf A (c.th (A.getD a default) (A.getD b default))]:=by rw [take_one _ h2p,List.map_append,hrow]; rfl
   refine tt ?_;refine ⟨h2p,(catThen_ok B c (A.getD a default) (A.getD b default) ⟨hf.1,by omega⟩ ⟨hg.1,by omega⟩).go fun _=>?_⟩;rw [show ix (ix c.comp (A.getD a default)) (A.getD b default)=c.th (A.getD a default) (A.getD b default) from rfl]
   rcases hth _ _ hfA hgA with ⟨t1,t2,t3⟩ | ⟨t1,t2⟩
   ·have t1':=decide_eq_true t1
    have hNv : ix N (c.th (A.getD a default) (A.getD b default))=indexOf A (c.th (A.getD a default) (A.getD b default)):=by rw [hN,ix,numI_at ⟨t1,t2⟩ t3]
    try simp only [go_sem,↓reduceIte,reduceEqDiff,reduceAdd,reduceMul,reduceLeDiff,reduceLT,t1']
    refine ⟨⟨t1,by omega⟩, ?_⟩;rw [hNv];refine tt ?_;refine app_own (indexOf A (c.th (A.getD a default) (A.getD b default))) o rfl rfl (by simp only [maxL]; omega) fun z H o=>?_;refine tw w2 ?_;exact for_next (z,row++[indexOf A (c.th (A.getD a default) (A.getD b default))]) h2p ⟨eB.symm,o⟩ rfl
   ·rw [indexOf_neg t2] at eB;rw [t1]
    have t1' : decide ((0 : Int)≤-1)=false:=by decide
    try simp only [go_sem,↓reduceIte,reduceEqDiff,reduceAdd,reduceMul,reduceLeDiff,reduceLT,t1']
    refine app_own (-1 : Int) o rfl rfl (by simp only [maxL]; omega) fun z H o=>?_;refine tw w2 ?_;exact for_next (z,row++[(-1 : Int)]) h2p ⟨eB.symm,o⟩ rfl
  have h2p : b=A.length:=by have:=of_ndecide h2; omega
  rw [h2p,List.take_of_length_le (Nat.le_refl _)] at hrow;clear h2 h2p hrl hb;refine tt ?_;refine fz_own o rfl fun H o=>tt ?_
  have hX : LsO iL H0 H ((id12,st X1 X2 X4)::(q1++(q2++r))) X4 ((A.take a).map fun f=>A.map fun g=>indexOf A (c.th f g)):=LsO.mk o h4;clear o;refine tt ?_;refine rd_get hX.obj (by simp [st]) ?_;refine tt ?_;refine hX.app row rfl (by simp only [List.length_map,List.length_take,maxL]; omega) fun idn H o=>?_
  have e4 : ((A.take a).map fun f=>A.map fun g=>indexOf A (c.th f g))++[row]=(A.take (a+1)).map fun f=>A.map fun g=>indexOf A (c.th f g):=by rw [eA,List.map_append,hrow]; rfl
  rw [e4] at o ⊢;clear hX;refine tt ?_;refine sw o.swap fun H o=>?_
  have hX : LsO iL H0 H ((id12,st X1 X2 (.buf idn ((A.take (a+1)).map fun f=>A.map fun g=>indexOf A (c.th f g)).length))::(q1++(q2++r))) (.buf idn ((A.take (a+1)).map fun f=>A.map fun g=>indexOf A (c.th f g)).length) ((A.take (a+1)).map fun f=>A.map fun g=>indexOf A (c.th f g)):=.inr ⟨idn,rfl,o.swap⟩;clear o
  generalize (AV.buf idn ((A.take (a+1)).map fun f=>A.map fun g=>indexOf A (c.th f g)).length)=X4 at hX
  obtain ⟨q4,o,k4⟩:=hX.split;clear hX
  have hX : LsO iI H0 H ((id12,st X1 X2 X4)::(q2++(q4++r))) X1 ((A.take (a+1)).map fun f=>indexOf out (ix c.frm f)):=LsO.mk (p:=q1) (o.pm) k1;refine tw w1 ?_;exact for_next ((X1,X2,X4),q2,q4) h1p ⟨hX,k2,k4⟩ rfl
 ·have h1p : a=A.length:=by have:=of_ndecide h1; omega
  rw [h1p,List.take_of_length_le (Nat.le_refl _)] at hX h2 h4;refine tt ?_;refine wk_ls 1 hX rfl fun H o=>?_;clear hX;simp only [List.set_cons_zero,List.set_cons_succ] at o
  have hX:=LsO.mk (p:=p2) (o.perm List.perm_middle.symm) h2;clear o;refine wk_ls 2 hX rfl fun H o=>?_;clear hX;simp only [List.set_cons_zero,List.set_cons_succ] at o
  have hX:=LsO.mk (p:=p4) (o.perm List.perm_middle.symm) h4;clear o;refine wk_ls 4 hX rfl fun H o=>wkW_done ?_;clear hX;simp only [List.set_cons_zero,List.set_cons_succ] at o;subst hr;refine tt ?_;refine rd_celln o (by simp) ?_;refine tt ?_;refine sw (o.pull [_,_]) fun H o=>tt ?_;refine fz_own (o.pull [_,_]) rfl fun H o=>tt ?_
  have hr4:=o.rc 5 0 (by simp);simp only [List.drop_zero] at hr4;rw [hr4];exact pure_ret (by rw [hpf,hpt,hpi,hpc]; rfl) o.sub
theorem lead_sel2 (c : Cat) : selK (leadL c) c.objs.toNat=leadL c:=by
 rw [selK,leadL,leadK,nats]
 congr 1
 refine List.filter_congr fun x hx=>?_
 have hx:=List.mem_range.mp hx
 show decide ((x : Int)∈leadK c c.objs.toNat)=_
 by_cases e : repO c x=x
 ·rw [decide_eq_true (mem_leadK.mpr ⟨⟨by omega,by omega⟩,e⟩),dec_t e]
 ·rw [dec_f e];exact decide_eq_false fun h=>e (mem_leadK.mp h).2
theorem skSub_ok (B : Nat) (c : Cat) (hc : c.Is) : Pur Tryz.prog B 55 [.ptr c.cells,iL (fullA c (leadL c))] (.tup [.agg (skS c).cells,iL (leadL c)]):=sub_ok B c hc (leadL c) lead_sel (lead_sel2 c)
theorem skeleton_ok (B : Nat) (c : Cat) (hc : c.Is) : Pur Tryz.prog B 199 [.ptr c.cells] (.agg (skS c).cells):=by
 refine ⟨fun H0=>c199p (by simp) fun _=>?_⟩;unfold s199p
 have o : Owns H0 H0 []:=.nil _;refine tt ?_;refine newRef_own o fun id2 H o=>tt ?_;refine (skeletonArrows_ok B c hc).go fun _=>tt ?_;refine (skSub_ok B c hc).go fun _=>?_
 generalize skS c=S;refine tt ?_;refine newRef_own o fun id3 H o=>tt ?_;refine sw o fun H o=>tt ?_;refine rd_celln o (by simp) ?_;refine tt ?_;refine sw o.swap fun H o=>tt ?_
 have hr:=o.rc 5 0 (by simp);simp only [List.drop_zero] at hr;rw [hr];exact pure_ret rfl o.sub
theorem functor_ok (B : Nat) (c d : Cat) (ob ar : List Int) : Pur Tryz.prog B 84 [.ptr c.cells,.ptr d.cells,iL ob,iL ar] (.agg (FU.cells ⟨c,d,ob,ar⟩)):=by
 refine ⟨fun H0=>c84p (by simp) fun _=>?_⟩;unfold s84p
 have o : Owns H0 H0 []:=.nil _;refine tt ?_;refine nb o fun id8 H o=>tt ?_;refine (catCopy_ok B c).go fun _=>tt ?_;refine (catCopy_ok B d).go fun _=>tt ?_;refine (clone_ok B ob).go fun _=>tt ?_;refine (clone_ok B ar).go fun _=>tt ?_;refine sw o fun H o=>tt ?_
 have hr:=o.rc 12 0 (by simp);simp only [List.drop_zero] at hr;rw [hr];exact pure_ret rfl o.sub
def EndAt (k : FU) (a : Nat) : Prop:=ix k.tgt.frm (k.ar.getD a default)=ix k.ob (k.src.frm.getD a default)∧ix k.tgt.to (k.ar.getD a default)=ix k.ob (k.src.to.getD a default)
def IdnAt (k : FU) (x : Nat) : Prop:=ix k.ar (k.src.idn.getD x default)=ix k.tgt.idn (k.ob.getD x default)
def CmpAt (k : FU) (a b : Nat) : Prop:=0≤(k.src.comp.getD a default).getD b default→ix k.ar ((k.src.comp.getD a default).getD b default)=ix (ix k.tgt.comp (k.ar.getD a default)) (k.ar.getD b default)
theorem fits_ok (B : Nat) (k : FU) (hc : k.src.Shape) (hd : k.tgt.Shape) : Pur Tryz.prog B 148 [.ptr k.cells] (.bool (dec (k.Fit∧k.Laws))):=by
 refine ⟨fun H0=>c148p (by simp) fun hfi=>?_⟩;unfold s148p
 have hcm:=hc.m
 have hdm:=hd.m
 have hco:=hc.o
 have hdo:=hd.o
 have hctl:=hc.tol
 have hdtl:=hd.tol;refine tt ?_
 by_cases f1 : (k.ob.length : Int)=k.src.objs
 rotate_left
 ·have f1':=decide_eq_false f1;try simp only [go_sem,↓reduceIte,reduceEqDiff,reduceAdd,reduceMul,reduceLeDiff,reduceLT,f1',Bool.not_false]
  exact pure_ret (congrArg AV.bool (dec_f fun h=>f1 h.1.ol).symm) (.refl _)
 have f1':=decide_eq_true f1;try simp only [go_sem,↓reduceIte,reduceEqDiff,reduceAdd,reduceMul,reduceLeDiff,reduceLT,f1',Bool.not_true]
 refine ⟨_,(arrows_ok B k.src).run, ?_⟩
 by_cases f2 : (k.ar.length : Int)=k.src.frm.length
 rotate_left
 ·have f2':=decide_eq_false f2;try simp only [go_sem,↓reduceIte,reduceEqDiff,reduceAdd,reduceMul,reduceLeDiff,reduceLT,f2',Bool.not_false]
  exact pure_ret (congrArg AV.bool (dec_f fun h=>f2 (by have:=h.1.al; omega)).symm) (.refl _)
 have f2':=decide_eq_true f2;try simp only [go_sem,↓reduceIte,reduceEqDiff,reduceAdd,reduceMul,reduceLeDiff,reduceLT,f2',Bool.not_true]
 refine ⟨_,(within_ok B k.ob k.tgt.objs (by omega)).run, ?_⟩
 by_cases f3 : ∀ y,y∈k.ob→0≤y∧y<k.tgt.objs
 rotate_left
 ·rw [dec_f f3];try simp only [go_sem,↓reduceIte,reduceEqDiff,reduceAdd,reduceMul,reduceLeDiff,reduceLT,Bool.not_false]
  exact pure_ret (congrArg AV.bool (dec_f fun h=>f3 h.1.obr).symm) (.refl _)
 rw [dec_t f3];try simp only [go_sem,↓reduceIte,reduceEqDiff,reduceAdd,reduceMul,reduceLeDiff,reduceLT,Bool.not_true]
 refine ⟨_,(arrows_ok B k.tgt).run,tt ?_⟩;refine ⟨_,(within_ok B k.ar k.tgt.frm.length (by omega)).run, ?_⟩
 by_cases f4 : ∀ y,y∈k.ar→0≤y∧y<(k.tgt.frm.length : Int)
 rotate_left
 ·rw [dec_f f4];try simp only [go_sem,↓reduceIte,reduceEqDiff,reduceAdd,reduceMul,reduceLeDiff,reduceLT,Bool.not_false]
  exact pure_ret (congrArg AV.bool (dec_f fun h=>f4 h.1.arr).symm) (.refl _)
 rw [dec_t f4]
 have hF : k.Fit:=⟨f1,by omega,f3,f4⟩;try simp only [go_sem,↓reduceIte,reduceEqDiff,reduceAdd,reduceMul,reduceLeDiff,reduceLT,Bool.not_true]
 refine awp_for [0,3,4,64,65] (fun a _=>[(66,some (.int .i64 (a : Int)))]) (fun a _ H=>H=H0∧∀ i,i<a→EndAt k i) k.ar.length () ⟨rfl,by simp⟩ rfl ?_
 rintro a _ H ha ⟨rfl,hall⟩;refine tt ?_;apply bk <;> intro h1
 ·have h1p : a<k.ar.length:=of_decide h1
  have w1:=wsucc (k:=a) (by omega)
  have va:=f4 _ (mem_getD.mpr ⟨a,h1p,rfl⟩)
  have vs:=hc.frm' (f:=a) (by omega)
  have vt:=hc.to' (f:=a) (by omega)
  have hcil:=hc.il;refine tt ?_;refine ⟨h1p,⟨va.1,by omega⟩,by omega,⟨vs.1,by omega⟩, ?_⟩
  by_cases e1 : ix k.tgt.frm (k.ar.getD a default)=ix k.ob (k.src.frm.getD a default)
  rotate_left
  ·have e1':=decide_eq_false e1;try simp only [go_sem,↓reduceIte,reduceEqDiff,reduceAdd,reduceMul,reduceLeDiff,reduceLT,e1',Bool.not_false]
   exact pure_ret (congrArg AV.bool (dec_f fun h=>e1 (h.2.ends a (by omega)).1).symm) (.refl _)
  have e1':=decide_eq_true e1;try simp only [go_sem,↓reduceIte,reduceEqDiff,reduceAdd,reduceMul,reduceLeDiff,reduceLT,e1',Bool.not_true]
  refine ⟨⟨va.1,by omega⟩,by omega,⟨vt.1,by omega⟩, ?_⟩
  by_cases e2 : ix k.tgt.to (k.ar.getD a default)=ix k.ob (k.src.to.getD a default)
  rotate_left
  ·have e2':=decide_eq_false e2;try simp only [go_sem,↓reduceIte,reduceEqDiff,reduceAdd,reduceMul,reduceLeDiff,reduceLT,e2',Bool.not_false]
   exact pure_ret (congrArg AV.bool (dec_f fun h=>e2 (h.2.ends a (by omega)).2).symm) (.refl _)
  have e2':=decide_eq_true e2;try simp only [go_sem,↓reduceIte,reduceEqDiff,reduceAdd,reduceMul,reduceLeDiff,reduceLT,e2',Bool.not_true,w1]
  exact for_next () (by omega) ⟨rfl,lt_succ_all hall ⟨e1,e2⟩⟩ rfl
 have h1p : a=k.ar.length:=by have:=of_ndecide h1; omega
 have hends : ∀ i,i<k.src.frm.length→EndAt k i:=fun i hi=>hall i (by omega);clear h1 hall;subst h1p;refine tt ?_;refine awp_for [0,3,4,119,120] (fun x _=>[(121,some (.int .i64 (x : Int)))]) (fun x _ H'=>H'=H∧∀ i,i<x→IdnAt k i) k.src.idn.length () ⟨rfl,by simp⟩ rfl ?_
 rintro x _ H hx ⟨rfl,hall⟩;refine tt ?_;apply bk <;> intro h1
 ·have h1p : x<k.src.idn.length:=of_decide h1
  have hcil:=hc.il
  have hdil:=hd.il
  have w1:=wsucc (k:=x) (by omega)
  have vi:=hc.idn _ (mem_getD.mpr ⟨x,h1p,rfl⟩)
  have vo:=f3 _ (mem_getD.mpr ⟨x,(by omega : x<k.ob.length),rfl⟩);refine tt ?_;refine ⟨h1p,⟨vi.1,by omega⟩,by omega,⟨vo.1,by omega⟩, ?_⟩
  by_cases e1 : ix k.ar (k.src.idn.getD x default)=ix k.tgt.idn (k.ob.getD x default)
  rotate_left
  ·have e1':=decide_eq_false e1;try simp only [go_sem,↓reduceIte,reduceEqDiff,reduceAdd,reduceMul,reduceLeDiff,reduceLT,e1',Bool.not_false]
   exact pure_ret (congrArg AV.bool (dec_f fun h=>e1 (h.2.idn x h1p)).symm) (.refl _)
  have e1':=decide_eq_true e1;try simp only [go_sem,↓reduceIte,reduceEqDiff,reduceAdd,reduceMul,reduceLeDiff,reduceLT,e1',Bool.not_true,w1]
  exact for_next () (by omega) ⟨rfl,lt_succ_all hall e1⟩ rfl
 have h1p : x=k.src.idn.length:=by have:=of_ndecide h1; omega
 have hidn : ∀ i,i<k.src.idn.length→IdnAt k i:=fun i hi=>hall i (by omega);clear h1 hall;subst h1p;refine tt ?_
 have hccl:=hc.cl
 have hdcl:=hd.cl
 have hcmp : ∀ a b,a<k.src.frm.length→b<k.src.frm.length→0≤(k.src.comp.getD a default).getD b default→k.src.to.getD a default=k.src.frm.getD b default∧((k.src.comp.getD a default).getD b default).toNat<k.src.frm.length:=fun a b ha hb h=>by
  have e : k.src.to.getD a default=k.src.frm.getD b default:=by
   apply Classical.byContradiction; intro hn
   have:=hc.non a b ha hb hn;omega
  exact ⟨e,by have:=(hc.yes a b ha hb e).1; omega⟩
 refine awp_for [0,4,151,152] (fun a _=>[(153,some (.int .i64 (a : Int)))]) (fun a _ H'=>H'=H∧∀ i,i<a→∀ j,j<k.src.frm.length→CmpAt k i j) k.src.comp.length () ⟨rfl,by simp⟩ rfl ?_
 rintro a _ H ha ⟨rfl,hall⟩;refine tt ?_;apply bk <;> intro h1
 ·have h1p : a<k.src.comp.length:=of_decide h1
  have w1:=wsucc (k:=a) (by omega)
  have va:=f4 _ (mem_getD.mpr ⟨a,(by omega : a<k.ar.length),rfl⟩)
  have ra:=hc.row a (by omega)
  have rd:=hd.row' (a:=k.ar.getD a default) (by omega);refine tt ?_;refine ⟨h1p,tt ?_⟩;refine awp_for [0,4,9,151,152,153,158,159] (fun b _=>[(160,some (.int .i64 (b : Int)))]) (fun b _ H'=>H'=H∧∀ j,j<b→CmpAt k a j) (k.src.comp.getD a default).length () ⟨rfl,by simp⟩ rfl ?_
  rintro b _ H hb ⟨rfl,hrow⟩;refine tt ?_;apply bk <;> intro h2
  ·have h2p : b<(k.src.comp.getD a default).length:=of_decide h2
   have w2:=wsucc (k:=b) (by omega)
   have vb:=f4 _ (mem_getD.mpr ⟨b,(by omega : b<k.ar.length),rfl⟩);refine tt ?_;refine ⟨h2p, ?_⟩
   by_cases t : 0≤(k.src.comp.getD a default).getD b default
   ·obtain ⟨te,tl⟩:=hcmp a b (by omega) (by omega) t
    have t':=decide_eq_true t;try simp only [go_sem,↓reduceIte,reduceEqDiff,reduceAdd,reduceMul,reduceLeDiff,reduceLT,t']
    refine ⟨⟨t,by omega⟩,by omega,by omega,_,(catThen_ok B k.tgt (k.ar.getD a default) (k.ar.getD b default) ⟨va.1,by omega⟩ ⟨vb.1,by omega⟩).run, ?_⟩
    by_cases e1 : ix k.ar ((k.src.comp.getD a default).getD b default)=ix (ix k.tgt.comp (k.ar.getD a default)) (k.ar.getD b default)
    rotate_left
    ·have e1':=decide_eq_false e1;try simp only [go_sem,↓reduceIte,reduceEqDiff,reduceAdd,reduceMul,reduceLeDiff,reduceLT,e1',Bool.not_false]
     exact pure_ret (congrArg AV.bool (dec_f fun h=>e1 (h.2.comp a b (by omega) (by omega) te)).symm) (.refl _)
    have e1':=decide_eq_true e1;try simp only [go_sem,↓reduceIte,reduceEqDiff,reduceAdd,reduceMul,reduceLeDiff,reduceLT,e1',Bool.not_true,w2]
    exact for_next () (by omega) ⟨rfl,lt_succ_all hrow fun _=>e1⟩ rfl
   ·have t':=decide_eq_false t;try simp only [go_sem,↓reduceIte,reduceEqDiff,reduceAdd,reduceMul,reduceLeDiff,reduceLT,t',w2]
    exact for_next () (by omega) ⟨rfl,lt_succ_all hrow fun h=>absurd h t⟩ rfl
  have h2p : b=(k.src.comp.getD a default).length:=by have:=of_ndecide h2; omega
  have hrow2 : ∀ j,j<k.src.frm.length→CmpAt k a j:=fun j hj=>hrow j (by omega);clear h2 hrow;refine tw w1 ?_;exact for_next () (by omega) ⟨rfl,lt_succ_all hall hrow2⟩ rfl
 have h1p : a=k.src.comp.length:=by have:=of_ndecide h1; omega
 refine tt ?_;exact pure_ret (congrArg AV.bool (dec_t ⟨hF,hends,hidn,fun i j hi hj e=>hall i (by omega) j hj (hc.yes i j hi hj e).1.1⟩).symm) (.refl _)
end Go.Proofs.Shf
