/- Contracts, part 6. -/
import Derived.Test.YthflgdphhajkbaaGreatF5
set_option linter.unusedVariables false
set_option linter.unusedSimpArgs false
set_option linter.unusedSectionVars false
open Nat (reduceEqDiff reduceAdd reduceMul reduceLeDiff reduceLT)
namespace Go.Shf
open Go.AW
section
variable {c : Cat} {f g x y z : Int}
noncomputable def choO (c : Cat) (x : Int) : Int:=open Classical in if repO c x=x then ix c.idn x else leastI c x (repO c x)
theorem cho_inv (h : c.Is) (hx : 0≤x∧x<c.objs) : c.Inv (choO c x) (invF c (choO c x)) x (repO c x):=by
 have hi:=(repO_spec h hx).1
 by_cases e : repO c x=x
 ·have i:=Cat.Inv.id h hx;rw [choO,if_pos e,invF_eq h i,e];exact i
 ·obtain ⟨g,i⟩:=leastI_inv hi.symm;rw [choO,if_neg e,invF_eq h i];exact i
noncomputable def skArr (c : Cat) (f : Int) : Int:=c.th (c.th (invF c (choO c (ix c.frm f))) f) (choO c (ix c.to f))
theorem skArr_ar (h : c.Is) (a : c.Ar f x y) : c.Ar (skArr c f) (repO c x) (repO c y):=by
 rw [skArr,a.s,a.t];exact ((cho_inv h (a.src h)).b.comp h a).comp h (cho_inv h (a.tgt h)).a
theorem skArr_id (h : c.Is) (hx : 0≤x∧x<c.objs) : skArr c (ix c.idn x)=ix c.idn (repO c x):=by
 have a:=h.idA hx
 have i:=cho_inv h hx;rw [skArr,a.s,a.t,i.b.idr h,i.r]
theorem skArr_comp (h : c.Is) (a : c.Ar f x y) (b : c.Ar g y z) : skArr c (c.th f g)=c.th (skArr c f) (skArr c g):=by
 have ab:=a.comp h b
 have i:=cho_inv h (a.src h)
 have j:=cho_inv h (a.tgt h)
 have k:=cho_inv h (b.tgt h);rw [skArr,skArr,skArr,ab.s,ab.t,a.s,a.t,b.s,b.t]
 have q1 : c.th (c.th (c.th (invF c (choO c x)) f) (choO c y)) (c.th (c.th (invF c (choO c y)) g) (choO c z))=c.th (c.th (invF c (choO c x)) f) (c.th (choO c y) (c.th (c.th (invF c (choO c y)) g) (choO c z))) :=
  (i.b.comp h a).assoc h j.a ((j.b.comp h b).comp h k.a)
 have q2 : c.th (choO c y) (c.th (c.th (invF c (choO c y)) g) (choO c z))=c.th g (choO c z):=by
  rw [← j.a.assoc h (j.b.comp h b) k.a,← j.a.assoc h j.b b,j.l,b.idl h]
 rw [q1,q2,← (i.b.comp h a).assoc h b k.a,i.b.assoc h a b]
theorem skArr_inj (h : c.Is) (a : c.Ar f x y) (b : c.Ar g x y) (e : skArr c f=skArr c g) : f=g:=by
 have i:=cho_inv h (a.src h)
 have j:=cho_inv h (a.tgt h)
 have key : ∀ f,c.Ar f x y→c.th (choO c x) (c.th (skArr c f) (invF c (choO c y)))=f:=fun f a=>by
  rw [skArr,a.s,a.t,(i.b.comp h a).assoc h j.a j.b,j.l,(i.b.comp h a).idr h,← i.a.assoc h i.b a,i.l,a.idl h]
 rw [← key f a,← key g b,e]
theorem skArr_sur (h : c.Is) (hx : 0≤x∧x<c.objs) (hy : 0≤y∧y<c.objs) (b : c.Ar g (repO c x) (repO c y)) : ∃ f,c.Ar f x y∧skArr c f=g:=by
 have i:=cho_inv h hx
 have j:=cho_inv h hy
 have a:=(i.a.comp h b).comp h j.b;refine ⟨_,a, ?_⟩;rw [skArr,a.s,a.t,i.b.assoc h a j.a,(i.a.comp h b).assoc h j.b j.a,j.r,(i.a.comp h b).idr h,← i.b.assoc h i.a b,i.r,b.idl h]
noncomputable def skS (c : Cat) : Cat:=part c (leadL c)
noncomputable def skA (c : Cat) : List Int:=(List.range c.frm.length).map fun f : Nat=>indexOf (fullA c (leadL c)) (skArr c f)
noncomputable def skF (c : Cat) : FU:=⟨c,skS c,clsK c,skA c⟩
noncomputable def skE (c : Cat) : FU:=⟨skS c,c,leadL c,fullA c (leadL c)⟩
theorem lead_sel : Sel c (leadL c):=⟨leadL_nodup,fun x hx=>(mem_leadL.mp hx).1⟩
theorem skS_is (h : c.Is) : (skS c).Is:=part_is lead_sel h
theorem clsK_ix (h : c.Is) (hx : 0≤x∧x<c.objs) : ix (clsK c) x=indexOf (leadL c) (repO c x):=by
 rw [ix,clsK_at (by omega),Int.toNat_of_nonneg hx.1]
theorem skA_ix (hf : 0≤f∧f.toNat<c.frm.length) : ix (skA c) f=indexOf (fullA c (leadL c)) (skArr c f):=by
 rw [ix,skA,getD_map_range _ _ hf.2,Int.toNat_of_nonneg hf.1]
theorem skA_ar (h : c.Is) (a : c.Ar f x y) : (skS c).Ar (ix (skA c) f) (ix (clsK c) x) (ix (clsK c) y)∧ix (fullA c (leadL c)) (ix (skA c) f)=skArr c f:=by
 have h1:=ar_part lead_sel (skArr_ar h a) (rep_lead h (a.src h)) (rep_lead h (a.tgt h));rw [skA_ix a.r,clsK_ix h (a.src h),clsK_ix h (a.tgt h)];exact ⟨h1.2,idx_ix h1.1⟩
theorem cls_ran (h : c.Is) (hx : 0≤x∧x<c.objs) : (0≤ix (clsK c) x∧(ix (clsK c) x).toNat<(leadL c).length)∧ix (leadL c) (ix (clsK c) x)=repO c x:=by
 rw [clsK_ix h hx]
 have:=indexOf_in (rep_lead h hx);exact ⟨⟨this.1,this.2.1⟩,this.2.2⟩
theorem part_id {L : List Int} (s : Sel c L) (h : c.Is) (hx : 0≤x∧x.toNat<L.length) : ix (fullA c L) (ix (part c L).idn x)=ix c.idn (ix L x):=by
 have hxm:=ix_mem hx.2;rw [part_idn hx.2];exact idx_ix (ar_part s (h.idA (s.ran _ hxm)) hxm hxm).1
theorem fullA_inj {L : List Int} {i j : Int} (hi : 0≤i∧i.toNat<(fullA c L).length) (hj : 0≤j∧j.toNat<(fullA c L).length) (e : ix (fullA c L) i=ix (fullA c L) j) : i=j:=by
 rw [← indexOf_ix fullA_nodup hi,← indexOf_ix fullA_nodup hj,e]
theorem ar_self {f : Int} (hf : 0≤f∧f.toNat<c.frm.length) : c.Ar f (ix c.frm f) (ix c.to f):=⟨hf,rfl,rfl⟩
theorem fu_mk {k : FU} (h1 : k.src.Is) (h2 : k.tgt.Is) (ol : (k.ob.length : Int)=k.src.objs) (al : k.ar.length=k.src.frm.length) (ho : ∀ x,0≤x∧x<k.src.objs→0≤ix k.ob x∧ix k.ob x<k.tgt.objs)
  (ha : ∀ f x y,k.src.Ar f x y→k.tgt.Ar (ix k.ar f) (ix k.ob x) (ix k.ob y)) (hi : ∀ x,0≤x∧x<k.src.objs→ix k.ar (ix k.src.idn x)=ix k.tgt.idn (ix k.ob x))
  (hc : ∀ f g x y z,k.src.Ar f x y→k.src.Ar g y z→ix k.ar (k.src.th f g)=k.tgt.th (ix k.ar f) (ix k.ar g)) : k.Is:=by
 have hil:=h1.1.il;refine ⟨h1,h2,⟨ol,al,fun y hy=>?_,fun y hy=>?_⟩,⟨fun a haa=>?_,fun x hx=>?_,fun a b haa hb e=>?_⟩⟩
 ·obtain ⟨i,hi',rfl⟩:=mem_getD.mp hy
  have:=ho i (by omega);rw [ix_nat] at this; exact this
 ·obtain ⟨i,hi',rfl⟩:=mem_getD.mp hy
  have:=(ha i _ _ (ar_self (by omega))).r;rw [ix_nat] at this; omega
 ·have:=ha a _ _ (ar_self (by omega));rw [ix_nat,ix_nat,ix_nat] at this;exact ⟨this.s,this.t⟩
 ·have:=hi x (by omega);rw [ix_nat,ix_nat] at this;exact this
 ·have h3:=ar_self (c:=k.src) (f:=(a : Int)) (by omega)
  have h4:=ar_self (c:=k.src) (f:=(b : Int)) (by omega);rw [show ix k.src.frm (b : Int)=ix k.src.to (a : Int) from by rw [ix_nat,ix_nat]; exact e.symm] at h4
  have:=hc a b _ _ _ h3 h4;rw [Cat.th,Cat.th,ix_nat,ix_nat,ix_nat,ix_nat] at this;exact this
def FU.Full (k : FU) : Prop:=∀ x y : Int,(0≤x∧x<k.src.objs)→(0≤y∧y<k.src.objs)→∀ b,b∈hom k.tgt (ix k.ob x) (ix k.ob y)→b∈(hom k.src x y).map (ix k.ar)
def FU.Faith (k : FU) : Prop:=∀ a b : Int,(0≤a∧a.toNat<k.src.frm.length)→(0≤b∧b.toNat<k.src.frm.length)→ix k.ar a=ix k.ar b→ix k.src.frm a=ix k.src.frm b→ix k.src.to a=ix k.src.to b→a=b
def FU.Ess (k : FU) : Prop:=∀ y : Int,(0≤y∧y<k.tgt.objs)→∃ x,x∈k.ob∧IsoO k.tgt x y
theorem skF_is (h : c.Is) : (skF c).Is:=by
 have hob:=h.1.o;refine fu_mk h (skS_is h) (clsK_len h) (by simp [skF,skA]) (fun x hx=>?_) (fun f x y a=>(skA_ar h a).1) (fun x hx=>?_) fun f g x y z a b=>?_
 ·have:=(cls_ran h hx).1;exact ⟨this.1,by simp only [skF,skS,part]; omega⟩
 ·have hi:=skA_ar h (h.idA hx)
  have hr:=(cls_ran h hx)
  have hr2:=((part_ar lead_sel hr.1 hr.1).mp hi.1).1
  have i2:=(skS_is h).idA (x:=ix (clsK c) x) ⟨hr.1.1,by simp only [skS,part]; omega⟩;refine fullA_inj hr2 ((part_ar lead_sel hr.1 hr.1).mp i2).1 ?_
  show ix (fullA c (leadL c)) (ix (skA c) (ix c.idn x))=ix (fullA c (leadL c)) (ix (part c (leadL c)).idn (ix (clsK c) x))
  rw [hi.2,part_id lead_sel h hr.1,hr.2,skArr_id h hx]
 ·have ab:=a.comp h b
  have rx:=(cls_ran h (a.src h)).1
  have ry:=(cls_ran h (a.tgt h)).1
  have rz:=(cls_ran h (b.tgt h)).1
  have k1:=skA_ar h a
  have k2:=skA_ar h b
  have k3:=skA_ar h ab
  have pc:=part_comp lead_sel h rx ry rz k1.1 k2.1;refine fullA_inj ((part_ar lead_sel rx rz).mp k3.1).1 ((part_ar lead_sel rx rz).mp pc.1).1 ?_
  have q:=pc.2;rw [k1.2,k2.2,← skArr_comp h a b] at q;exact k3.2.trans q.symm
theorem skF_full (h : c.Is) : (skF c).Full:=by
 intro x y hx hy b hb
 replace hb : b∈hom (skS c) (ix (clsK c) x) (ix (clsK c) y):=hb
 have rx:=cls_ran h hx
 have ry:=cls_ran h hy
 obtain ⟨hr,a⟩:=(part_ar lead_sel rx.1 ry.1).mp (ar_hom.mp hb);rw [rx.2,ry.2] at a
 obtain ⟨f,af,e⟩:=skArr_sur h hx hy a;refine List.mem_map.mpr ⟨f,ar_hom.mpr af, ?_⟩
 show ix (skA c) f=b
 rw [skA_ix af.r,e,indexOf_ix fullA_nodup hr]
theorem skF_faith (h : c.Is) : (skF c).Faith:=by
 intro a b ha hb e e1 e2
 have aa:=ar_self ha
 have ab : c.Ar b (ix c.frm a) (ix c.to a):=⟨hb,e1.symm,e2.symm⟩;refine skArr_inj h aa ab ?_;rw [← (skA_ar h aa).2,← (skA_ar h ab).2];exact congrArg _ e
theorem skF_ess (h : c.Is) : (skF c).Ess:=by
 intro y hy
 replace hy : 0≤y∧y<((leadL c).length : Int):=hy
 have hm:=ix_mem (l:=leadL c) (i:=y) (by omega)
 have hx:=mem_leadL.mp hm;refine ⟨y, ?_,.refl (skS_is h) hy⟩
 have h1:=clsK_ix h hx.1;rw [hx.2,indexOf_ix leadL_nodup (by omega)] at h1
 show y∈clsK c
 rw [← h1];exact ix_mem (by have:=clsK_len h; omega)
theorem skE_is (h : c.Is) : (skE c).Is:=by
 have hpl : (part c (leadL c)).frm.length=(fullA c (leadL c)).length:=by simp [part]
 have hr : ∀ {f x y : Int},(skS c).Ar f x y→(0≤x∧x.toNat<(leadL c).length)∧(0≤y∧y.toNat<(leadL c).length):=fun {f x y} a=>by
  have h1:=a.src (skS_is h)
  have h2:=a.tgt (skS_is h);simp only [skS,part] at h1 h2;omega
 refine fu_mk (skS_is h) h rfl hpl.symm (fun x hx=>?_) (fun f x y a=>((part_ar lead_sel (hr a).1 (hr a).2).mp a).2) (fun x hx=>?_) fun f g x y z a b=>(part_comp lead_sel h (hr a).1 (hr a).2 (hr b).2 a b).2
 ·replace hx : 0≤x∧x<((leadL c).length : Int):=hx;exact (mem_leadL.mp (ix_mem (l:=leadL c) (i:=x) (by omega))).1
 ·replace hx : 0≤x∧x<((leadL c).length : Int):=hx;exact part_id lead_sel h (by omega)
theorem skE_full (h : c.Is) : (skE c).Full:=by
 intro x y hx hy b hb
 replace hx : 0≤x∧x<((leadL c).length : Int):=hx
 replace hy : 0≤y∧y<((leadL c).length : Int):=hy
 replace hb : b∈hom c (ix (leadL c) x) (ix (leadL c) y):=hb
 have h1:=ar_part lead_sel (ar_hom.mp hb) (ix_mem (by omega)) (ix_mem (by omega));rw [indexOf_ix leadL_nodup (by omega),indexOf_ix leadL_nodup (by omega)] at h1;exact List.mem_map.mpr ⟨_,ar_hom.mpr h1.2,idx_ix h1.1⟩
theorem skE_faith : (skE c).Faith:=by
 intro a b ha hb e _ _;simp only [skE,skS,part,List.length_map] at ha hb;exact fullA_inj ha hb e
theorem skE_ess (h : c.Is) : (skE c).Ess:=fun y hy=>⟨repO c y,rep_lead h hy,(repO_spec h hy).1⟩
theorem inv_part {i j : Int} (h : c.Is) (k : (skS c).Inv i j x y) : c.Inv (ix (fullA c (leadL c)) i) (ix (fullA c (leadL c)) j) (ix (leadL c) x) (ix (leadL c) y):=by
 have h1:=k.a.src (skS_is h)
 have h2:=k.a.tgt (skS_is h)
 have rx : 0≤x∧x.toNat<(leadL c).length:=by simp only [skS,part] at h1; omega
 have ry : 0≤y∧y.toNat<(leadL c).length:=by simp only [skS,part] at h2; omega
 have a:=(part_ar lead_sel rx ry).mp k.a
 have b:=(part_ar lead_sel ry rx).mp k.b
 have p1:=(part_comp lead_sel h rx ry rx k.a k.b).2
 have p2:=(part_comp lead_sel h ry rx ry k.b k.a).2;refine ⟨a.2,b.2, ?_, ?_⟩
 ·rw [← p1,← part_id lead_sel h rx]; exact congrArg _ k.l
 ·rw [← p2,← part_id lead_sel h ry]; exact congrArg _ k.r
theorem repO_S (h : c.Is) (hx : 0≤x∧x<(skS c).objs) : repO (skS c) x=x:=by
 have hs:=repO_spec (skS_is h) hx
 obtain ⟨i,j,k⟩:=hs.1
 have hr:=repO_ran (skS_is h) hx
 replace hx : 0≤x∧x<((leadL c).length : Int):=hx
 replace hr : 0≤repO (skS c) x∧repO (skS c) x<((leadL c).length : Int):=hr
 have iso : IsoO c (ix (leadL c) (repO (skS c) x)) (ix (leadL c) x):=⟨_,_,inv_part h k⟩
 have m1:=mem_leadL.mp (ix_mem (l:=leadL c) (i:=repO (skS c) x) (by omega))
 have m2:=mem_leadL.mp (ix_mem (l:=leadL c) (i:=x) (by omega))
 have e:=(repO_iff h m1.1 m2.1).mpr iso;rw [m1.2,m2.2] at e
 have hr2 : 0≤repO (skS c) x∧(repO (skS c) x).toNat<(leadL c).length:=by omega
 have q:=congrArg (indexOf (leadL c)) e;rw [indexOf_ix leadL_nodup hr2,indexOf_ix leadL_nodup (by omega)] at q;exact q
def idL (n : Nat) : List Int:=(List.range n).map Int.ofNat
theorem idL_len (n : Nat) : (idL n).length=n:=by simp [idL]
theorem idL_at {n i : Nat} (hi : i<n) : (idL n).getD i default=i:=by rw [idL,getD_map_range _ _ hi]; rfl
theorem idL_ix {n : Nat} {i : Int} (hi : 0≤i∧i.toNat<n) : ix (idL n) i=i:=by rw [ix,idL_at hi.2,Int.toNat_of_nonneg hi.1]
theorem idL_nodup (n : Nat) : (idL n).Nodup:=List.pairwise_map.mpr (List.nodup_range.imp fun {a b} h e=>h (Int.ofNat_inj.mp e))
theorem idL_idx {n : Nat} {i : Int} (hi : 0≤i∧i.toNat<n) : indexOf (idL n) i=i:=by
 have:=indexOf_ix (idL_nodup n) (k:=i) (by rw [idL_len]; exact hi);rw [idL_ix hi] at this; exact this
theorem lead_all (hr : ∀ x,0≤x∧x<c.objs→repO c x=x) : leadL c=idL c.objs.toNat:=by
 rw [leadL,leadK,idL]
 congr 1
 refine List.filter_eq_self.mpr fun x hx=>?_
 have:=List.mem_range.mp hx;exact dec_iff.mpr (hr x (by omega))
theorem full_all (h : c.Is) : fullA c (idL c.objs.toNat)=idL c.frm.length:=by
 rw [fullA,nats,idL]
 congr 1
 refine List.filter_eq_self.mpr fun f hf=>?_
 have hf:=List.mem_range.mp hf
 have h1:=h.1.frm _ (mem_getD.mpr ⟨f,hf,rfl⟩)
 have h2:=h.1.to _ (mem_getD.mpr ⟨f,by have:=h.1.tol; omega,rfl⟩)
 have hm : ∀ x : Int,0≤x∧x<c.objs→x∈idL c.objs.toNat:=fun x hx=>List.mem_map.mpr ⟨x.toNat,List.mem_range.mpr (by omega),Int.toNat_of_nonneg hx.1⟩;rw [Bool.and_eq_true,decide_eq_true_eq,decide_eq_true_eq];exact ⟨hm _ h1,hm _ h2⟩
def idF (c : Cat) : FU:=⟨c,c,idL c.objs.toNat,idL c.frm.length⟩
theorem skF_all (h : c.Is) (hr : ∀ x,0≤x∧x<c.objs→repO c x=x) : skF c=idF c:=by
 have hob:=h.1.o
 have e1:=lead_all hr
 have e2:=full_all h
 have e3 : skS c=c:=by rw [skS,e1]; exact part_all h
 have e4 : clsK c=idL c.objs.toNat:=by
  rw [clsK,e1,idL];refine List.map_congr_left fun x hx=>?_
  have:=List.mem_range.mp hx;rw [hr x (by omega)];exact idL_idx (by omega)
 have e5 : skA c=idL c.frm.length:=by
  rw [skA,e1,e2];refine List.map_congr_left fun f hf=>?_
  have hf:=List.mem_range.mp hf
  have a:=ar_self (c:=c) (f:=(f : Int)) (by omega)
  have cx : ∀ x,0≤x∧x<c.objs→choO c x=ix c.idn x:=fun x hx=>by rw [choO,if_pos (hr x hx)]
  rw [skArr,cx _ (a.src h),cx _ (a.tgt h),invF_eq h (Cat.Inv.id h (a.src h)),a.idl h,a.idr h];exact idL_idx (by omega)
 rw [skF,e3,e4,e5,idF]
theorem skF_S (h : c.Is) : skF (skS c)=idF (skS c):=skF_all (skS_is h) fun x hx=>repO_S h hx
theorem skS_S (h : c.Is) : skS (skS c)=skS c:=congrArg FU.tgt (skF_S h)
def thenL (l m : List Int) : List Int:=l.map fun i=>ix m i
theorem thenL_id {n : Nat} {m : List Int} (h : m.length=n) : thenL (idL n) m=m:=by
 refine List.ext_getElem (by simp [thenL,idL_len,h]) fun i h1 h2=>?_
 have hi : i<n:=by omega
 have e : (idL n)[i]'(by rw [idL_len]; exact hi)=(i : Int):=by simp [idL]
 simp only [thenL,List.getElem_map];rw [e,ix_nat]
 simp [List.getD_eq_getElem?_getD,h2]
end
end Go.Shf
namespace Go.Shf
open Go.AW
theorem getD_setI {A : List Int} {i j : Nat} {v : Int} (h : i<A.length) : (A.set i v).getD j default=if i=j then v else A.getD j default:=by
 rw [List.getD_eq_getElem?_getD,List.getElem?_set]
 by_cases e : i=j
 ·rw [if_pos e,if_pos e,if_pos (e ▸ h)]; rfl
 ·rw [if_neg e,if_neg e,List.getD_eq_getElem?_getD]
def negs (A : List Int) : Nat:=A.countP fun x=>decide (x<0)
theorem negs_set : ∀ {A : List Int} {i : Nat} {v : Int},i<A.length→A.getD i default<0→0≤v→negs (A.set i v)+1=negs A
 | [],i,v,h,_,_=>by simp at h
 | x::r,0,v,_,hx,hv=>by
  have hx' : decide (x<0)=true:=decide_eq_true hx
  have hv' : decide (v<0)=false:=decide_eq_false (by omega)
  simp [negs,List.countP_cons,hx',hv']
 | x::r,i+1,v,h,hx,hv=>by
  have ih:=negs_set (A:=r) (i:=i) (v:=v) (by simpa using h) (by simpa using hx) hv;simp only [negs,List.set_cons_succ,List.countP_cons] at ih ⊢;omega
structure ExtA (A B : List Int) : Prop where
 len : B.length=A.length
 keep : ∀ i : Nat,i<A.length→0≤A.getD i default→B.getD i default=A.getD i default
theorem ExtA.refl (A : List Int) : ExtA A A:=⟨rfl,fun _ _ _=>rfl⟩
theorem ExtA.trans {A B C : List Int} (h : ExtA A B) (k : ExtA B C) : ExtA A C :=
 ⟨k.len.trans h.len,fun i hi h0=>(k.keep i (by rw [h.len]; exact hi) (by rw [h.keep i hi h0]; exact h0)).trans (h.keep i hi h0)⟩
theorem ExtA.set {A : List Int} {i : Nat} {v : Int} (h : i<A.length) (hn : A.getD i default<0) : ExtA A (A.set i v):=by
 refine ⟨by simp,fun j hj h0=>?_⟩;rw [getD_setI h,if_neg]
 rintro rfl; omega
structure ParA (c : Cat) (A : List Int) : Prop where
 len : A.length=c.frm.length
 par : ∀ i : Nat,i<A.length→A.getD i default=-1∨c.Ar (A.getD i default) (c.frm.getD i default) (c.to.getD i default)
structure IdA (c : Cat) (A : List Int) : Prop where
 len : A.length=c.frm.length
 idn : ∀ i : Nat,i<A.length→A.getD i default=-1∨A.getD i default=i
def DistA (A : List Int) : Prop:=∀ i j : Nat,i<A.length→j<A.length→0≤A.getD i default→A.getD i default=A.getD j default→i=j
section
variable {c : Cat} {A : List Int}
theorem ar_nat {i : Nat} (h : i<c.frm.length) : c.Ar (i : Int) (c.frm.getD i default) (c.to.getD i default):=⟨by omega,ix_nat _ _,ix_nat _ _⟩
theorem IdA.parA (h : IdA c A) : ParA c A:=⟨h.len,fun i hi=>(h.idn i hi).imp id fun e=>by rw [e]; exact ar_nat (by rw [← h.len]; exact hi)⟩
theorem IdA.dist (h : IdA c A) : DistA A:=fun i j hi hj h0 e=>by
 rcases h.idn i hi with a | a <;> rcases h.idn j hj with b | b <;> omega
theorem ParA.set (h : ParA c A) {i : Nat} {v : Int} (hi : i<A.length) (a : c.Ar v (c.frm.getD i default) (c.to.getD i default)) : ParA c (A.set i v):=by
 refine ⟨by rw [List.length_set,h.len],fun j hj=>?_⟩;rw [List.length_set] at hj;rw [getD_setI hi]
 by_cases e : i=j
 ·rw [if_pos e]; exact .inr (e ▸ a)
 ·rw [if_neg e]; exact h.par j hj
theorem IdA.set (h : IdA c A) {i : Nat} (hi : i<A.length) : IdA c (A.set i i):=by
 refine ⟨by rw [List.length_set,h.len],fun j hj=>?_⟩;rw [List.length_set] at hj;rw [getD_setI hi]
 by_cases e : i=j
 ·rw [if_pos e]; exact .inr (by rw [e])
 ·rw [if_neg e]; exact h.idn j hj
theorem IdA.known (h : IdA c A) {i : Nat} (hi : i<A.length) (h0 : 0≤A.getD i default) : A.getD i default=i:=by
 rcases h.idn i hi with a | a
 ·omega
 ·exact a
theorem ParA.known (h : ParA c A) {i : Nat} (hi : i<A.length) (h0 : 0≤A.getD i default) : c.Ar (A.getD i default) (c.frm.getD i default) (c.to.getD i default):=by
 rcases h.par i hi with a | a
 ·omega
 ·exact a
theorem th_meets (h : c.Is) {a b : Nat} (ha : a<c.frm.length) (hb : b<c.frm.length) (hh : 0≤(c.comp.getD a default).getD b default) :
  c.to.getD a default=c.frm.getD b default:=by
 refine Classical.byContradiction fun e=>?_
 have:=h.1.non a b ha hb e;omega
theorem th_ran (h : c.Is) {a b : Nat} (ha : a<c.frm.length) (hb : b<c.frm.length) : (c.comp.getD a default).getD b default<c.frm.length:=by
 by_cases e : c.to.getD a default=c.frm.getD b default
 ·exact (h.1.yes a b ha hb e).1.2
 ·have:=h.1.non a b ha hb e; omega
theorem ParA.th (h : c.Is) (p : ParA c A) {a b : Nat} (ha : a<A.length) (hb : b<A.length) (hA : 0≤A.getD a default) (hB : 0≤A.getD b default)
  {t : Nat} (hh : (c.comp.getD a default).getD b default=(t : Int)) : t<A.length∧c.Ar (c.th (A.getD a default) (A.getD b default)) (c.frm.getD t default) (c.to.getD t default):=by
 have pl:=p.len
 have e:=th_meets h (a:=a) (b:=b) (by omega) (by omega) (by omega)
 have k1:=p.known ha hA
 have k2:=p.known hb hB;rw [← e] at k2
 have ab:=(ar_nat (c:=c) (i:=a) (by omega)).comp h (e ▸ ar_nat (c:=c) (i:=b) (by omega))
 have et : c.th (a : Int) (b : Int)=t:=by rw [Cat.th,ix_nat,ix_nat,hh]
 rw [et] at ab
 have hr:=ab.r
 have hs:=ab.s
 have ht:=ab.t;rw [ix_nat] at hs ht;refine ⟨by omega, ?_⟩;rw [hs,ht];exact k1.comp h k2
end
def whichI (h f g : Int) : Int:=(if h=f then 1 else 0)+(if h=g then 2 else 0)
def look1 (c : Cat) (cs : List Int) (f g : Int) : List (List Int) :=
 (if 0≤c.th f g then [[0,ix cs g,ix cs (c.th f g),whichI (c.th f g) f g]] else [])++(if 0≤c.th g f then [[1,ix cs g,ix cs (c.th g f),whichI (c.th g f) f g]] else [])
def lookK (c : Cat) (cs : List Int) (f : Int) : Nat→List (List Int)
 | 0=>[]
 | k+1=>lookK c cs f k++look1 c cs f k
theorem look1_len {c : Cat} {cs : List Int} {f g : Int} : (look1 c cs f g).length≤2:=by
 rw [look1,List.length_append]
 split <;> split <;> simp
theorem lookK_len (c : Cat) (cs : List Int) (f : Int) : ∀ k,(lookK c cs f k).length≤2*k
 | 0=>Nat.le_refl _
 | k+1=>by
  have:=lookK_len c cs f k
  have:=look1_len (c:=c) (cs:=cs) (f:=f) (g:=k);rw [lookK,List.length_append]; omega
theorem look1_four {c : Cat} {cs : List Int} {f g : Int} {l : List Int} (h : l∈look1 c cs f g) : l.length=4:=by
 rw [look1,List.mem_append] at h
 rcases h with h | h
 all_goals
  split at h
  ·rw [List.mem_singleton.mp h]; rfl
  ·exact (List.not_mem_nil h).elim
theorem lookK_four {c : Cat} {cs : List Int} {f : Int} : ∀ {k : Nat} {l : List Int},l∈lookK c cs f k→l.length=4
 | 0,l,h=>(List.not_mem_nil h).elim
 | k+1,l,h=>by
  rw [lookK,List.mem_append] at h;exact h.elim lookK_four look1_four
open Classical in
noncomputable def sortI (l : List (List Int)) : List (List Int):=if h : ∃ M : List (List Int),M.Perm l∧M.Pairwise (fun s t=>cmp s t≤0) then Classical.choose h else []
theorem sortI_eq {l M : List (List Int)} (h1 : M.Perm l) (h2 : M.Pairwise fun s t=>cmp s t≤0) : sortI l=M:=by
 have h : ∃ M : List (List Int),M.Perm l∧M.Pairwise fun s t=>cmp s t≤0:=⟨M,h1,h2⟩
 have hs:=Classical.choose_spec h;rw [sortI,dif_pos h];exact List.Perm.eq_of_pairwise (le:=fun s t=>cmp s t≤0) (fun a b _ _ k1 k2=>cmp_zero.mp (by have:=cmp_neg a b; omega)) hs.2 h2 (hs.1.trans h1.symm)
theorem sortI_perm (l : List (List Int)) : (sortI l).Perm l:=by
 have hle : ∀ s t : List Int,cmp s t≤0∨cmp t s≤0:=fun s t=>by have:=cmp_neg s t; omega
 have h : ∃ M : List (List Int),M.Perm l∧M.Pairwise fun s t=>cmp s t≤0:=by
  refine ⟨l.mergeSort (fun s t=>decide (cmp s t≤0)),List.mergeSort_perm _ _, ?_⟩
  have:=List.pairwise_mergeSort (le:=fun s t=>decide (cmp s t≤0)) (fun a b c h k=>decide_eq_true (cmp_le_trans (of_decide_eq_true h) (of_decide_eq_true k))) (fun a b=>by
   rcases hle a b with h | h
   ·rw [decide_eq_true h]; rfl
   ·rw [decide_eq_true h,Bool.or_true]) l
  exact this.imp fun h=>of_decide_eq_true h
 rw [sortI,dif_pos h];exact (Classical.choose_spec h).1
theorem flatten_four : ∀ {l : List (List Int)},(∀ t,t∈l→t.length≤4)→l.flatten.length≤4*l.length
 | [],_=>Nat.le_refl _
 | a::r,h=>by
  have h1:=h a (by simp)
  have h2:=flatten_four (l:=r) fun t ht=>h t (by simp [ht]);rw [List.flatten_cons,List.length_append,List.length_cons]; omega
noncomputable def lookF (c : Cat) (cs : List Int) (f : Int) : List Int:=ix cs f::(sortI (lookK c cs f c.frm.length)).flatten
def kindK (L : List (List Int)) : Nat→List (List Int)
 | 0=>[]
 | k+1=>if L.getD k default∈kindK L k then kindK L k else kindK L k++[L.getD k default]
theorem kindK_len (L : List (List Int)) : ∀ k,(kindK L k).length≤k
 | 0=>Nat.le_refl _
 | k+1=>by
  have:=kindK_len L k;rw [kindK]; split
  ·omega
  ·rw [List.length_append,List.length_singleton]; omega
theorem mem_kindK {L : List (List Int)} : ∀ {k : Nat} {l : List Int},l∈kindK L k↔∃ i,i<k∧L.getD i default=l
 | 0,l=>⟨fun h=>(List.not_mem_nil h).elim,fun ⟨i,h,_⟩=>by omega⟩
 | k+1,l=>by
  rw [kindK]
  split
  ·rename_i hm
   rw [mem_kindK];refine ⟨fun ⟨i,h1,h2⟩=>⟨i,by omega,h2⟩,fun ⟨i,h1,h2⟩=>?_⟩
   by_cases e : i=k
   ·rw [← h2,e]; exact mem_kindK.mp hm
   ·exact ⟨i,by omega,h2⟩
  ·rw [List.mem_append,mem_kindK,List.mem_singleton]
   constructor
   ·rintro (⟨i,h1,h2⟩ | rfl)
    ·exact ⟨i,by omega,h2⟩
    ·exact ⟨k,by omega,rfl⟩
   ·rintro ⟨i,h1,h2⟩
    by_cases e : i=k
    ·exact .inr (by rw [← h2,e])
    ·exact .inl ⟨i,by omega,h2⟩
theorem kindK_nodup (L : List (List Int)) : ∀ k,(kindK L k).Nodup
 | 0=>List.nodup_nil
 | k+1=>by
  rw [kindK]
  split
  ·exact kindK_nodup L k
  ·rename_i hm
   refine List.nodup_append.mpr ⟨kindK_nodup L k,by simp,fun a ha b hb=>?_⟩;rw [List.mem_singleton.mp hb]
   rintro rfl; exact hm ha
def Cols (n : Nat) (cs : List Int) (m : Nat) : Prop:=cs.length=n∧∃ W : List Int,W.Nodup∧W.length=m∧∀ x,x∈W→∃ i,i<n∧cs.getD i default=x
noncomputable def looks (c : Cat) (cs : List Int) : List (List Int):=(List.range c.frm.length).map fun f : Nat=>lookF c cs f
theorem looks_len (c : Cat) (cs : List Int) : (looks c cs).length=c.frm.length:=by simp [looks]
theorem looks_at {c : Cat} {cs : List Int} {k : Nat} (h : k<c.frm.length) : (looks c cs).getD k default=lookF c cs k:=by rw [looks,getD_map_range _ _ h]
noncomputable def kinds (c : Cat) (cs : List Int) : List (List Int):=kindK (looks c cs++looks c cs) (c.frm.length+c.frm.length)
noncomputable def newC (c : Cat) (cs : List Int) : List Int:=(List.range c.frm.length).map fun f : Nat=>indexOf (kinds c cs) (lookF c cs f)
theorem looks2_at {c : Cat} {cs : List Int} {i : Nat} (h : i<c.frm.length+c.frm.length) : (looks c cs++looks c cs).getD i default=lookF c cs (if i<c.frm.length then i else i - c.frm.length : Nat):=by
 have hl:=looks_len c cs;rw [List.getD_eq_getElem?_getD,List.getElem?_append]
 split
 ·rename_i h1
  rw [if_pos (by omega),← looks_at (by omega),List.getD_eq_getElem?_getD]
 ·rename_i h1
  rw [if_neg (by omega),← looks_at (by omega),List.getD_eq_getElem?_getD,hl]
theorem mem_kinds {c : Cat} {cs : List Int} {l : List Int} : l∈kinds c cs↔∃ i,i<c.frm.length∧lookF c cs (i : Nat)=l:=by
 rw [kinds,mem_kindK]
 constructor
 ·rintro ⟨i,h1,h2⟩;rw [looks2_at h1] at h2
  split at h2
  ·exact ⟨i,by assumption,h2⟩
  ·exact ⟨_,by omega,h2⟩
 ·rintro ⟨i,h1,h2⟩;refine ⟨i,by omega, ?_⟩;rw [looks2_at (by omega),if_pos h1]; exact h2
theorem Cols.grow {c : Cat} {cs : List Int} {m : Nat} (h : Cols c.frm.length cs m) : m≤(kinds c cs).length∧Cols c.frm.length (newC c cs) (kinds c cs).length:=by
 obtain ⟨hl,W,h1,h2,h3⟩:=h
 constructor
 ·have:=List.Nodup.length_le_of_subset (l₁:=W) (l₂:=(kinds c cs).map fun l=>l.headD 0) h1 fun x hx=>by
   obtain ⟨i,hi,e⟩:=h3 x hx;refine List.mem_map.mpr ⟨lookF c cs (i : Nat),mem_kinds.mpr ⟨i,hi,rfl⟩, ?_⟩;rw [lookF,ix_nat,e]; rfl
  simp only [List.length_map] at this;omega
 ·refine ⟨by simp [newC],idL (kinds c cs).length,idL_nodup _,idL_len _,fun x hx=>?_⟩
  obtain ⟨k,hk,rfl⟩:=List.mem_map.mp hx
  have hk:=List.mem_range.mp hk
  have hm : (kinds c cs).getD k default∈kinds c cs:=mem_getD.mpr ⟨k,hk,rfl⟩
  obtain ⟨i,hi,e⟩:=mem_kinds.mp hm;refine ⟨i,hi, ?_⟩;rw [newC,getD_map_range _ _ hi,e];exact indexOf_nodup (kindK_nodup _ _) hk
theorem kinds_len (c : Cat) (cs : List Int) : (kinds c cs).length≤2*c.frm.length:=by
 have:=kindK_len (looks c cs++looks c cs) (c.frm.length+c.frm.length);rw [kinds]; omega
theorem hom_pw (c : Cat) (x y : Int) : (hom c x y).Pairwise (·<·):=rising_pw.mp (nats_rising _ _)
theorem hom_reach {c : Cat} {f : Nat} (hf : f<c.frm.length) : ∃ j,j<(hom c (c.frm.getD f default) (c.to.getD f default)).length∧(hom c (c.frm.getD f default) (c.to.getD f default)).getD j default=f :=
 mem_getD.mp (ar_hom.mpr (ar_nat hf))
theorem hom_le {c : Cat} {f k : Nat} (hf : f<c.frm.length) (hk : k<(hom c (c.frm.getD f default) (c.to.getD f default)).length)
  (hall : ∀ j,j<k→(hom c (c.frm.getD f default) (c.to.getD f default)).getD j default<f) : (hom c (c.frm.getD f default) (c.to.getD f default)).getD k default≤f:=by
 obtain ⟨j,hj,e⟩:=hom_reach hf
 have hp:=List.pairwise_iff_getElem.mp (hom_pw c (c.frm.getD f default) (c.to.getD f default))
 generalize hom c (c.frm.getD f default) (c.to.getD f default)=L at *
 rcases Nat.lt_trichotomy j k with q | q | q
 ·have:=hall j q; omega
 ·rw [← q,e]; exact Int.le_refl _
 ·have:=hp k j hk hj q;simp only [List.getD_eq_getElem?_getD,List.getElem?_eq_getElem hk,List.getElem?_eq_getElem hj,Option.getD_some] at e ⊢;omega
theorem hom_stop {c : Cat} {f : Nat} (hf : f<c.frm.length) (hall : ∀ j,j<(hom c (c.frm.getD f default) (c.to.getD f default)).length→(hom c (c.frm.getD f default) (c.to.getD f default)).getD j default<f) : False:=by
 obtain ⟨j,hj,e⟩:=hom_reach hf
 have:=hall j hj; omega
theorem idA_full {c : Cat} {A : List Int} (h : IdA c A) (h0 : ∀ i,i<A.length→0≤A.getD i default) : A=idL c.frm.length:=by
 refine List.ext_getElem (by rw [h.len,idL_len]) fun i h1 h2=>?_
 have:=h.known h1 (h0 i h1)
 have e2:=idL_at (n:=c.frm.length) (i:=i) (by have:=h.len; omega);simp only [List.getD_eq_getElem?_getD,List.getElem?_eq_getElem h1,List.getElem?_eq_getElem h2,Option.getD_some] at this e2;rw [this,e2]
theorem IdA.not_mem {c : Cat} {A : List Int} (h : IdA c A) {f : Nat} (hf : f<A.length) (hn : A.getD f default<0) : (f : Int) ∉ A:=fun hm=>by
 obtain ⟨i,hi,e⟩:=mem_getD.mp hm
 rcases h.idn i hi with a | a
 ·omega
 ·have : i=f:=by omega
  subst this; omega
theorem idL_succ (n : Nat) : idL n++[(n : Int)]=idL (n+1):=by rw [idL,idL,List.range_succ,List.map_append]; rfl
noncomputable def markK (A : List Int) (n k : Nat) : List Bool:=(List.range n).map fun v : Nat=>dec (∃ i,i<k∧A.getD i default=(v : Int))
theorem markK_len (A : List Int) (n k : Nat) : (markK A n k).length=n:=by simp [markK]
theorem markK_at {A : List Int} {n k v : Nat} (h : v<n) : (markK A n k).getD v default=dec (∃ i,i<k∧A.getD i default=(v : Int)):=by rw [markK,getD_map_range _ _ h]
theorem markK_zero (A : List Int) (n : Nat) : markK A n 0=List.replicate n false:=by
 refine List.ext_getElem (by simp [markK]) fun i h1 h2=>?_;simp only [markK,List.getElem_map,List.getElem_range,List.getElem_replicate];exact dec_f fun ⟨j,hj,_⟩=>by omega
theorem markK_neg {A : List Int} {n k : Nat} (h : A.getD k default<0) : markK A n (k+1)=markK A n k:=by
 refine List.map_congr_left fun v _=>?_;refine dec_congr ⟨fun ⟨i,hi,e⟩=>?_,fun ⟨i,hi,e⟩=>⟨i,by omega,e⟩⟩
 by_cases q : i=k
 ·subst q; omega
 ·exact ⟨i,by omega,e⟩
theorem markK_pos {A : List Int} {n k v : Nat} (hv : v<n) (h : A.getD k default=(v : Int)) : markK A n (k+1)=(markK A n k).set v true:=by
 refine List.ext_getElem (by simp [markK]) fun u h1 h2=>?_
 have hu : u<n:=by simpa [markK] using h1
 rw [List.getElem_set];simp only [markK,List.getElem_map,List.getElem_range]
 by_cases e : v=u
 ·subst e; rw [if_pos rfl]; exact dec_t ⟨k,by omega,h⟩
 ·rw [if_neg e];refine dec_congr ⟨fun ⟨i,hi,e2⟩=>?_,fun ⟨i,hi,e2⟩=>⟨i,by omega,e2⟩⟩
  by_cases q : i=k
  ·subst q; omega
  ·exact ⟨i,by omega,e2⟩
def DistK (A : List Int) (k : Nat) : Prop:=∀ i j : Nat,i<k→j<k→0≤A.getD i default→A.getD i default=A.getD j default→i=j
theorem DistK.neg {A : List Int} {k : Nat} (h : DistK A k) (hn : A.getD k default<0) : DistK A (k+1):=fun i j hi hj h0 e=>by
 by_cases q1 : i=k
 ·subst q1; omega
 ·by_cases q2 : j=k
  ·subst q2; omega
  ·exact h i j (by omega) (by omega) h0 e
theorem DistK.pos {A : List Int} {k : Nat} (h : DistK A k) (hn : ¬ ∃ i,i<k∧A.getD i default=A.getD k default) : DistK A (k+1):=fun i j hi hj h0 e=>by
 by_cases q1 : i=k
 ·by_cases q2 : j=k
  ·omega
  ·subst q1; exact (hn ⟨j,by omega,e.symm⟩).elim
 ·by_cases q2 : j=k
  ·subst q2; exact (hn ⟨i,by omega,e⟩).elim
  ·exact h i j (by omega) (by omega) h0 e
theorem not_dist {A : List Int} {k i : Nat} (hk : k<A.length) (hi : i<k) (h0 : 0≤A.getD k default) (e : A.getD i default=A.getD k default) : ¬ DistA A:=fun h=>by
 have:=h k i hk (by omega) h0 e.symm; omega
theorem dist_full {A : List Int} (h : DistK A A.length) : DistA A:=h
end Go.Shf
namespace Go.Proofs.Shf
open Go.AW Go.Proofs Go.Shf
theorem l02Hom_ok (B : Nat) (c : Cat) (s : c.Shape) (x y : Int) : Pur Tryz.prog B 142 [.agg c.cells,iI x,iI y] (iL (homC c x y)):=by
 refine ⟨fun H0=>c142 (by simp) fun _=>?_⟩;unfold s142
 have o : Owns H0 H0 []:=.nil _
 have hm:=s.m
 have htl:=s.tol;refine tt ?_;refine new_list iI o fun id H o=>tt ?_
 refine awp_for [1,2,3] (G:=Nat × List Int) (fun k g=>[(7,some (.buf g.1 g.2.length)),(8,some (.int .i64 (k : Int)))])
  (fun k g H=>g.2=homK c x y k∧Owns H0 H [(g.1,.cells 1 (g.2.map iI) 0)]) c.frm.length (id,[]) ⟨rfl,o⟩ rfl ?_
 clear o
 rintro k ⟨id,out⟩ H hk ⟨hout,o⟩;dsimp only at hout o
 have houl : out.length≤k:=by rw [hout]; exact homK_len _ _ _
 refine tt ?_;apply bk <;> intro h1
 ·have h1p : k<c.frm.length:=of_decide h1
  have w1:=wsucc (k:=k) (by omega);refine tt ?_;refine ⟨h1p, ?_⟩
  by_cases e1 : c.frm.getD k default=x
  ·rw [decide_eq_true e1];refine tt ?_;refine ⟨by omega, ?_⟩
   by_cases e2 : c.to.getD k default=y
   ·rw [decide_eq_true e2];refine tt ?_;refine app_own (k : Int) o rfl rfl (by simp only [maxL]; omega) fun z H o=>?_;refine tw w1 ?_;exact for_next (z,out++[(k : Int)]) h1p ⟨by rw [hout,homK_t e1 e2],o⟩ rfl
   ·rw [decide_eq_false e2];refine tw w1 ?_;exact for_next (id,out) h1p ⟨by rw [hout,homK_f fun h=>e2 h.2],o⟩ rfl
  ·rw [decide_eq_false e1];refine tw w1 ?_;exact for_next (id,out) h1p ⟨by rw [hout,homK_f fun h=>e1 h.1],o⟩ rfl
 ·have h1p:=of_ndecide h1
  have ek : k=c.frm.length:=by omega
  rw [ek,homK_full] at hout;refine tt ?_;refine fz_own o rfl fun H o=>tt ?_;exact pure_ret (by rw [hout]) o.sub
def RootK (n : Nat) (N : List (Int × Int)) (j : List Int) (x : Int) (id : Nat) (H0 : Heap) (l : Ob) : Kont:=fun r H'=>∃ (a : Int) (j' : List Int),r=iI a∧JoinOk n N j'∧Root j x a∧InR n a∧(∀ y r,InR n y→Root j y r→Root j' y r)∧Owns H0 H' ((id,.cells 1 (j'.map iI) 0)::l)
theorem root_own (B : Nat) {n : Nat} {N : List (Int × Int)} {j : List Int} (k : JoinOk n N j) (x : Int) (hx : InR n x) {H0 H : Heap} {l : Ob} {id : Nat} (o : Owns H0 H ((id,.cells 1 (j.map iI) 0)::l)) :
  CallH Tryz.prog B 277 [.buf id n,iI x] H (RootK n N j x id H0 l):=by
 refine c277 (by simp) fun _=>?_
 obtain ⟨a,hra,haR,_⟩:=k.uf.rootAt (x:=x) (by rw [k.len]; exact hx);rw [k.len] at haR;unfold s277;refine tt ?_
 refine awp_while [0] (G:=List Int × Int) (fun g=>[(1,some (iI g.2))])
  (fun m g H'=>m=g.2.toNat∧JoinOk n N g.1∧InR n g.2∧(∀ y r,InR n y→Root j y r→Root g.1 y r)∧Root g.1 g.2 a∧Owns H0 H' ((id,.cells 1 (g.1.map iI) 0)::l)) x.toNat (j,x) ⟨rfl,k,hx,fun y r _ h=>h,hra,o⟩ rfl ?_
 clear o
 rintro m ⟨j1,x1⟩ H' ⟨hm,k1,hx1,hpre,hr1,o⟩;dsimp only at k1 hx1 o hm
 obtain ⟨c,rfl⟩ : ∃ c : Nat,x1=c:=⟨x1.toNat,(Int.toNat_of_nonneg hx1.1).symm⟩
 have hcn : c<n:=by simpa using hx1.2
 have hlen:=k1.len
 have hjc:=k1.uf.inR (x:=(c : Int)) (by rw [k1.len]; exact hx1)
 have hle:=k1.uf.le (c : Int) (by rw [k1.len]; exact hx1)
 obtain ⟨p,hp⟩ : ∃ p : Nat,ix j1 (c : Int)=p:=⟨_,(Int.toNat_of_nonneg hjc.1).symm⟩
 have hle2:=k1.uf.le _ hjc
 have hjp:=k1.uf.inR hjc;rw [hp] at hjc hle hle2 hjp
 have hpn : p<n:=by have:=hjc.2; rw [hlen] at this; simpa using this
 obtain ⟨w,hw⟩ : ∃ w : Nat,ix j1 (p : Int)=w:=⟨_,(Int.toNat_of_nonneg hjp.1).symm⟩;rw [hw] at hle2 hjp
 have hwn : w<n:=by have:=hjp.2; rw [hlen] at this; simpa using this
 have e1 : (j1.map iI).getD c nv=iI (p : Int):=by rw [map_getD _ (by omega),← hp,ix_nat]
 have e2 : (j1.map iI).getD p nv=iI (w : Int):=by rw [map_getD _ (by omega),← hw,ix_nat]
 refine tt ?_;refine ⟨hcn,rd_cells o (by simp; omega) ?_⟩;rw [e1];refine tt ?_;apply bk <;> intro h1
 ·have h1p : p≠c:=by simp at h1; omega
  refine tt ?_;refine ⟨hcn,rd_cells o (by simp; omega) ?_⟩;rw [e1];refine tt ?_;refine ⟨hpn,rd_cells o (by simp; omega) ?_⟩;rw [e2];refine tt ?_;refine ⟨hcn, ?_⟩;refine set_own (f:=iI) (w : Int) o rfl (by omega) fun H2 o=>?_
  obtain ⟨k2,hk2⟩:=k1.halve hx1;rw [hp,hw,Int.toNat_natCast] at k2 hk2
  have e3 : ((j1.set c (w : Int)).map iI).getD c nv=iI (w : Int):=by
   rw [map_getD _ (by rw [List.length_set]; omega)]
   simp [List.getD_eq_getElem?_getD,show c<j1.length by omega]
  have e4 : ix (j1.set c (w : Int)) (c : Int)=w:=by
   simp [ix_nat,List.getD_eq_getElem?_getD,show c<j1.length by omega]
  have hr2:=(hk2 c a hx1 hr1).next;rw [e4] at hr2;refine tt ?_;refine ⟨hcn,rd_cells o (by simp; omega) ?_⟩;rw [e3];refine tt ?_;exact while_next w (j1.set c (w : Int),(w : Int)) (by omega) ⟨by simp,k2,⟨by omega,by simpa using hwn⟩,fun y r hy h=>hk2 y r hy (hpre y r hy h),hr2,o⟩ rfl
 ·have h1p : p=c:=by simp at h1; omega
  refine tt ?_
  have ea : a=c:=hr1.uniq (.here _ (by rw [hp,h1p]));exact ⟨H',.refl H',c,j1,rfl,k1,ea ▸ hra,hx1,hpre,o⟩
def JoinK (n : Nat) (N : List (Int × Int)) (id : Nat) (H0 : Heap) (l : Ob) : Kont:=fun r H'=>∃ (b : Bool) (j' : List Int),r=.bool b∧JoinOk n N j'∧Owns H0 H' ((id,.cells 1 (j'.map iI) 0)::l)
theorem join_own (B : Nat) {n : Nat} {N : List (Int × Int)} {j : List Int} (k : JoinOk n N j) (x y : Int) (hx : InR n x) (hy : InR n y) {H0 H : Heap} {l : Ob} {id : Nat} (o : Owns H0 H ((id,.cells 1 (j.map iI) 0)::l)) :
  CallH Tryz.prog B 223 [.buf id n,iI x,iI y] H (JoinK n (N++[(x,y)]) id H0 l):=by
 refine c223 (by simp) fun _=>?_;unfold s223;refine tt ?_;refine (root_own B k x hx o).mono ?_
 rintro r H ⟨a,j1,rfl,k1,hra,haR,hp1,o⟩;refine tt ?_;refine (root_own B k1 y hy o).mono ?_
 rintro r H ⟨b,j2,rfl,k2,hrb,hbR,hp2,o⟩
 have ha2:=hp2 x a hx (hp1 x a hx hra)
 have hb2:=hp2 y b hy hrb
 have kl:=k2.link hx hy ha2 hb2
 have hl:=k2.len;refine tt ?_
 have em : (if b > a then b else a)=max a b:=by split <;> omega
 have en : (if false=true then if b > a then b else a else if b<a then b else a)=min a b:=by
  rw [if_neg (by simp)]; split <;> omega
 have hM : InR n (max a b):=by
  rcases Int.le_total a b with h | h
  ·rw [Int.max_eq_right h]; exact hbR
  ·rw [Int.max_eq_left h]; exact haR
 rw [en,em];refine ⟨hM, ?_⟩;refine set_own (f:=iI) (min a b) o rfl (by rw [hl]; exact hM.2) fun H2 o=>tt ?_;exact ⟨H2,.refl H2,_,_,rfl,kl,o⟩
def numK (n k : Nat) : List Int:=(List.range n).map fun i=>if i<k then (i : Int) else 0
theorem numK_zero (n : Nat) : numK n 0=List.replicate n 0:=by
 refine List.ext_getElem (by simp [numK]) fun i h1 h2=>?_
 simp [numK]
theorem numK_full (n : Nat) : numK n n=(List.range n).map Int.ofNat:=by
 refine List.ext_getElem (by simp [numK]) fun i h1 h2=>?_
 have hi : i<n:=by simpa [numK] using h1
 simp [numK,hi]
theorem numK_succ (n k : Nat) (hk : k<n) : (numK n k).set k (k : Int)=numK n (k+1):=by
 refine List.ext_getElem (by simp [numK]) fun i h1 h2=>?_;simp only [numK,List.getElem_set,List.getElem_map,List.getElem_range]
 by_cases e : k=i
 ·subst e; rw [if_pos rfl,if_pos (by omega)]
 ·rw [if_neg e]
  by_cases e2 : i<k
  ·rw [if_pos e2,if_pos (by omega)]
  ·rw [if_neg e2,if_neg (by omega)]
theorem numbers_own (B : Nat) (n : Nat) (hn : n≤1048576) {H0 H : Heap} {l : Ob} (o : Owns H0 H l) : CallH Tryz.prog B 276 [iI n] H fun r H'=>∃ id,r=.buf id n∧Owns H0 H' ((id,.cells 1 (((List.range n).map Int.ofNat).map iI) 0)::l):=by
 refine c276p (by simp) fun _=>?_;unfold s276p;refine tt ?_;refine ⟨⟨by omega,by simp only [maxL]; omega⟩,mks_list iI 0 rfl o fun id H o=>?_⟩;refine tt ?_
 refine awp_for [3,8] (G:=List Int) (fun k _=>[(9,some (.int .i64 (k : Int)))])
  (fun k A H=>A=numK n k∧Owns H0 H ((id,.cells 1 (A.map iI) 0)::l)) n (List.replicate n 0) ⟨(numK_zero n).symm,o⟩ rfl ?_
 clear o
 rintro k A H hk ⟨hA,o⟩;refine tt ?_;apply bk <;> intro h1
 ·have h1p : k<n:=of_decide h1
  have w1:=wsucc (k:=k) (by omega);refine tt ?_;refine ⟨h1p, ?_⟩;refine set_own (f:=iI) (k : Int) o rfl (by rw [hA]; simpa [numK] using h1p) fun H o=>?_;refine tw w1 ?_;exact for_next (A.set k (k : Int)) h1p ⟨by rw [hA,numK_succ n k h1p],o⟩ rfl
 ·have h1p : ¬ k<n:=of_ndecide h1
  obtain rfl : k=n:=by omega
  refine tt ?_;rw [hA,numK_full] at o;exact ⟨H,.refl H,id,rfl,o⟩
theorem joinerOf_own (B : Nat) (n : Nat) (hn : n≤1048576) {H0 H : Heap} {l : Ob} (o : Owns H0 H l) : CallH Tryz.prog B 222 [iI n] H fun r H'=>∃ id,r=.buf id n∧Owns H0 H' ((id,.cells 1 (((List.range n).map Int.ofNat).map iI) 0)::l):=by
 refine c222p (by simp) fun _=>?_;unfold s222p;refine tt ?_;refine (numbers_own B n hn o).mono ?_
 rintro r H ⟨id,rfl,o⟩;refine tt ?_;exact ⟨H,.refl H,id,rfl,o⟩
def numM (n : Nat) : List AV:=(List.range n).map fun i : Nat=>iI (i : Int)
theorem numM_len (n : Nat) : (numM n).length=n:=by simp [numM]
theorem numM_get {n i : Nat} (h : i<n) : (numM n)[i]? = some (iI (i : Int)):=by simp [numM,h]
theorem numM_none {n : Nat} : (numM n)[n]? = none:=by simp [numM]
theorem numM_succ (n : Nat) : numM (n+1)=numM n++[iI (n : Int)]:=by rw [numM,List.range_succ,List.map_append]; rfl
theorem idxOf_index {s : List Int} {v : Int} (h : v∈s) : ((s.idxOf v : Nat) : Int)=indexOf s v∧s.idxOf v<s.length:=by
 have hl:=List.idxOf_lt_length_of_mem h;refine ⟨(indexOf_hit (k:=s.idxOf v) hl (fun i hi e=>?_) ?_).symm,hl⟩
 ·have:=List.not_of_lt_findIdx (p:=(· == v)) (xs:=s) (i:=i) (by exact hi)
  have hil : i<s.length:=by omega
  rw [List.getD_eq_getElem?_getD,List.getElem?_eq_getElem hil] at e
  simp at this e;exact this e
 ·rw [List.getD_eq_getElem?_getD,List.getElem?_eq_getElem hl]
  simp
theorem lkR_tn (z : AV) : lkR true z none=.tup [z,.bool false]:=rfl
theorem lkR_ts (z v : AV) : lkR true z (some v)=.tup [v,.bool true]:=rfl
theorem normal_ok (B : Nat) (l : List Int) : Pur Tryz.prog B 278 [iL l] (iL (classL l)):=by
 refine ⟨fun H0=>c278 (by simp) fun ⟨hf,_⟩=>?_⟩
 have hl:=fine_mL_le hf;simp only [maxL] at hl;unfold s278
 have o : Owns H0 H0 []:=.nil _;refine tt ?_;refine newMap_own o fun idm H o=>tt ?_;refine ⟨⟨by omega,by simp only [maxL]; omega⟩,mks_list iI 0 rfl o fun id H o=>?_⟩;refine tt ?_
 refine awp_for [3,4,13,14] (fun k _=>[(15,some (.int .i64 (k : Int)))])
  (fun k _ H=>Owns H0 H [(id,.cells 1 ((classK l k).map iI) 0),(idm,.map ((seenL (l.take k)).map iI) (numM (seenL (l.take k)).length))]) l.length () (by rw [classK_zero]; exact o) rfl ?_
 clear o
 rintro k _ H hk o;refine tt ?_;apply bk <;> intro h1
 ·have h1p:=of_decide h1
  have w1:=wsucc (k:=k) (by omega)
  have hg : H.get idm=some (.map ((seenL (l.take k)).map iI) (numM (seenL (l.take k)).length)):=o.swap.h0
  have hcl:=classK_len l (k:=k) (by omega);refine tt ?_;refine ⟨h1p,tt ?_⟩;rw [hg];refine ⟨okKey_iI _ _, ?_⟩;rw [mget_iI (by rw [numM_len])]
  by_cases hm : l.getD k default∈seenL (l.take k)
  ·obtain ⟨e1,e2⟩:=idxOf_index hm
   obtain ⟨e3,_⟩:=seen_old h1p hm;rw [numM_get e2,e1,lkR_ts];refine tt ?_;refine ⟨by omega, ?_⟩;refine set_own (f:=iI) (indexOf (seenL (l.take k)) (l.getD k default)) o rfl (by omega) fun H o=>?_;refine tw w1 ?_;refine for_next () h1p ?_ rfl
   have:=classK_succ l h1p;rw [e3] at this;rw [this] at o;simp only [e3];exact o
  ·obtain ⟨e3,e4⟩:=seen_new h1p hm
   have e5 : (seenL (l.take k)).idxOf (l.getD k default)=(seenL (l.take k)).length:=List.idxOf_eq_length hm;rw [e5,numM_none,lkR_tn];refine tt ?_;rw [hg];refine tt ?_;rw [hg];refine ⟨okKey_iI _ _, ?_⟩;rw [mput_iI _ _ (by rw [numM_len]),if_neg hm]
   have o:=o.swap.put (.map ((seenL (l.take k)++[l.getD k default]).map iI) (numM (seenL (l.take k)).length++[iI ((seenL (l.take k)).length : Int)]));rw [List.length_map];refine tt ?_;refine ⟨by omega, ?_⟩;refine set_own (f:=iI) ((seenL (l.take k)).length : Int) o.swap rfl (by omega) fun H o=>?_;refine tw w1 ?_;refine for_next () h1p ?_ rfl
   have:=classK_succ l h1p;rw [e4] at this;rw [this] at o;simp only [e3,List.length_append,List.length_cons,List.length_nil,Nat.zero_add,numM_succ];exact o
 ·have h1p:=of_ndecide h1
  obtain rfl : k=l.length:=by omega
  rw [classK_full] at o;refine tt ?_;refine fz_own o (by rw [classL_len]) fun H o=>tt ?_;exact pure_ret rfl o.sub
noncomputable def rootK (j : List Int) (n k : Nat) : List Int:=(List.range n).map fun i : Nat=>if i<k then rootF j i else 0
theorem rootK_zero (j : List Int) (n : Nat) : rootK j n 0=List.replicate n 0:=by
 refine List.ext_getElem (by simp [rootK]) fun i h1 h2=>?_
 simp [rootK]
theorem rootK_succ (j : List Int) (n k : Nat) (hk : k<n) : (rootK j n k).set k (rootF j k)=rootK j n (k+1):=by
 refine List.ext_getElem (by simp [rootK]) fun i h1 h2=>?_;simp only [rootK,List.getElem_set,List.getElem_map,List.getElem_range]
 by_cases e : k=i
 ·subst e; rw [if_pos rfl,if_pos (by omega)]
 ·rw [if_neg e]
  by_cases e2 : i<k
  ·rw [if_pos e2,if_pos (by omega)]
  ·rw [if_neg e2,if_neg (by omega)]
theorem rootK_at (j : List Int) (n : Nat) {i : Nat} (hi : i<n) : (rootK j n n).getD i default=rootF j i:=by rw [rootK,getD_map_range _ _ hi,if_pos hi]
def PartK (n : Nat) (N : List (Int × Int)) (H0 : Heap) (l : Ob) : Kont:=fun r H'=>∃ R : List Int,r=iL (classL R)∧R.length=n∧(∀ u v : Nat,u<n→v<n→(R.getD u default=R.getD v default↔EqN N u v))∧Owns H0 H' l
theorem partition_own (B : Nat) {n : Nat} (hn : n≤1048576) {N : List (Int × Int)} {j : List Int} (k : JoinOk n N j) {H0 H : Heap} {l : Ob} {id : Nat} (o : Owns H0 H ((id,.cells 1 (j.map iI) 0)::l)) :
  CallH Tryz.prog B 224 [.buf id n] H (PartK n N H0 l):=by
 refine c224p (by simp) fun _=>?_;unfold s224p;refine tt ?_;refine ⟨⟨by omega,by simp only [maxL]; omega⟩,mks_list iI 0 rfl o fun id3 H o=>?_⟩;refine tt ?_
 refine awp_for [0,3,9] (G:=List Int × List Int) (fun i _=>[(10,some (.int .i64 (i : Int)))])
  (fun i G H=>G.1=rootK j n i∧JoinOk n N G.2∧(∀ y r,InR n y→Root j y r→Root G.2 y r)∧Owns H0 H ((id3,.cells 1 (G.1.map iI) 0)::(id,.cells 1 (G.2.map iI) 0)::l)) n (List.replicate n 0,j) ⟨(rootK_zero j n).symm,k,fun y r _ h=>h,o⟩ rfl ?_
 clear o
 rintro i ⟨A,j2⟩ H hi ⟨hA,k2,hp,o⟩;dsimp only at hA k2 o
 have hAl : A.length=n:=by rw [hA]; simp [rootK]
 refine tt ?_;apply bk <;> intro h1
 ·have h1p : i<n:=by have:=of_decide h1; omega
  have w1:=wsucc (k:=i) (by omega)
  have hin : InR n (i : Int):=⟨by omega,by simpa using h1p⟩;refine tt ?_;refine (root_own B k2 (i : Int) hin o.swap).mono ?_;clear o
  rintro r H ⟨a,j3,rfl,k3,hr,_,hp3,o⟩
  have ea : a=rootF j i:=hr.uniq (hp _ _ hin (k.rootE hin));refine tt ?_;refine ⟨h1p, ?_⟩;refine set_own (f:=iI) a o.swap rfl (by rw [hAl]; exact h1p) fun H o=>?_;refine tw w1 ?_;exact for_next (A.set i a,j3) h1p ⟨by rw [hA,ea,rootK_succ j n i h1p],k3,fun y r hy h=>hp3 y r hy (hp y r hy h),o⟩ rfl
 ·have h1p : i=n:=by have:=of_ndecide h1; omega
  refine tt ?_;refine fz_own o (by rw [hAl]) fun H o=>tt ?_;refine (normal_ok B A).go fun _=>tt ?_;refine ⟨H,.refl H,A,rfl,hAl,fun u v hu hv=>?_,o.tl⟩;rw [hA,h1p,rootK_at j n hu,rootK_at j n hv];exact k.rootR u v ⟨by omega,by simpa using hu⟩ ⟨by omega,by simpa using hv⟩
theorem find_at {α : Type} [Inhabited α] {p : α→Bool} {l : List α} {k : Nat} (hk : k<l.length) (h : p (l.getD k default)=true) (hall : ∀ i,i<k→p (l.getD i default)=false) : l.find? p=some (l.getD k default):=by
 rw [List.find?_eq_some_iff_append];refine ⟨h,l.take k,l.drop (k+1), ?_,fun a ha=>?_⟩
 ·have e : l.getD k default=l[k]:=by simp [List.getD_eq_getElem?_getD,hk]
  rw [e]
  conv=>lhs; rw [← List.take_append_drop k l,List.drop_eq_getElem_cons hk]
 ·obtain ⟨i,hi,rfl⟩:=List.mem_iff_getElem.mp ha;simp only [List.length_take] at hi
  have:=hall i (by omega);rw [List.getElem_take]
  simp [List.getD_eq_getElem?_getD,show i<l.length by omega] at this
  simp [this]
theorem find_non {α : Type} [Inhabited α] {p : α→Bool} {l : List α} (hall : ∀ i,i<l.length→p (l.getD i default)=false) : l.find? p=none:=by
 rw [List.find?_eq_none]
 intro a ha
 obtain ⟨i,hi,rfl⟩:=mem_getD.mp ha;rw [hall i hi]; simp
instance : Inhabited Cat:=⟨⟨0,[],[],[],[]⟩⟩
abbrev caP (c : Cat) : AV:=.ptr c.cells
instance : One caP:=⟨fun _=>rfl,fun _=>rfl⟩
theorem areCategories_ok (B : Nat) (l : List Cat) : Pur Tryz.prog B 72 [mL caP l] (.bool (dec (∀ c,c∈l→c.Is))):=by
 refine ⟨fun H0=>c72p (by simp) fun ⟨hf,_⟩=>?_⟩
 have hl:=fine_mL_le hf;simp only [maxL] at hl;unfold s72p;refine tt ?_;refine awp_for [5,6] (fun k _=>[(7,some (.int .i64 (k : Int)))]) (fun k _ H=>H=H0∧∀ i,i<k→(l.getD i default).Is) l.length () ⟨rfl,by simp⟩ rfl ?_
 rintro k _ H hk ⟨rfl,hall⟩;refine tt ?_;apply bk <;> intro h1
 ·have h1p:=dd h1
  have w1:=wsucc (k:=k) (by omega);refine tt ?_;refine ⟨h1p,(isCategory_ok B _).go fun _=>?_⟩;refine tt ?_;apply bk <;> intro h2
  ·refine tt ?_
   have h2p:=dd h2;exact pure_ret (by rw [dec_f]; intro h; exact h2p (h _ (mem_getD.mpr ⟨k,h1p,rfl⟩))) (.refl _)
  ·refine tw w1 ?_
   have h2p:=dd h2;exact for_next () (by omega) ⟨rfl,lt_succ_all hall h2p⟩ rfl
 ·refine tt ?_
  have h1p:=dd h1;exact pure_ret (by rw [dec_t]; exact all_getD.mpr fun i hi=>hall i (by omega)) (.refl _)
theorem hom_at {c : Cat} {x y : Int} {k : Nat} (hk : k<(hom c x y).length) : c.Ar ((hom c x y).getD k default) x y:=ar_hom.mp (mem_getD.mpr ⟨k,hk,rfl⟩)
theorem inverse_ok (B : Nat) (c : Cat) (hc : c.Is) (f : Int) (hf : 0≤f∧f.toNat<c.frm.length) : Pur Tryz.prog B 133 [.ptr c.cells,iI f] (iI (invF c f)):=by
 refine ⟨fun H0=>c133p (by simp) fun _=>?_⟩;unfold s133p
 have hs:=hc.1
 have a : c.Ar f (ix c.frm f) (ix c.to f):=⟨hf,rfl,rfl⟩
 have htl:=hs.tol
 have hx:=hs.frmObj hf.2
 have hy:=hs.toObj hf.2;refine tt ?_;refine ⟨hf,⟨hf.1,by omega⟩,(hom_ok B c hs _ _).go fun hfl=>?_⟩
 have hbk : ∀ k,k<(hom c (ix c.to f) (ix c.frm f)).length→c.Ar ((hom c (ix c.to f) (ix c.frm f)).getD k default) (ix c.to f) (ix c.frm f):=fun k hk=>hom_at hk
 have hL : invF c f=((hom c (ix c.to f) (ix c.frm f)).find? (invP c f)).getD (-1):=rfl
 have hln:=fine_mL_le hfl;simp only [maxL] at hln;clear hfl
 have hm:=hs.m
 generalize hom c (ix c.to f) (ix c.frm f)=L at hbk hL hln ⊢;refine tt ?_;refine awp_for [0,1,5,6,26,27] (fun k _=>[(28,some (.int .i64 (k : Int)))]) (fun k _ H=>H=H0∧∀ i,i<k→invP c f (L.getD i default)=false) L.length () ⟨rfl,by simp⟩ rfl ?_
 rintro k _ H hk ⟨rfl,hall⟩;refine tt ?_;apply bk <;> intro h1
 ·have h1p:=dd h1
  have w1:=wsucc (k:=k) (by omega)
  have b:=hbk k h1p
  have r1:=hs.row' hf.2
  have r2:=hs.row' b.r.2
  have hcl:=hs.cl
  have hil:=hs.il;refine tt ?_;refine ⟨h1p,_,(catThen_ok B c f _ ⟨hf.1,by omega⟩ ⟨b.r.1,by rw [r1]; exact b.r.2⟩).run,⟨hx.1,by omega⟩, ?_⟩
  by_cases e1 : c.th f (L.getD k default)=ix c.idn (ix c.frm f)
  ·have e1' : decide (ix (ix c.comp f) (L.getD k default)=ix c.idn (ix c.frm f))=true:=decide_eq_true e1;try simp only [go_sem,↓reduceIte,reduceEqDiff,reduceAdd,reduceMul,reduceLeDiff,reduceLT,e1']
   refine ⟨_,(catThen_ok B c _ f ⟨b.r.1,by rw [hcl]; exact b.r.2⟩ ⟨hf.1,by rw [r2]; exact hf.2⟩).run,⟨hy.1,by omega⟩, ?_⟩
   by_cases e2 : c.th (L.getD k default) f=ix c.idn (ix c.to f)
   ·have e2' : decide (ix (ix c.comp (L.getD k default)) f=ix c.idn (ix c.to f))=true:=decide_eq_true e2;try simp only [go_sem,↓reduceIte,reduceEqDiff,reduceAdd,reduceMul,reduceLeDiff,reduceLT,e2']
    exact pure_ret (by rw [hL,find_at h1p (by rw [invP,decide_eq_true e1,decide_eq_true e2]; rfl) hall]; rfl) (.refl _)
   ·have e2' : decide (ix (ix c.comp (L.getD k default)) f=ix c.idn (ix c.to f))=false:=decide_eq_false e2;try simp only [go_sem,↓reduceIte,reduceEqDiff,reduceAdd,reduceMul,reduceLeDiff,reduceLT,e2',w1]
    exact for_next () (by omega) ⟨rfl,lt_succ_all hall (by rw [invP,decide_eq_true e1,decide_eq_false e2]; rfl)⟩ rfl
  ·have e1' : decide (ix (ix c.comp f) (L.getD k default)=ix c.idn (ix c.frm f))=false:=decide_eq_false e1;try simp only [go_sem,↓reduceIte,reduceEqDiff,reduceAdd,reduceMul,reduceLeDiff,reduceLT,e1',w1]
   exact for_next () (by omega) ⟨rfl,lt_succ_all hall (by rw [invP,decide_eq_false e1]; rfl)⟩ rfl
 ·refine tt ?_
  have h1p:=dd h1;exact pure_ret (by rw [hL,find_non fun i hi=>hall i (by omega)]; rfl) (.refl _)
theorem l02Unit_ok (B : Nat) (c : Cat) (hs : c.Shape) (f : Int) (hf : 0≤f∧f.toNat<c.frm.length) : Pur Tryz.prog B 143 [.agg c.cells,iI f] (.bool (decide (ix c.idn (ix c.frm f)=f))):=by
 refine ⟨fun H0=>c143p (by simp) fun _=>?_⟩;unfold s143p
 have hx:=hs.frmObj hf.2
 have hil:=hs.il;refine tt ?_;exact ⟨hf,⟨hx.1,by omega⟩,pure_ret rfl (.refl _)⟩
theorem l02Inverse_ok (B : Nat) (c : Cat) (hc : c.Is) (f : Int) (hf : 0≤f∧f.toNat<c.frm.length) : Pur Tryz.prog B 64 [.agg c.cells,iI f] (iI (invF c f)):=by
 refine ⟨fun H0=>c64p (by simp) fun _=>?_⟩;unfold s64p
 have hs:=hc.1
 have a : c.Ar f (ix c.frm f) (ix c.to f):=⟨hf,rfl,rfl⟩
 have htl:=hs.tol
 have hx:=hs.frmObj hf.2
 have hy:=hs.toObj hf.2;refine tt ?_;refine ⟨⟨hf.1,by omega⟩,hf,_,(l02Hom_ok B c hs _ _).run, ?_⟩
 have hbk : ∀ k,k<(homC c (ix c.to f) (ix c.frm f)).length→c.Ar ((homC c (ix c.to f) (ix c.frm f)).getD k default) (ix c.to f) (ix c.frm f):=fun k hk=>by
  rw [← hom_homC] at hk ⊢; exact hom_at hk
 have hL : invF c f=((homC c (ix c.to f) (ix c.frm f)).find? (invP c f)).getD (-1):=by rw [← hom_homC]; rfl
 have hm:=hs.m
 have hln : (homC c (ix c.to f) (ix c.frm f)).length≤c.frm.length:=homC_len _ _
 generalize homC c (ix c.to f) (ix c.frm f)=L at hbk hL hln ⊢;refine tt ?_;refine awp_for [1,2,5] (fun k _=>[(6,some (.int .i64 (k : Int)))]) (fun k _ H=>H=H0∧∀ i,i<k→invP c f (L.getD i default)=false) L.length () ⟨rfl,by simp⟩ rfl ?_
 rintro k _ H hk ⟨rfl,hall⟩;refine tt ?_;apply bk <;> intro h1
 ·have h1p:=dd h1
  have w1:=wsucc (k:=k) (by omega)
  have b:=hbk k h1p
  have c1:=a.comp hc b
  have c2:=b.comp hc a
  have r1:=hs.row' hf.2
  have r2:=hs.row' b.r.2
  have hcl:=hs.cl
  have hil:=hs.il;refine tt ?_;refine ⟨h1p,_,(l02Then_ok B c f _ ⟨hf.1,by omega⟩ ⟨b.r.1,by rw [r1]; exact b.r.2⟩).run,_,(l02Unit_ok B c hs (c.th f (L.getD k default)) c1.r).run, ?_⟩;rw [c1.s]
  by_cases e1 : c.th f (L.getD k default)=ix c.idn (ix c.frm f)
  ·have e1' : decide (ix c.idn (ix c.frm f)=c.th f (L.getD k default))=true:=decide_eq_true e1.symm;try simp only [go_sem,↓reduceIte,reduceEqDiff,reduceAdd,reduceMul,reduceLeDiff,reduceLT,e1']
   refine ⟨h1p,_,(l02Then_ok B c _ f ⟨b.r.1,by rw [hcl]; exact b.r.2⟩ ⟨hf.1,by rw [r2]; exact hf.2⟩).run,_,(l02Unit_ok B c hs (c.th (L.getD k default) f) c2.r).run, ?_⟩;rw [c2.s]
   by_cases e2 : c.th (L.getD k default) f=ix c.idn (ix c.to f)
   ·have e2' : decide (ix c.idn (ix c.to f)=c.th (L.getD k default) f)=true:=decide_eq_true e2.symm;try simp only [go_sem,↓reduceIte,reduceEqDiff,reduceAdd,reduceMul,reduceLeDiff,reduceLT,e2']
    exact ⟨h1p,pure_ret (by rw [hL,find_at h1p (by rw [invP,decide_eq_true e1,decide_eq_true e2]; rfl) hall]; rfl) (.refl _)⟩
   ·have e2' : decide (ix c.idn (ix c.to f)=c.th (L.getD k default) f)=false:=decide_eq_false fun h=>e2 h.symm;try simp only [go_sem,↓reduceIte,reduceEqDiff,reduceAdd,reduceMul,reduceLeDiff,reduceLT,e2',w1]
    exact for_next () (by omega) ⟨rfl,lt_succ_all hall (by rw [invP,decide_eq_true e1,decide_eq_false e2]; rfl)⟩ rfl
  ·have e1' : decide (ix c.idn (ix c.frm f)=c.th f (L.getD k default))=false:=decide_eq_false fun h=>e1 h.symm;try simp only [go_sem,↓reduceIte,reduceEqDiff,reduceAdd,reduceMul,reduceLeDiff,reduceLT,e1',w1]
   exact for_next () (by omega) ⟨rfl,lt_succ_all hall (by rw [invP,decide_eq_false e1]; rfl)⟩ rfl
 ·refine tt ?_
  have h1p:=dd h1;exact pure_ret (by rw [hL,find_non fun i hi=>hall i (by omega)]; rfl) (.refl _)
def isoN (c : Cat) (k : Nat) : List (Int × Int):=((List.range k).filter fun f : Nat=>decide (0≤invF c f)).map fun f : Nat=>(ix c.frm f,ix c.to f)
theorem isoN_t {c : Cat} {k : Nat} (h : 0≤invF c k) : isoN c (k+1)=isoN c k++[(c.frm.getD k default,c.to.getD k default)]:=by
 rw [isoN,List.range_succ,List.filter_append,List.map_append,isoN]; simp [h,ix_nat]
theorem isoN_f {c : Cat} {k : Nat} (h : ¬ 0≤invF c k) : isoN c (k+1)=isoN c k:=by
 rw [isoN,List.range_succ,List.filter_append,List.map_append,isoN]; simp [h]
theorem isoN_iff {c : Cat} {x y : Int} : (x,y)∈isoN c c.frm.length↔IsoO c x y:=by
 simp only [isoN,List.mem_map,List.mem_filter,List.mem_range,decide_eq_true_eq,Prod.mk.injEq]
 constructor
 ·rintro ⟨f,⟨h1,h2⟩,rfl,rfl⟩
  obtain ⟨g,i⟩:=(invF_iff (c:=c) (f:=(f : Int)) ⟨⟨by omega,by simpa using h1⟩,rfl,rfl⟩).mp h2;exact ⟨_,_,i⟩
 ·rintro ⟨f,g,i⟩
  have h1:=(invF_iff i.a).mpr ⟨g,i⟩
  have hf : ((f.toNat : Nat) : Int)=f:=Int.toNat_of_nonneg i.a.r.1;exact ⟨f.toNat,⟨i.a.r.2,by rw [hf]; exact h1⟩,by rw [hf]; exact i.a.s,by rw [hf]; exact i.a.t⟩
theorem isoN_eq {c : Cat} (h : c.Is) {x y : Int} (hx : 0≤x∧x<c.objs) : EqN (isoN c c.frm.length) x y↔IsoO c x y:=by
 constructor
 ·intro e
  have key : ∀ u v,EqN (isoN c c.frm.length) u v→u=v∨IsoO c u v:=fun u v e=>by
   induction e with
   | gen x y hm=>exact .inr (isoN_iff.mp hm)
   | refl x=>exact .inl rfl
   | symm _ k=>exact k.imp Eq.symm IsoO.symm
   | trans _ _ k l =>
    rcases k with rfl | k
    ·exact l
    rcases l with rfl | l
    ·exact .inr k
    ·exact .inr (k.trans h l)
  rcases key _ _ e with rfl | k
  ·exact .refl h hx
  ·exact k
 ·intro i;exact .gen _ _ (isoN_iff.mpr i)
theorem isoClasses_ok (B : Nat) (c : Cat) (hc : c.Is) : Pur Tryz.prog B 136 [.ptr c.cells] (iL (clsK c)):=by
 refine ⟨fun H0=>c136p (by simp) fun _=>?_⟩
 have hs:=hc.1
 have hm:=hs.m
 have htl:=hs.tol
 have hob:=hs.o
 obtain ⟨n,hn⟩ : ∃ n : Nat,c.objs=n:=⟨_,(Int.toNat_of_nonneg hob.1).symm⟩;unfold s136p
 have o : Owns H0 H0 []:=.nil _;refine tt ?_;rw [hn];refine (joinerOf_own B n (by omega) o).mono ?_;clear o
 rintro r H ⟨id,rfl,o⟩;refine tt ?_
 refine awp_for [0,3,14] (G:=List Int) (fun k _=>[(15,some (.int .i64 (k : Int)))])
  (fun k j H=>JoinOk n (isoN c k) j∧Owns H0 H [(id,.cells 1 (j.map iI) 0)]) c.frm.length ((List.range n).map Int.ofNat) ⟨.start n,o⟩ rfl ?_
 clear o
 rintro k j H hk ⟨hj,o⟩;refine tt ?_;apply bk <;> intro h1
 ·have h1p : k<c.frm.length:=of_decide h1
  have w1:=wsucc (k:=k) (by omega)
  have hx:=hs.frmObj (f:=(k : Int)) (by simpa using h1p)
  have hy:=hs.toObj (f:=(k : Int)) (by simpa using h1p);rw [ix_nat] at hx hy;refine tt ?_
  have hv:=inverse_ok B c hc (k : Int) ⟨by omega,by simpa using h1p⟩;simp only [Cat.cells,hn] at hv;refine hv.go fun _=>?_
  by_cases e1 : 0≤invF c (k : Int)
  ·have e1':=decide_eq_true e1;try simp only [go_sem,↓reduceIte,reduceEqDiff,reduceAdd,reduceMul,reduceLeDiff,reduceLT,e1']
   refine ⟨h1p,tt ?_⟩;refine ⟨by omega, ?_⟩;refine (join_own B hj _ _ ⟨hx.1,by omega⟩ ⟨hy.1,by omega⟩ o).mono ?_;clear o
   rintro r H ⟨b,j2,rfl,hj2,o⟩;refine tw w1 ?_;exact for_next j2 h1p ⟨by rw [isoN_t e1]; exact hj2,o⟩ rfl
  ·have e1':=decide_eq_false e1;try simp only [go_sem,↓reduceIte,reduceEqDiff,reduceAdd,reduceMul,reduceLeDiff,reduceLT,e1',w1]
   exact for_next j h1p ⟨by rw [isoN_f e1]; exact hj,o⟩ rfl
 ·have h1p : k=c.frm.length:=by have:=of_ndecide h1; omega
  rw [h1p] at hj;refine tt ?_;refine (partition_own B (by omega) hj o).mono ?_;clear o
  rintro r H ⟨R,rfl,hRl,hR,o⟩;refine tt ?_;refine pure_ret ?_ o.sub;rw [clsK_eq hc (by omega) fun u v hu hv=>(hR u v (by omega) (by omega)).trans (isoN_eq hc ⟨by omega,by omega⟩)]
theorem leaders_ok (B : Nat) (c : Cat) (hc : c.Is) : Pur Tryz.prog B 215 [iL (clsK c)] (iL (leadL c)):=by
 refine ⟨fun H0=>c215p (by simp) fun _=>?_⟩;unfold s215p
 have o : Owns H0 H0 []:=.nil _
 have hob:=hc.1.o
 have hll : (clsK c).length=c.objs.toNat:=by have:=clsK_len hc; omega
 refine tt ?_;refine new_list iI o fun id H o=>tt ?_
 refine awp_for [7,8] (G:=Nat × List Int) (fun k g=>[(3,some (.buf g.1 g.2.length)),(9,some (.int .i64 (k : Int)))])
  (fun k g H=>g.2=leadK c k∧Owns H0 H [(g.1,.cells 1 (g.2.map iI) 0)]) (clsK c).length (id,[]) ⟨rfl,o⟩ rfl ?_
 clear o
 rintro k ⟨id,out⟩ H hk ⟨hout,o⟩;dsimp only at hout o
 have houl : out.length≤k:=by rw [hout]; exact leadK_len _
 refine tt ?_;apply bk <;> intro h1
 ·have h1p : k<(clsK c).length:=of_decide h1
  have w1:=wsucc (k:=k) (by omega)
  have hh:=cls_hit hc (k:=k) (by omega);rw [← hout] at hh;refine tt ?_;refine ⟨h1p, ?_⟩
  by_cases e1 : repO c k=k
  ·have e1':=decide_eq_true (hh.mpr e1);try simp only [go_sem,↓reduceIte,reduceEqDiff,reduceAdd,reduceMul,reduceLeDiff,reduceLT,e1']
   refine app_own (k : Int) o rfl rfl (by simp only [maxL]; omega) fun z H o=>?_;refine tw w1 ?_;exact for_next (z,out++[(k : Int)]) h1p ⟨by rw [hout,leadK_t e1],o⟩ rfl
  ·have e1':=decide_eq_false (fun h=>e1 (hh.mp h));try simp only [go_sem,↓reduceIte,reduceEqDiff,reduceAdd,reduceMul,reduceLeDiff,reduceLT,e1',w1]
   exact for_next (id,out) h1p ⟨by rw [hout,leadK_f e1],o⟩ rfl
 ·have h1p:=of_ndecide h1;refine tt ?_;refine fz_own o rfl fun H o=>?_;exact pure_ret (by rw [hout,leadL,show k=c.objs.toNat by omega]) o.sub
def fullK (c : Cat) (L : List Int) (k : Nat) : List Int:=nats (fun f=>decide (c.frm.getD f default∈L) && decide (c.to.getD f default∈L)) k
theorem fullK_len (c : Cat) (L : List Int) (k : Nat) : (fullK c L k).length≤k:=nats_len _ _
theorem fullK_t {c : Cat} {L : List Int} {k : Nat} (h1 : c.frm.getD k default∈L) (h2 : c.to.getD k default∈L) : fullK c L (k+1)=fullK c L k++[(k : Int)]:=nats_t (by rw [decide_eq_true h1,decide_eq_true h2]; rfl)
theorem fullK_f {c : Cat} {L : List Int} {k : Nat} (h : ¬ (c.frm.getD k default∈L∧c.to.getD k default∈L)) : fullK c L (k+1)=fullK c L k:=nats_f (by
 rw [Bool.and_eq_false_iff]
 by_cases h1 : c.frm.getD k default∈L
 ·exact .inr (decide_eq_false fun h2=>h ⟨h1,h2⟩)
 ·exact .inl (decide_eq_false h1))
theorem between_ok (B : Nat) (c : Cat) (hc : c.Shape) (L : List Int) : Pur Tryz.prog B 214 [.ptr c.cells,iL L] (iL (fullA c L)):=by
 refine ⟨fun H0=>c214p (by simp) fun _=>?_⟩;unfold s214p
 have o : Owns H0 H0 []:=.nil _
 have hm:=hc.m
 have htl:=hc.tol;refine tt ?_;refine new_list iI o fun id H o=>tt ?_
 refine awp_for [0,1,12] (G:=Nat × List Int) (fun k g=>[(5,some (.buf g.1 g.2.length)),(13,some (.int .i64 (k : Int)))])
  (fun k g H=>g.2=fullK c L k∧Owns H0 H [(g.1,.cells 1 (g.2.map iI) 0)]) c.frm.length (id,[]) ⟨rfl,o⟩ rfl ?_
 clear o
 rintro k ⟨id,out⟩ H hk ⟨hout,o⟩;dsimp only at hout o
 have houl : out.length≤k:=by rw [hout]; exact fullK_len _ _ _
 refine tt ?_;apply bk <;> intro h1
 ·have h1p : k<c.frm.length:=of_decide h1
  have w1:=wsucc (k:=k) (by omega);refine tt ?_;refine ⟨h1p,(has_ok B L _).go fun _=>?_⟩
  by_cases e1 : c.frm.getD k default∈L
  ·rw [dec_t e1];refine tt ?_;refine ⟨by omega,(has_ok B L _).go fun _=>?_⟩
   by_cases e2 : c.to.getD k default∈L
   ·rw [dec_t e2];refine tt ?_;refine app_own (k : Int) o rfl rfl (by simp only [maxL]; omega) fun z H o=>?_;refine tw w1 ?_;exact for_next (z,out++[(k : Int)]) h1p ⟨by rw [hout,fullK_t e1 e2],o⟩ rfl
   ·rw [dec_f e2];refine tw w1 ?_;exact for_next (id,out) h1p ⟨by rw [hout,fullK_f fun h=>e2 h.2],o⟩ rfl
  ·rw [dec_f e1];refine tw w1 ?_;exact for_next (id,out) h1p ⟨by rw [hout,fullK_f fun h=>e1 h.1],o⟩ rfl
 ·have h1p:=of_ndecide h1;refine tt ?_;refine fz_own o rfl fun H o=>?_;exact pure_ret (by rw [hout,show k=c.frm.length by omega]; rfl) o.sub
theorem isomorphic_ok (B : Nat) (c : Cat) (hc : c.Is) (x y : Int) : Pur Tryz.prog B 217 [.ptr c.cells,iI x,iI y] (iI (leastI c x y)):=by
 refine ⟨fun H0=>c217p (by simp) fun _=>?_⟩;unfold s217p;refine tt ?_;refine (hom_ok B c hc.1 _ _).go fun hfl=>?_
 have hbk : ∀ k,k<(hom c x y).length→c.Ar ((hom c x y).getD k default) x y:=fun k hk=>hom_at hk
 have hL : leastI c x y=((hom c x y).find? fun f=>decide (0≤invF c f)).getD (-1):=rfl
 have hln:=fine_mL_le hfl;simp only [maxL] at hln;clear hfl
 generalize hom c x y=L at hbk hL hln ⊢;refine tt ?_;refine awp_for [0,12,13] (fun k _=>[(14,some (.int .i64 (k : Int)))]) (fun k _ H=>H=H0∧∀ i,i<k→decide (0≤invF c (L.getD i default))=false) L.length () ⟨rfl,by simp⟩ rfl ?_
 rintro k _ H hk ⟨rfl,hall⟩;refine tt ?_;apply bk <;> intro h1
 ·have h1p:=dd h1
  have w1:=wsucc (k:=k) (by omega)
  have b:=hbk k h1p;refine tt ?_;refine ⟨h1p,(inverse_ok B c hc _ b.r).go fun _=>?_⟩
  by_cases e1 : 0≤invF c (L.getD k default)
  ·have e1':=decide_eq_true e1;try simp only [go_sem,↓reduceIte,reduceEqDiff,reduceAdd,reduceMul,reduceLeDiff,reduceLT,e1']
   exact pure_ret (by rw [hL,find_at h1p e1' hall]; rfl) (.refl _)
  ·have e1':=decide_eq_false e1;try simp only [go_sem,↓reduceIte,reduceEqDiff,reduceAdd,reduceMul,reduceLeDiff,reduceLT,e1',w1]
   exact for_next () (by omega) ⟨rfl,lt_succ_all hall e1'⟩ rfl
 ·refine tt ?_
  have h1p:=dd h1;exact pure_ret (by rw [hL,find_non fun i hi=>hall i (by omega)]; rfl) (.refl _)
theorem skeletonArrows_ok (B : Nat) (c : Cat) (hc : c.Is) : Pur Tryz.prog B 129 [.ptr c.cells] (iL (fullA c (leadL c))):=by
 refine ⟨fun H0=>c129p (by simp) fun _=>?_⟩;unfold s129p;refine tt ?_;refine (isoClasses_ok B c hc).go fun _=>?_;refine (leaders_ok B c hc).go fun _=>?_;refine (between_ok B c hc.1 _).go fun _=>tt ?_;exact pure_ret rfl (.refl _)
theorem chosen_ok (B : Nat) (c : Cat) (hc : c.Is) : Pur Tryz.prog B 131 [.ptr c.cells] (iL ((List.range c.objs.toNat).map fun x : Nat=>choO c x)):=by
 refine ⟨fun H0=>c131p (by simp) fun _=>?_⟩;unfold s131p
 have o : Owns H0 H0 []:=.nil _
 have hob:=hc.1.o
 have hil:=hc.1.il
 have hll : (clsK c).length=c.objs.toNat:=by have:=clsK_len hc; omega
 refine tt ?_;refine (isoClasses_ok B c hc).go fun _=>tt ?_;refine (leaders_ok B c hc).go fun _=>tt ?_;refine new_list iI o fun id H o=>tt ?_
 refine awp_for [0,4,14,15] (G:=Nat × List Int) (fun k g=>[(5,some (.buf g.1 g.2.length)),(16,some (.int .i64 (k : Int)))])
  (fun k g H=>g.2=(List.range k).map (fun x : Nat=>choO c x)∧Owns H0 H [(g.1,.cells 1 (g.2.map iI) 0)]) (clsK c).length (id,[]) ⟨rfl,o⟩ rfl ?_
 clear o
 rintro k ⟨id,out⟩ H hk ⟨hout,o⟩;dsimp only at hout o
 have houl : out.length=k:=by rw [hout]; simp
 refine tt ?_;apply bk <;> intro h1
 ·have h1p : k<(clsK c).length:=of_decide h1
  have w1:=wsucc (k:=k) (by omega)
  have hkr : 0≤(k : Int)∧(k : Int)<c.objs:=by omega
  have hr:=cls_ran hc hkr;rw [ix_nat] at hr;refine tt ?_;refine ⟨h1p,hr.1, ?_⟩;rw [hr.2]
  by_cases e1 : (k : Int)=repO c k
  ·have e1':=decide_eq_true e1;try simp only [go_sem,↓reduceIte,reduceEqDiff,reduceAdd,reduceMul,reduceLeDiff,reduceLT,e1']
   refine ⟨by omega, ?_⟩;refine app_own (c.idn.getD k default) o rfl rfl (by simp only [maxL]; omega) fun z H o=>?_;refine tw w1 ?_;exact for_next (z,out++[c.idn.getD k default]) h1p ⟨by rw [hout,List.range_succ,List.map_append,List.map_singleton,choO,if_pos e1.symm,ix_nat],o⟩ rfl
  ·have e1':=decide_eq_false e1;try simp only [go_sem,↓reduceIte,reduceEqDiff,reduceAdd,reduceMul,reduceLeDiff,reduceLT,e1']
   refine (isomorphic_ok B c hc _ _).go fun _=>tt ?_;refine app_own (leastI c k (repO c k)) o rfl rfl (by simp only [maxL]; omega) fun z H o=>?_;refine tw w1 ?_;exact for_next (z,out++[leastI c k (repO c k)]) h1p ⟨by rw [hout,List.range_succ,List.map_append,List.map_singleton,choO,if_neg fun h=>e1 h.symm],o⟩ rfl
 ·have h1p:=of_ndecide h1;refine tt ?_;refine fz_own o rfl fun H o=>?_;exact pure_ret (by rw [hout,show k=c.objs.toNat by omega]) o.sub
noncomputable def memK (n : Nat) (L : List Int) : List Bool:=(List.range n).map fun f : Nat=>dec ((f : Int)∈L)
theorem memK_at {n : Nat} {L : List Int} {f : Nat} (hf : f<n) : (memK n L).getD f default=dec ((f : Int)∈L):=getD_map_range _ _ hf
theorem memK_len (n : Nat) (L : List Int) : (memK n L).length=n:=by simp [memK]
theorem memK_set {n : Nat} {L : List Int} {k : Nat} (hk : k<L.length) (h : 0≤L.getD k default) : (memK n (L.take k)).set (L.getD k default).toNat true=memK n (L.take (k+1)):=by
 refine List.ext_getElem (by simp [memK]) fun i h1 h2=>?_
 have hi : i<n:=by simpa [memK] using h2
 simp only [memK,take_one _ hk,List.getElem_set,List.getElem_map,List.getElem_range,List.mem_append,List.mem_singleton]
 by_cases e : (L.getD k default).toNat=i
 ·rw [if_pos e,dec_t (.inr (by omega))]
 ·rw [if_neg e];exact dec_congr ⟨.inl,fun h=>h.elim (fun h=>h) fun h=>absurd (by omega) e⟩
theorem marks_ok (B : Nat) (c : Cat) (hm : c.frm.length≤40) (L : List Int) (hL : ∀ f,f∈L→0≤f∧f.toNat<c.frm.length) : Pur Tryz.prog B 216 [.ptr c.cells,iL L] (bL (memK c.frm.length L)):=by
 refine ⟨fun H0=>c216p (by simp) fun ⟨_,hfl,_⟩=>?_⟩;unfold s216p
 have hll:=fine_mL_le hfl;simp only [maxL] at hll
 have o : Owns H0 H0 []:=.nil _;refine tt ?_;refine (arrows_ok B c).go fun _=>tt ?_;refine ⟨⟨by omega,by simp only [maxL]; omega⟩,mks_list AV.bool false rfl o fun id H o=>?_⟩;refine tt ?_
 refine awp_for [5,11,12] (G:=List Bool) (fun k _=>[(13,some (.int .i64 (k : Int)))])
  (fun k A H=>A=memK c.frm.length (L.take k)∧Owns H0 H [(id,.cells 1 (A.map AV.bool) 0)]) L.length (List.replicate c.frm.length false) ⟨?_,o⟩ rfl ?_
 ·refine List.ext_getElem (by simp [memK]) fun i h1 h2=>?_
  simp [memK,dec_f]
 clear o
 rintro k A H hk ⟨hA,o⟩
 have hAl : A.length=c.frm.length:=by rw [hA,memK_len]
 refine tt ?_;apply bk <;> intro h1
 ·have h1p : k<L.length:=of_decide h1
  have w1:=wsucc (k:=k) (by omega)
  have hv:=hL _ (mem_getD.mpr ⟨k,h1p,rfl⟩);refine tt ?_;refine ⟨h1p,hv, ?_⟩;refine set_own (f:=AV.bool) true o rfl (by omega) fun H o=>?_;refine tw w1 ?_;exact for_next (A.set (L.getD k default).toNat true) h1p ⟨by rw [hA,memK_set h1p hv.1],o⟩ rfl
 ·have h1p : k=L.length:=by have:=of_ndecide h1; omega
  refine tt ?_;refine fz_own o (by rw [hAl]) fun H o=>?_;exact pure_ret (by rw [hA,h1p,List.take_of_length_le (Nat.le_refl _)]) o.sub
noncomputable def numI (n : Nat) (T : List Int) : List Int:=open Classical in (List.range n).map fun f : Nat=>if (f : Int)∈T then indexOf T f else 0
theorem numI_len (n : Nat) (T : List Int) : (numI n T).length=n:=by simp [numI]
theorem numI_nil (n : Nat) : numI n []=List.replicate n 0:=by
 refine List.ext_getElem (by simp [numI]) fun i h1 h2=>?_
 simp [numI]
theorem numI_at {n : Nat} {T : List Int} {f : Int} (hf : 0≤f∧f.toNat<n) (h : f∈T) : (numI n T).getD f.toNat default=indexOf T f:=by
 have e : ((f.toNat : Nat) : Int)=f:=Int.toNat_of_nonneg hf.1;rw [numI,getD_map_range _ _ hf.2,e,if_pos h]
theorem numI_set {n : Nat} {T : List Int} {v : Int} (hv : 0≤v∧v.toNat<n) (h : v ∉ T) : (numI n T).set v.toNat T.length=numI n (T++[v]):=by
 have e : ((v.toNat : Nat) : Int)=v:=Int.toNat_of_nonneg hv.1;refine List.ext_getElem (by simp [numI]) fun i h1 h2=>?_;simp only [numI,List.getElem_set,List.getElem_map,List.getElem_range]
 by_cases q : v.toNat=i
 ·subst q;rw [if_pos rfl,e,if_pos (by simp),indexOf_newT h]
 ·rw [if_neg q]
  have q2 : (i : Int)≠v:=by omega
  by_cases hi : (i : Int)∈T
  ·rw [if_pos hi,if_pos (List.mem_append_left _ hi),indexOf_appT hi]
  ·rw [if_neg hi,if_neg]
   intro hh
   rcases List.mem_append.mp hh with hh | hh
   ·exact hi hh
   ·exact q2 (List.mem_singleton.mp hh)
theorem take_not {l : List Int} (nd : l.Nodup) {k : Nat} (hk : k<l.length) : l.getD k default ∉ l.take k:=by
 intro h
 have h1:=nd.sublist (List.take_sublist (k+1) l);rw [take_one _ hk,List.nodup_append] at h1;exact h1.2.2 _ h _ (List.mem_singleton.mpr rfl) rfl
def selK (L : List Int) (k : Nat) : List Int:=nats (fun x=>decide ((x : Int)∈L)) k
theorem selK_t {L : List Int} {k : Nat} (h : (k : Int)∈L) : selK L (k+1)=selK L k++[(k : Int)]:=nats_t (decide_eq_true h)
theorem selK_f {L : List Int} {k : Nat} (h : (k : Int) ∉ L) : selK L (k+1)=selK L k:=nats_f (decide_eq_false h)
theorem selK_len (L : List Int) (k : Nat) : (selK L k).length≤k:=nats_len _ _
theorem selK_not {L : List Int} {k : Nat} : (k : Int) ∉ selK L k:=by
 intro h;simp only [selK,nats,List.mem_map,List.mem_filter,List.mem_range] at h
 obtain ⟨a,⟨h1,_⟩,h2⟩:=h
 have : (a : Int)=k:=h2;omega
theorem sub_ok (B : Nat) (c : Cat) (hc : c.Is) (L : List Int) (s : Sel c L) (hL : selK L c.objs.toNat=L) : Pur Tryz.prog B 130 [.ptr c.cells,iL (fullA c L)] (.tup [.agg (Go.Shf.part c L).cells,iL L]):=by
 refine ⟨fun H0=>c130p (by simp) fun _=>?_⟩;unfold s130p
 have hs:=hc.1
 have hm:=hs.m
 have htl:=hs.tol
 have hil:=hs.il
 have hob:=hs.o
 have hAl:=fullA_len (c:=c) (L:=L)
 have hAm : ∀ f,f∈fullA c L→0≤f∧f.toNat<c.frm.length:=fun f hf=>(mem_fullA.mp hf).1
 have hAn:=fullA_nodup (c:=c) (L:=L)
 have hpf : (Go.Shf.part c L).frm=(fullA c L).map fun a=>indexOf L (ix c.frm a):=rfl
 have hpt : (Go.Shf.part c L).to=(fullA c L).map fun a=>indexOf L (ix c.to a):=rfl
 have hpi : (Go.Shf.part c L).idn=L.map fun x=>indexOf (fullA c L) (ix c.idn x):=rfl
 have hpc : (Go.Shf.part c L).comp=(fullA c L).map fun a=>(fullA c L).map fun b=>indexOf (fullA c L) (c.th a b):=rfl
 have hAi : ∀ x : Nat,x<c.objs.toNat→((c.idn.getD x default)∈fullA c L↔(x : Int)∈L):=fun x hx=>by
  have h:=hs.idArr (x:=(x : Int)) ⟨by omega,by omega⟩;rw [ix_nat] at h;rw [mem_fullA,h.2.1,h.2.2];exact ⟨fun q=>q.2.1,fun q=>⟨h.1,q,q⟩⟩
 have hfr : ∀ f,f∈fullA c L→ix c.frm f∈L∧ix c.to f∈L:=fun f hf=>(mem_fullA.mp hf).2
 have hth : ∀ f g,f∈fullA c L→g∈fullA c L→(0≤c.th f g∧(c.th f g).toNat<c.frm.length∧c.th f g∈fullA c L)∨(c.th f g=-1∧c.th f g ∉ fullA c L):=fun f g hf hg=>by
  have af:=mem_fullA.mp hf
  have ag:=mem_fullA.mp hg
  by_cases q : ix c.to f=ix c.frm g
  ·have h:=hs.comp af.1 ag.1 q;refine .inl ⟨h.1.1,h.1.2,mem_fullA.mpr ⟨⟨h.1.1,h.1.2⟩, ?_, ?_⟩⟩
   ·rw [show ix c.frm (c.th f g)=ix c.frm f from h.2.1]; exact af.2.1
   ·rw [show ix c.to (c.th f g)=ix c.to g from h.2.2]; exact ag.2.2
  ·have h : c.th f g=-1:=hs.non f.toNat g.toNat af.1.2 ag.1.2 q;exact .inr ⟨h,fun hh=>by have:=(hAm _ hh).1; omega⟩
 generalize hA : fullA c L=A at *
 have o : Owns H0 H0 []:=.nil _;refine tt ?_;refine newRef_own o fun id4 H o=>tt ?_;refine (arrows_ok B c).go fun _=>tt ?_;refine ⟨⟨by omega,by simp only [maxL]; omega⟩,mks_list iI 0 rfl o fun id6 H o=>?_⟩;refine tt ?_
 refine awp_for [0,1,4,6,24,25] (G:=List Int) (fun k _=>[(26,some (.int .i64 (k : Int)))])
  (fun k N H=>N=numI c.frm.length (A.take k)∧Owns H0 H ((id6,.cells 1 (N.map iI) 0)::(id4,MObj.cells 5 [.int .i64 0,.nilsl,.nilsl,.nilsl,.nilsl] 0)::[])) A.length (List.replicate c.frm.length 0) ⟨?_,o⟩ rfl ?_
 ·rw [List.take_zero,numI_nil]
 clear o
 rintro k N H hk ⟨hN,o⟩
 have hNl : N.length=c.frm.length:=by rw [hN,numI_len]
 refine tt ?_;apply bk <;> intro h1
 ·have h1p : k<A.length:=of_decide h1
  have w1:=wsucc (k:=k) (by omega)
  have hv:=hAm _ (mem_getD.mpr ⟨k,h1p,rfl⟩);refine tt ?_;refine ⟨h1p,hv, ?_⟩;refine set_own (f:=iI) (k : Int) o rfl (by omega) fun H o=>?_;refine tw w1 ?_;refine for_next (N.set (A.getD k default).toNat k) h1p ⟨?_,o⟩ rfl
  have:=numI_set hv (take_not hAn h1p);rw [List.length_take,Nat.min_eq_left hk] at this;rw [hN,take_one _ h1p,this]
 have h1p : k=A.length:=by have:=of_ndecide h1; omega
 clear h1;rw [h1p,List.take_of_length_le (Nat.le_refl _)] at hN;clear h1p hk;refine tt ?_;refine fz_own o (by rw [hNl]) fun H o=>tt ?_;refine (marks_ok B c hm A hAm).go fun _=>tt ?_;refine new_list iI o fun id10 H o=>tt ?_;refine ⟨⟨by omega,by simp only [maxL]; omega⟩,mks_list iI 0 rfl o fun id11 H o=>?_⟩;refine tt ?_;refine newRef_own o fun id12 H o=>tt ?_;refine sw o fun H o=>tt ?_
 refine awp_for [0,1,4,6,9,11,12,49,50] (G:=(Nat × List Int) × List Int × AV) (fun k g=>[(10,some (.buf g.1.1 g.1.2.length)),(51,some (.int .i64 (k : Int)))])
  (fun k g H=>g.1.2=selK L k∧g.2.1=numI c.objs.toNat (selK L k)∧LsO iI H0 H ((id12,.cells 5 [.int .i64 0,.nilsl,.nilsl,g.2.2,.nilsl] 0)::[(g.1.1,.cells 1 (g.1.2.map iI) 0),(id11,.cells 1 (g.2.1.map iI) 0),
   (id4,MObj.cells 5 [.int .i64 0,.nilsl,.nilsl,.nilsl,.nilsl] 0)]) g.2.2 ((selK L k).map fun x=>indexOf A (ix c.idn x))) c.idn.length ((id10,[]),List.replicate c.objs.toNat 0,.nilsl)
  ⟨rfl,(numI_nil _).symm,.inl ⟨rfl,rfl,o.pm⟩⟩ rfl ?_
 clear o
 rintro k ⟨⟨id10,out⟩,P,X⟩ H hk ⟨hout,hP,hX⟩;dsimp only at hout hP
 replace hX : LsO iI H0 H ((id12,.cells 5 [.int .i64 0,.nilsl,.nilsl,X,.nilsl] 0)::[(id10,.cells 1 (out.map iI) 0),(id11,.cells 1 (P.map iI) 0),(id4,MObj.cells 5 [.int .i64 0,.nilsl,.nilsl,.nilsl,.nilsl] 0)]) X
  ((selK L k).map fun x=>indexOf A (ix c.idn x)):=hX
 have houl : out.length≤k:=by rw [hout]; exact selK_len _ _
 have hPl : P.length=c.objs.toNat:=by rw [hP,numI_len]
 refine tt ?_;apply bk <;> intro h1
 ·have h1p : k<c.idn.length:=of_decide h1
  have w1:=wsucc (k:=k) (by omega)
  have hv:=hs.idArr (x:=(k : Int)) ⟨by omega,by omega⟩;rw [ix_nat] at hv
  have hN2:=hNl
  have hM : ix (memK c.frm.length A) (c.idn.getD k default)=dec (c.idn.getD k default∈A):=by
   rw [ix,memK_at hv.1.2,Int.toNat_of_nonneg hv.1.1]
  refine tt ?_;refine ⟨h1p,⟨hv.1.1,by rw [memK_len]; exact hv.1.2⟩, ?_⟩;rw [hM]
  by_cases e1 : (k : Int)∈L
  ·rw [dec_t ((hAi k (by omega)).mpr e1)];refine tt ?_;refine ⟨by omega, ?_⟩
   obtain ⟨p,o,hp⟩:=hX.split;clear hX
   replace o : Owns H0 H ((id11,.cells 1 (P.map iI) 0)::(id10,.cells 1 (out.map iI) 0)::(id12,.cells 5 [.int .i64 0,.nilsl,.nilsl,X,.nilsl] 0)::(id4,MObj.cells 5 [.int .i64 0,.nilsl,.nilsl,.nilsl,.nilsl] 0)::p):=o.pm;refine set_own (f:=iI) (out.length : Int) o rfl (by omega) fun H o=>tt ?_;refine app_own (k : Int) o.swap rfl rfl (by simp only [maxL]; omega) fun z H o=>?_
   have hX:=LsO.mk (l:=(id12,.cells 5 [.int .i64 0,.nilsl,.nilsl,X,.nilsl] 0)::[(z,.cells 1 ((out++[(k : Int)]).map iI) 0),(id11,.cells 1 ((P.set k (out.length : Int)).map iI) 0),(id4,MObj.cells 5 [.int .i64 0,.nilsl,.nilsl,.nilsl,.nilsl] 0)]) (o.pm) hp;clear o
   have hmA:=(hAi k (by omega)).mpr e1
   have hNv : ix N (c.idn.getD k default)=indexOf A (c.idn.getD k default):=by rw [hN,ix,numI_at hv.1 hmA]
   refine tt ?_;refine rd_get hX.obj (by simp) ?_;refine tt ?_;refine ⟨⟨hv.1.1,by omega⟩, ?_⟩;rw [hNv];refine hX.app (indexOf A (c.idn.getD k default)) rfl (by have:=selK_len L k; simp only [List.length_map,maxL]; omega) fun idn H o=>?_
   have eS : ((selK L k).map fun x=>indexOf A (ix c.idn x))++[indexOf A (c.idn.getD k default)]=(selK L (k+1)).map fun x=>indexOf A (ix c.idn x):=by
    rw [selK_t e1,List.map_append,List.map_singleton,ix_nat]
   rw [eS] at o ⊢;refine tt ?_;refine sw o.swap fun H o=>?_;refine tw w1 ?_
   exact for_next ((z,out++[(k : Int)]),P.set k (out.length : Int),_) h1p ⟨by rw [hout,selK_t e1],by
    have:=numI_set (n:=c.objs.toNat) (T:=selK L k) (v:=(k : Int)) ⟨by omega,by omega⟩ selK_not;rw [selK_t e1,← this,hP,hout]; rfl,.inr ⟨idn,rfl,o.swap⟩⟩ rfl
  ·rw [dec_f fun h=>e1 ((hAi k (by omega)).mp h)];refine tw w1 ?_;exact for_next ((id10,out),P,X) h1p ⟨by rw [hout,selK_f e1],by rw [hP,selK_f e1],by rw [selK_f e1]; exact hX⟩ rfl
 have h1p : k=c.objs.toNat:=by have:=of_ndecide h1; omega
 clear h1;rw [h1p,hL] at hout hP hX;refine tt ?_;refine wk_ls 3 hX rfl fun H o=>wkW_done ?_;clear hX;simp only [List.set_cons_zero,List.set_cons_succ] at o;refine tt ?_;refine sw o fun H o=>tt ?_;refine fz_own (o.pull [_,_]) (by rw [hPl]) fun H o=>?_;clear h1p houl hk;subst hout
 let st : AV→AV→AV→MObj:=fun x1 x2 x4=>.cells 5 [iI (out.length : Int),x1,x2,iL (out.map fun x=>indexOf A (ix c.idn x)),x4] 0
 let r : Ob:=[(id10,.cells 1 (out.map iI) 0),(id4,MObj.cells 5 [.int .i64 0,.nilsl,.nilsl,.nilsl,.nilsl] 0)]
 replace o : Owns H0 H ((id12,st .nilsl .nilsl .nilsl)::([]++([]++r))):=o
 generalize hr : r=r at o;refine tt ?_
 refine awp_for [0,1,4,6,10,11,12,82,83] (G:=(AV × AV × AV) × Ob × Ob) (fun k _=>[(84,some (.int .i64 (k : Int)))])
  (fun a g H=>LsO iI H0 H ((id12,st g.1.1 g.1.2.1 g.1.2.2)::(g.2.1++(g.2.2++r))) g.1.1 ((A.take a).map fun f=>indexOf out (ix c.frm f))∧LsP iI g.2.1 g.1.2.1 ((A.take a).map fun f=>indexOf out (ix c.to f)) ∧
   LsP iL g.2.2 g.1.2.2 ((A.take a).map fun f=>A.map fun g=>indexOf A (c.th f g))) A.length ((.nilsl,.nilsl,.nilsl),[],[]) ⟨.inl ⟨rfl,rfl,o⟩,.inl ⟨rfl,rfl,rfl⟩,.inl ⟨rfl,rfl,rfl⟩⟩ rfl ?_
 clear o
 rintro a ⟨⟨X1,X2,X4⟩,p2,p4⟩ H ha ⟨hX,h2,h4⟩;dsimp only at hX h2 h4;refine tt ?_;apply bk <;> intro h1
 ·have h1p : a<A.length:=of_decide h1
  have w1:=wsucc (k:=a) (by omega)
  have hfA : A.getD a default∈A:=mem_getD.mpr ⟨a,h1p,rfl⟩
  have hf:=hAm _ hfA
  obtain ⟨hf1,hf2⟩:=hfr _ hfA
  have r1:=s.ran _ hf1
  have r2:=s.ran _ hf2
  have hP1 : ix P (ix c.frm (A.getD a default))=indexOf out (ix c.frm (A.getD a default)):=by rw [hP,ix,numI_at ⟨r1.1,by omega⟩ hf1]
  have hP2 : ix P (ix c.to (A.getD a default))=indexOf out (ix c.to (A.getD a default)):=by rw [hP,ix,numI_at ⟨r2.1,by omega⟩ hf2]
  have eA : A.take (a+1)=A.take a++[A.getD a default]:=take_one _ h1p;refine tt ?_;refine ⟨h1p,tt ?_⟩;refine rd_get hX.obj (by simp [st]) ?_;refine tt ?_;refine ⟨hf,⟨r1.1,by omega⟩, ?_⟩;rw [hP1];refine hX.app (indexOf out (ix c.frm (A.getD a default))) rfl (by simp only [List.length_map,List.length_take,maxL]; omega) fun idn H o=>?_
  have e1 : ((A.take a).map fun f=>indexOf out (ix c.frm f))++[indexOf out (ix c.frm (A.getD a default))]=(A.take (a+1)).map fun f=>indexOf out (ix c.frm f):=by rw [eA,List.map_append]; rfl
  rw [e1] at o ⊢;clear hX;refine tt ?_;refine sw o.swap fun H o=>?_
  have hX : LsO iI H0 H ((id12,st (.buf idn ((A.take (a+1)).map fun f=>indexOf out (ix c.frm f)).length) X2 X4)::(p2++(p4++r))) (.buf idn ((A.take (a+1)).map fun f=>indexOf out (ix c.frm f)).length) ((A.take (a+1)).map fun f=>indexOf out (ix c.frm f)):=.inr ⟨idn,rfl,o.swap⟩;clear o
  generalize (AV.buf idn ((A.take (a+1)).map fun f=>indexOf out (ix c.frm f)).length)=X1 at hX
  obtain ⟨q1,o,k1⟩:=hX.split;clear hX
  have hX : LsO iI H0 H ((id12,st X1 X2 X4)::(q1++(p4++r))) X2 ((A.take a).map fun f=>indexOf out (ix c.to f)):=LsO.mk (p:=p2) (o.pm) h2;clear o;refine tt ?_;refine rd_get hX.obj (by simp [st]) ?_;refine tt ?_;refine ⟨⟨hf.1,by omega⟩,⟨r2.1,by omega⟩, ?_⟩;rw [hP2];refine hX.app (indexOf out (ix c.to (A.getD a default))) rfl (by simp only [List.length_map,List.length_take,maxL]; omega) fun idn H o=>?_
  have e2 : ((A.take a).map fun f=>indexOf out (ix c.to f))++[indexOf out (ix c.to (A.getD a default))]=(A.take (a+1)).map fun f=>indexOf out (ix c.to f):=by rw [eA,List.map_append]; rfl
  rw [e2] at o ⊢;clear hX;refine tt ?_;refine sw o.swap fun H o=>?_
  have hX : LsO iI H0 H ((id12,st X1 (.buf idn ((A.take (a+1)).map fun f=>indexOf out (ix c.to f)).length) X4)::(q1++(p4++r))) (.buf idn ((A.take (a+1)).map fun f=>indexOf out (ix c.to f)).length) ((A.take (a+1)).map fun f=>indexOf out (ix c.to f)):=.inr ⟨idn,rfl,o.swap⟩;clear o
  generalize (AV.buf idn ((A.take (a+1)).map fun f=>indexOf out (ix c.to f)).length)=X2 at hX
  obtain ⟨q2,o,k2⟩:=hX.split;clear hX
  replace o : Owns H0 H (p4++(id12,st X1 X2 X4)::(q1++(q2++r))):=o.pm;refine tt ?_;refine new_list iI o fun idr H o=>tt ?_
  refine awp_for [0,1,4,6,10,11,12,16,82,83,84,119,120] (G:=Nat × List Int) (fun b g=>[(17,some (.buf g.1 g.2.length)),(121,some (.int .i64 (b : Int)))])
   (fun b g H=>g.2=(A.take b).map (fun g=>indexOf A (c.th (A.getD a default) g))∧Owns H0 H ((g.1,.cells 1 (g.2.map iI) 0)::(p4++(id12,st X1 X2 X4)::(q1++(q2++r))))) A.length (idr,[]) ⟨rfl,o⟩ rfl ?_
  clear o
  rintro b ⟨idr,row⟩ H hb ⟨hrow,o⟩;dsimp only at hrow o
  have hrl : row.length=b:=by rw [hrow,List.length_map,List.length_take]; omega
  refine tt ?_;apply bk <;> intro h2
  ·have h2p : b<A.length:=of_decide h2
   have w2:=wsucc (k:=b) (by omega)
   have hgA : A.getD b default∈A:=mem_getD.mpr ⟨b,h2p,rfl⟩
   have hg:=hAm _ hgA
   have rf:=hs.row' hf.2
   have hcl:=hs.cl
   have eB : (A.take (b+1)).map (fun g=>indexOf A (c.th (A.getD a default) g))=row++[indexOf A (c.th (A.getD a default) (A.getD b default))]:=by rw [take_one _ h2p,List.map_append,hrow]; rfl
   refine tt ?_;refine ⟨h2p,(catThen_ok B c (A.getD a default) (A.getD b default) ⟨hf.1,by omega⟩ ⟨hg.1,by omega⟩).go fun _=>?_⟩;rw [show ix (ix c.comp (A.getD a default)) (A.getD b default)=c.th (A.getD a default) (A.getD b default) from rfl]
   rcases hth _ _ hfA hgA with ⟨t1,t2,t3⟩ | ⟨t1,t2⟩
   ·have t1':=decide_eq_true t1
    have hNv : ix N (c.th (A.getD a default) (A.getD b default))=indexOf A (c.th (A.getD a default) (A.getD b default)):=by rw [hN,ix,numI_at ⟨t1,t2⟩ t3]
    try simp only [go_sem,↓reduceIte,reduceEqDiff,reduceAdd,reduceMul,reduceLeDiff,reduceLT,t1']
    refine ⟨⟨t1,by omega⟩, ?_⟩;rw [hNv];refine tt ?_;refine app_own (indexOf A (c.th (A.getD a default) (A.getD b default))) o rfl rfl (by simp only [maxL]; omega) fun z H o=>?_;refine tw w2 ?_;exact for_next (z,row++[indexOf A (c.th (A.getD a default) (A.getD b default))]) h2p ⟨eB.symm,o⟩ rfl
   ·rw [indexOf_neg t2] at eB;rw [t1]
    have t1' : decide ((0 : Int)≤-1)=false:=by decide
    try simp only [go_sem,↓reduceIte,reduceEqDiff,reduceAdd,reduceMul,reduceLeDiff,reduceLT,t1']
    refine app_own (-1 : Int) o rfl rfl (by simp only [maxL]; omega) fun z H o=>?_;refine tw w2 ?_;exact for_next (z,row++[(-1 : Int)]) h2p ⟨eB.symm,o⟩ rfl
  have h2p : b=A.length:=by have:=of_ndecide h2; omega
  rw [h2p,List.take_of_length_le (Nat.le_refl _)] at hrow;clear h2 h2p hrl hb;refine tt ?_;refine fz_own o rfl fun H o=>tt ?_
  have hX : LsO iL H0 H ((id12,st X1 X2 X4)::(q1++(q2++r))) X4 ((A.take a).map fun f=>A.map fun g=>indexOf A (c.th f g)):=LsO.mk o h4;clear o;refine tt ?_;refine rd_get hX.obj (by simp [st]) ?_;refine tt ?_;refine hX.app row rfl (by simp only [List.length_map,List.length_take,maxL]; omega) fun idn H o=>?_
  have e4 : ((A.take a).map fun f=>A.map fun g=>indexOf A (c.th f g))++[row]=(A.take (a+1)).map fun f=>A.map fun g=>indexOf A (c.th f g):=by rw [eA,List.map_append,hrow]; rfl
  rw [e4] at o ⊢;clear hX;refine tt ?_;refine sw o.swap fun H o=>?_
  have hX : LsO iL H0 H ((id12,st X1 X2 (.buf idn ((A.take (a+1)).map fun f=>A.map fun g=>indexOf A (c.th f g)).length))::(q1++(q2++r))) (.buf idn ((A.take (a+1)).map fun f=>A.map fun g=>indexOf A (c.th f g)).length) ((A.take (a+1)).map fun f=>A.map fun g=>indexOf A (c.th f g)):=.inr ⟨idn,rfl,o.swap⟩;clear o
  generalize (AV.buf idn ((A.take (a+1)).map fun f=>A.map fun g=>indexOf A (c.th f g)).length)=X4 at hX
  obtain ⟨q4,o,k4⟩:=hX.split;clear hX
  have hX : LsO iI H0 H ((id12,st X1 X2 X4)::(q2++(q4++r))) X1 ((A.take (a+1)).map fun f=>indexOf out (ix c.frm f)):=LsO.mk (p:=q1) (o.pm) k1;refine tw w1 ?_;exact for_next ((X1,X2,X4),q2,q4) h1p ⟨hX,k2,k4⟩ rfl
 ·have h1p : a=A.length:=by have:=of_ndecide h1; omega
  rw [h1p,List.take_of_length_le (Nat.le_refl _)] at hX h2 h4;refine tt ?_;refine wk_ls 1 hX rfl fun H o=>?_;clear hX;simp only [List.set_cons_zero,List.set_cons_succ] at o
  have hX:=LsO.mk (p:=p2) (o.perm List.perm_middle.symm) h2;clear o;refine wk_ls 2 hX rfl fun H o=>?_;clear hX;simp only [List.set_cons_zero,List.set_cons_succ] at o
  have hX:=LsO.mk (p:=p4) (o.perm List.perm_middle.symm) h4;clear o;refine wk_ls 4 hX rfl fun H o=>wkW_done ?_;clear hX;simp only [List.set_cons_zero,List.set_cons_succ] at o;subst hr;refine tt ?_;refine rd_celln o (by simp) ?_;refine tt ?_;refine sw (o.pull [_,_]) fun H o=>tt ?_;refine fz_own (o.pull [_,_]) rfl fun H o=>tt ?_
  have hr4:=o.rc 5 0 (by simp);simp only [List.drop_zero] at hr4;rw [hr4];exact pure_ret (by rw [hpf,hpt,hpi,hpc]; rfl) o.sub
theorem lead_sel2 (c : Cat) : selK (leadL c) c.objs.toNat=leadL c:=by
 rw [selK,leadL,leadK,nats]
 congr 1
 refine List.filter_congr fun x hx=>?_
 have hx:=List.mem_range.mp hx
 show decide ((x : Int)∈leadK c c.objs.toNat)=_
 by_cases e : repO c x=x
 ·rw [decide_eq_true (mem_leadK.mpr ⟨⟨by omega,by omega⟩,e⟩),dec_t e]
 ·rw [dec_f e];exact decide_eq_false fun h=>e (mem_leadK.mp h).2
theorem skSub_ok (B : Nat) (c : Cat) (hc : c.Is) : Pur Tryz.prog B 130 [.ptr c.cells,iL (fullA c (leadL c))] (.tup [.agg (skS c).cells,iL (leadL c)]):=sub_ok B c hc (leadL c) lead_sel (lead_sel2 c)
theorem skeleton_ok (B : Nat) (c : Cat) (hc : c.Is) : Pur Tryz.prog B 68 [.ptr c.cells] (.agg (skS c).cells):=by
 refine ⟨fun H0=>c68p (by simp) fun _=>?_⟩;unfold s68p
 have o : Owns H0 H0 []:=.nil _;refine tt ?_;refine newRef_own o fun id2 H o=>tt ?_;refine (skeletonArrows_ok B c hc).go fun _=>tt ?_;refine (skSub_ok B c hc).go fun _=>?_
 generalize skS c=S;refine tt ?_;refine newRef_own o fun id3 H o=>tt ?_;refine sw o fun H o=>tt ?_;refine rd_celln o (by simp) ?_;refine tt ?_;refine sw o.swap fun H o=>tt ?_
 have hr:=o.rc 5 0 (by simp);simp only [List.drop_zero] at hr;rw [hr];exact pure_ret rfl o.sub
theorem skeletonOf_ok (B : Nat) (c : Cat) (hc : c.Is) : Pur Tryz.prog B 14 [.agg c.cells] (.tup [.agg (skS c).cells,iI 0]):=by
 refine ⟨fun H0=>c14p (by simp) fun _=>?_⟩;unfold s14p
 have o : Owns H0 H0 []:=.nil _;refine tt ?_;refine newRef_own o fun id2 H o=>tt ?_;refine (isCategory_ok B c).go fun _=>?_;rw [dec_t hc];refine tt ?_;refine (skeleton_ok B c hc).go fun _=>?_
 generalize skS c=S;refine tt ?_;refine sw o fun H o=>tt ?_
 have hr:=o.rc 5 0 (by simp);simp only [List.drop_zero] at hr;rw [hr];exact pure_ret rfl o.sub
theorem functor_ok (B : Nat) (c d : Cat) (ob ar : List Int) : Pur Tryz.prog B 135 [.ptr c.cells,.ptr d.cells,iL ob,iL ar] (.agg (FU.cells ⟨c,d,ob,ar⟩)):=by
 refine ⟨fun H0=>c135p (by simp) fun _=>?_⟩;unfold s135p
 have o : Owns H0 H0 []:=.nil _;refine tt ?_;refine nb o fun id8 H o=>tt ?_;refine (catCopy_ok B c).go fun _=>tt ?_;refine (catCopy_ok B d).go fun _=>tt ?_;refine (clone_ok B ob).go fun _=>tt ?_;refine (clone_ok B ar).go fun _=>tt ?_;refine sw o fun H o=>tt ?_
 have hr:=o.rc 12 0 (by simp);simp only [List.drop_zero] at hr;rw [hr];exact pure_ret rfl o.sub
theorem fromSkeleton_ok (B : Nat) (c : Cat) (hc : c.Is) : Pur Tryz.prog B 75 [.ptr c.cells] (.agg (Shf.skE c).cells):=by
 refine ⟨fun H0=>c75p (by simp) fun _=>?_⟩;unfold s75p
 have o : Owns H0 H0 []:=.nil _;rw [Shf.skE];refine tt ?_;refine nb o fun id2 H o=>tt ?_;refine (skeletonArrows_ok B c hc).go fun _=>tt ?_;refine (skSub_ok B c hc).go fun _=>?_
 generalize skS c=S
 generalize fullA c (leadL c)=A
 generalize leadL c=L;refine tt ?_;refine newRef_own o fun id4 H o=>tt ?_;refine sw o fun H o=>tt ?_;refine wk_ref 4 o rfl fun H o=>wkW_done ?_;refine tt ?_;refine (functor_ok B S c L A).go fun _=>tt ?_;refine sw o fun H o=>tt ?_
 have hr:=o.rc 12 0 (by simp);simp only [List.drop_zero] at hr;rw [hr];exact pure_ret rfl o.sub
theorem toSkeleton_ok (B : Nat) (c : Cat) (hc : c.Is) : Pur Tryz.prog B 58 [.ptr c.cells] (.agg (skF c).cells):=by
 refine ⟨fun H0=>c58p (by simp) fun _=>?_⟩;unfold s58p
 have o : Owns H0 H0 []:=.nil _
 have hs:=hc.1
 have hm:=hs.m
 have htl:=hs.tol
 have hcl:=hs.cl
 have hob:=hs.o;rw [skF];refine tt ?_;refine nb o fun id2 H o=>tt ?_;refine (skeletonArrows_ok B c hc).go fun _=>tt ?_;refine (skSub_ok B c hc).go fun _=>?_
 generalize skS c=S;refine tt ?_;refine newRef_own o fun id4 H o=>tt ?_;refine sw o fun H o=>tt ?_;refine (chosen_ok B c hc).go fun _=>?_
 have hC : ∀ x : Int,0≤x∧x<c.objs→ix ((List.range c.objs.toNat).map fun x : Nat=>choO c x) x=choO c x:=fun x hx=>by
  rw [ix,getD_map_range _ _ (by omega),Int.toNat_of_nonneg hx.1]
 have hCl : ((List.range c.objs.toNat).map fun x : Nat=>choO c x).length=c.objs.toNat:=by simp
 generalize (List.range c.objs.toNat).map (fun x : Nat=>choO c x)=C at hC hCl ⊢
 have hsk : skA c=(List.range c.frm.length).map fun f : Nat=>indexOf (fullA c (leadL c)) (skArr c f):=rfl
 generalize fullA c (leadL c)=A at hsk ⊢;refine tt ?_;refine new_list iI o fun id7 H o=>tt ?_
 refine awp_for [0,2,3,4,6,25] (G:=Nat × List Int) (fun k g=>[(7,some (.buf g.1 g.2.length)),(26,some (.int .i64 (k : Int)))])
  (fun k g H=>g.2=(List.range k).map (fun f : Nat=>indexOf A (skArr c f))∧Owns H0 H [(g.1,.cells 1 (g.2.map iI) 0),(id4,.cells 5 [iI S.objs,iL S.frm,iL S.to,iL S.idn,iLL S.comp] 0),(id2,.cells 12 [.int .i64 0,.nilsl,.nilsl,.nilsl,.nilsl,.int .i64 0,.nilsl,.nilsl,.nilsl,.nilsl,.nilsl,.nilsl] 0)]) c.frm.length (id7,[]) ⟨rfl,o⟩ rfl ?_
 clear o
 rintro k ⟨id7,out⟩ H hk ⟨hout,o⟩;dsimp only at hout o
 have houl : out.length=k:=by rw [hout]; simp
 refine tt ?_;apply bk <;> intro h1
 ·have h1p : k<c.frm.length:=of_decide h1
  have w1:=wsucc (k:=k) (by omega)
  have a : c.Ar (k : Int) (ix c.frm k) (ix c.to k):=⟨⟨by omega,by simpa using h1p⟩,rfl,rfl⟩
  have hx:=a.src hc
  have hy:=a.tgt hc
  have c1:=cho_inv hc hx
  have c2:=cho_inv hc hy
  have v1:=c1.b.comp hc a
  have ea : skArr c k=c.th (c.th (invF c (choO c (ix c.frm k))) k) (choO c (ix c.to k)):=rfl
  have e1:=hC _ hx
  have e2:=hC _ hy;simp only [ix_nat] at hx hy e1 e2 c1 c2 v1 ea
  have r1:=hs.row' c1.b.r.2
  have r2:=hs.row' v1.r.2;refine tt ?_;rw [e1,e2]
  refine ⟨h1p,⟨hx.1,by omega⟩,_,(inverse_ok B c hc (choO c (c.frm.getD k default)) c1.a.r).run,_,(catThen_ok B c (invF c (choO c (c.frm.getD k default))) k ⟨c1.b.r.1,by rw [hcl]; exact c1.b.r.2⟩ ⟨by omega,by rw [r1]; simpa using h1p⟩).run,by omega,⟨hy.1,by omega⟩,_,
   (catThen_ok B c (c.th (invF c (choO c (c.frm.getD k default))) k) (choO c (c.to.getD k default)) ⟨v1.r.1,by rw [hcl]; exact v1.r.2⟩ ⟨c2.a.r.1,by rw [r2]; exact c2.a.r.2⟩).run, ?_⟩
  rw [show ix (ix c.comp (c.th (invF c (choO c (c.frm.getD k default))) k)) (choO c (c.to.getD k default))=skArr c k from ea.symm];refine tt ?_;refine (index_ok B A _).go fun _=>tt ?_;refine app_own (indexOf A (skArr c k)) o rfl rfl (by simp only [maxL]; omega) fun z H o=>?_;refine tw w1 ?_;exact for_next (z,out++[indexOf A (skArr c k)]) h1p ⟨by rw [hout,List.range_succ,List.map_append]; rfl,o⟩ rfl
 ·have h1p : k=c.frm.length:=by have:=of_ndecide h1; omega
  rw [h1p,← hsk] at hout;refine tt ?_;refine fz_own o rfl fun H o=>?_;rw [hout];refine tt ?_;refine wk_ref 4 o rfl fun H o=>wkW_done ?_;refine tt ?_;refine (isoClasses_ok B c hc).go fun _=>tt ?_;refine (functor_ok B c S (clsK c) (skA c)).go fun _=>tt ?_;refine sw o fun H o=>tt ?_
  have hr:=o.rc 12 0 (by simp);simp only [List.drop_zero] at hr;rw [hr];exact pure_ret rfl o.sub
theorem skeletonFunctor_ok (B : Nat) (c : Cat) (hc : c.Is) : Pur Tryz.prog B 10 [.agg c.cells] (.tup [.agg (skF c).cells,iI 0]):=by
 refine ⟨fun H0=>c10p (by simp) fun _=>?_⟩;unfold s10p
 have o : Owns H0 H0 []:=.nil _;refine tt ?_;refine nb o fun id2 H o=>tt ?_;refine (isCategory_ok B c).go fun _=>?_;rw [dec_t hc];refine tt ?_;refine (toSkeleton_ok B c hc).go fun _=>?_
 generalize skF c=F;refine tt ?_;refine sw o fun H o=>tt ?_
 have hr:=o.rc 12 0 (by simp);simp only [List.drop_zero] at hr;rw [hr];exact pure_ret rfl o.sub
def EndAt (k : FU) (a : Nat) : Prop:=ix k.tgt.frm (k.ar.getD a default)=ix k.ob (k.src.frm.getD a default)∧ix k.tgt.to (k.ar.getD a default)=ix k.ob (k.src.to.getD a default)
def IdnAt (k : FU) (x : Nat) : Prop:=ix k.ar (k.src.idn.getD x default)=ix k.tgt.idn (k.ob.getD x default)
def CmpAt (k : FU) (a b : Nat) : Prop:=0≤(k.src.comp.getD a default).getD b default→ix k.ar ((k.src.comp.getD a default).getD b default)=ix (ix k.tgt.comp (k.ar.getD a default)) (k.ar.getD b default)
theorem fits_ok (B : Nat) (k : FU) (hc : k.src.Shape) (hd : k.tgt.Shape) : Pur Tryz.prog B 149 [.ptr k.cells] (.bool (dec (k.Fit∧k.Laws))):=by
 refine ⟨fun H0=>c149p (by simp) fun hfi=>?_⟩;unfold s149p
 have hcm:=hc.m
 have hdm:=hd.m
 have hco:=hc.o
 have hdo:=hd.o
 have hctl:=hc.tol
 have hdtl:=hd.tol;refine tt ?_
 by_cases f1 : (k.ob.length : Int)=k.src.objs
 rotate_left
 ·have f1':=decide_eq_false f1;try simp only [go_sem,↓reduceIte,reduceEqDiff,reduceAdd,reduceMul,reduceLeDiff,reduceLT,f1',Bool.not_false]
  exact pure_ret (congrArg AV.bool (dec_f fun h=>f1 h.1.ol).symm) (.refl _)
 have f1':=decide_eq_true f1;try simp only [go_sem,↓reduceIte,reduceEqDiff,reduceAdd,reduceMul,reduceLeDiff,reduceLT,f1',Bool.not_true]
 refine ⟨_,(arrows_ok B k.src).run, ?_⟩
 by_cases f2 : (k.ar.length : Int)=k.src.frm.length
 rotate_left
 ·have f2':=decide_eq_false f2;try simp only [go_sem,↓reduceIte,reduceEqDiff,reduceAdd,reduceMul,reduceLeDiff,reduceLT,f2',Bool.not_false]
  exact pure_ret (congrArg AV.bool (dec_f fun h=>f2 (by have:=h.1.al; omega)).symm) (.refl _)
 have f2':=decide_eq_true f2;try simp only [go_sem,↓reduceIte,reduceEqDiff,reduceAdd,reduceMul,reduceLeDiff,reduceLT,f2',Bool.not_true]
 refine ⟨_,(within_ok B k.ob k.tgt.objs (by omega)).run, ?_⟩
 by_cases f3 : ∀ y,y∈k.ob→0≤y∧y<k.tgt.objs
 rotate_left
 ·rw [dec_f f3];try simp only [go_sem,↓reduceIte,reduceEqDiff,reduceAdd,reduceMul,reduceLeDiff,reduceLT,Bool.not_false]
  exact pure_ret (congrArg AV.bool (dec_f fun h=>f3 h.1.obr).symm) (.refl _)
 rw [dec_t f3];try simp only [go_sem,↓reduceIte,reduceEqDiff,reduceAdd,reduceMul,reduceLeDiff,reduceLT,Bool.not_true]
 refine ⟨_,(arrows_ok B k.tgt).run,tt ?_⟩;refine ⟨_,(within_ok B k.ar k.tgt.frm.length (by omega)).run, ?_⟩
 by_cases f4 : ∀ y,y∈k.ar→0≤y∧y<(k.tgt.frm.length : Int)
 rotate_left
 ·rw [dec_f f4];try simp only [go_sem,↓reduceIte,reduceEqDiff,reduceAdd,reduceMul,reduceLeDiff,reduceLT,Bool.not_false]
  exact pure_ret (congrArg AV.bool (dec_f fun h=>f4 h.1.arr).symm) (.refl _)
 rw [dec_t f4]
 have hF : k.Fit:=⟨f1,by omega,f3,f4⟩;try simp only [go_sem,↓reduceIte,reduceEqDiff,reduceAdd,reduceMul,reduceLeDiff,reduceLT,Bool.not_true]
 refine awp_for [0,3,4,64,65] (fun a _=>[(66,some (.int .i64 (a : Int)))]) (fun a _ H=>H=H0∧∀ i,i<a→EndAt k i) k.ar.length () ⟨rfl,by simp⟩ rfl ?_
 rintro a _ H ha ⟨rfl,hall⟩;refine tt ?_;apply bk <;> intro h1
 ·have h1p : a<k.ar.length:=of_decide h1
  have w1:=wsucc (k:=a) (by omega)
  have va:=f4 _ (mem_getD.mpr ⟨a,h1p,rfl⟩)
  have vs:=hc.frm' (f:=a) (by omega)
  have vt:=hc.to' (f:=a) (by omega)
  have hcil:=hc.il;refine tt ?_;refine ⟨h1p,⟨va.1,by omega⟩,by omega,⟨vs.1,by omega⟩, ?_⟩
  by_cases e1 : ix k.tgt.frm (k.ar.getD a default)=ix k.ob (k.src.frm.getD a default)
  rotate_left
  ·have e1':=decide_eq_false e1;try simp only [go_sem,↓reduceIte,reduceEqDiff,reduceAdd,reduceMul,reduceLeDiff,reduceLT,e1',Bool.not_false]
   exact pure_ret (congrArg AV.bool (dec_f fun h=>e1 (h.2.ends a (by omega)).1).symm) (.refl _)
  have e1':=decide_eq_true e1;try simp only [go_sem,↓reduceIte,reduceEqDiff,reduceAdd,reduceMul,reduceLeDiff,reduceLT,e1',Bool.not_true]
  refine ⟨⟨va.1,by omega⟩,by omega,⟨vt.1,by omega⟩, ?_⟩
  by_cases e2 : ix k.tgt.to (k.ar.getD a default)=ix k.ob (k.src.to.getD a default)
  rotate_left
  ·have e2':=decide_eq_false e2;try simp only [go_sem,↓reduceIte,reduceEqDiff,reduceAdd,reduceMul,reduceLeDiff,reduceLT,e2',Bool.not_false]
   exact pure_ret (congrArg AV.bool (dec_f fun h=>e2 (h.2.ends a (by omega)).2).symm) (.refl _)
  have e2':=decide_eq_true e2;try simp only [go_sem,↓reduceIte,reduceEqDiff,reduceAdd,reduceMul,reduceLeDiff,reduceLT,e2',Bool.not_true,w1]
  exact for_next () (by omega) ⟨rfl,lt_succ_all hall ⟨e1,e2⟩⟩ rfl
 have h1p : a=k.ar.length:=by have:=of_ndecide h1; omega
 have hends : ∀ i,i<k.src.frm.length→EndAt k i:=fun i hi=>hall i (by omega);clear h1 hall;subst h1p;refine tt ?_;refine awp_for [0,3,4,119,120] (fun x _=>[(121,some (.int .i64 (x : Int)))]) (fun x _ H'=>H'=H∧∀ i,i<x→IdnAt k i) k.src.idn.length () ⟨rfl,by simp⟩ rfl ?_
 rintro x _ H hx ⟨rfl,hall⟩;refine tt ?_;apply bk <;> intro h1
 ·have h1p : x<k.src.idn.length:=of_decide h1
  have hcil:=hc.il
  have hdil:=hd.il
  have w1:=wsucc (k:=x) (by omega)
  have vi:=hc.idn _ (mem_getD.mpr ⟨x,h1p,rfl⟩)
  have vo:=f3 _ (mem_getD.mpr ⟨x,(by omega : x<k.ob.length),rfl⟩);refine tt ?_;refine ⟨h1p,⟨vi.1,by omega⟩,by omega,⟨vo.1,by omega⟩, ?_⟩
  by_cases e1 : ix k.ar (k.src.idn.getD x default)=ix k.tgt.idn (k.ob.getD x default)
  rotate_left
  ·have e1':=decide_eq_false e1;try simp only [go_sem,↓reduceIte,reduceEqDiff,reduceAdd,reduceMul,reduceLeDiff,reduceLT,e1',Bool.not_false]
   exact pure_ret (congrArg AV.bool (dec_f fun h=>e1 (h.2.idn x h1p)).symm) (.refl _)
  have e1':=decide_eq_true e1;try simp only [go_sem,↓reduceIte,reduceEqDiff,reduceAdd,reduceMul,reduceLeDiff,reduceLT,e1',Bool.not_true,w1]
  exact for_next () (by omega) ⟨rfl,lt_succ_all hall e1⟩ rfl
 have h1p : x=k.src.idn.length:=by have:=of_ndecide h1; omega
 have hidn : ∀ i,i<k.src.idn.length→IdnAt k i:=fun i hi=>hall i (by omega);clear h1 hall;subst h1p;refine tt ?_
 have hccl:=hc.cl
 have hdcl:=hd.cl
 have hcmp : ∀ a b,a<k.src.frm.length→b<k.src.frm.length→0≤(k.src.comp.getD a default).getD b default→k.src.to.getD a default=k.src.frm.getD b default∧((k.src.comp.getD a default).getD b default).toNat<k.src.frm.length:=fun a b ha hb h=>by
  have e : k.src.to.getD a default=k.src.frm.getD b default:=by
   apply Classical.byContradiction; intro hn
   have:=hc.non a b ha hb hn;omega
  exact ⟨e,by have:=(hc.yes a b ha hb e).1; omega⟩
 refine awp_for [0,4,151,152] (fun a _=>[(153,some (.int .i64 (a : Int)))]) (fun a _ H'=>H'=H∧∀ i,i<a→∀ j,j<k.src.frm.length→CmpAt k i j) k.src.comp.length () ⟨rfl,by simp⟩ rfl ?_
 rintro a _ H ha ⟨rfl,hall⟩;refine tt ?_;apply bk <;> intro h1
 ·have h1p : a<k.src.comp.length:=of_decide h1
  have w1:=wsucc (k:=a) (by omega)
  have va:=f4 _ (mem_getD.mpr ⟨a,(by omega : a<k.ar.length),rfl⟩)
  have ra:=hc.row a (by omega)
  have rd:=hd.row' (a:=k.ar.getD a default) (by omega);refine tt ?_;refine ⟨h1p,tt ?_⟩;refine awp_for [0,4,9,151,152,153,158,159] (fun b _=>[(160,some (.int .i64 (b : Int)))]) (fun b _ H'=>H'=H∧∀ j,j<b→CmpAt k a j) (k.src.comp.getD a default).length () ⟨rfl,by simp⟩ rfl ?_
  rintro b _ H hb ⟨rfl,hrow⟩;refine tt ?_;apply bk <;> intro h2
  ·have h2p : b<(k.src.comp.getD a default).length:=of_decide h2
   have w2:=wsucc (k:=b) (by omega)
   have vb:=f4 _ (mem_getD.mpr ⟨b,(by omega : b<k.ar.length),rfl⟩);refine tt ?_;refine ⟨h2p, ?_⟩
   by_cases t : 0≤(k.src.comp.getD a default).getD b default
   ·obtain ⟨te,tl⟩:=hcmp a b (by omega) (by omega) t
    have t':=decide_eq_true t;try simp only [go_sem,↓reduceIte,reduceEqDiff,reduceAdd,reduceMul,reduceLeDiff,reduceLT,t']
    refine ⟨⟨t,by omega⟩,by omega,by omega,_,(catThen_ok B k.tgt (k.ar.getD a default) (k.ar.getD b default) ⟨va.1,by omega⟩ ⟨vb.1,by omega⟩).run, ?_⟩
    by_cases e1 : ix k.ar ((k.src.comp.getD a default).getD b default)=ix (ix k.tgt.comp (k.ar.getD a default)) (k.ar.getD b default)
    rotate_left
    ·have e1':=decide_eq_false e1;try simp only [go_sem,↓reduceIte,reduceEqDiff,reduceAdd,reduceMul,reduceLeDiff,reduceLT,e1',Bool.not_false]
     exact pure_ret (congrArg AV.bool (dec_f fun h=>e1 (h.2.comp a b (by omega) (by omega) te)).symm) (.refl _)
    have e1':=decide_eq_true e1;try simp only [go_sem,↓reduceIte,reduceEqDiff,reduceAdd,reduceMul,reduceLeDiff,reduceLT,e1',Bool.not_true,w2]
    exact for_next () (by omega) ⟨rfl,lt_succ_all hrow fun _=>e1⟩ rfl
   ·have t':=decide_eq_false t;try simp only [go_sem,↓reduceIte,reduceEqDiff,reduceAdd,reduceMul,reduceLeDiff,reduceLT,t',w2]
    exact for_next () (by omega) ⟨rfl,lt_succ_all hrow fun h=>absurd h t⟩ rfl
  have h2p : b=(k.src.comp.getD a default).length:=by have:=of_ndecide h2; omega
  have hrow2 : ∀ j,j<k.src.frm.length→CmpAt k a j:=fun j hj=>hrow j (by omega);clear h2 hrow;refine tw w1 ?_;exact for_next () (by omega) ⟨rfl,lt_succ_all hall hrow2⟩ rfl
 have h1p : a=k.src.comp.length:=by have:=of_ndecide h1; omega
 refine tt ?_;exact pure_ret (congrArg AV.bool (dec_t ⟨hF,hends,hidn,fun i j hi hj e=>hall i (by omega) j hj (hc.yes i j hi hj e).1.1⟩).symm) (.refl _)
theorem two_cats {c d : Cat} : (∀ e,e∈[c,d]→e.Is)↔c.Is∧d.Is:=by simp
theorem isFunctor_ok (B : Nat) (k : FU) : Pur Tryz.prog B 71 [.ptr k.cells] (.bool (dec k.Is)):=by
 refine ⟨fun H0=>c71p (by simp) fun _=>?_⟩;unfold s71p;refine tt ?_;refine ⟨_,(show Pur Tryz.prog B 72 [.sl [.ptr k.src.cells,.ptr k.tgt.cells]] _ from areCategories_ok B [k.src,k.tgt]).run, ?_⟩
 by_cases h : k.src.Is∧k.tgt.Is
 ·rw [dec_t (two_cats.mpr h)];refine tt ?_;refine ⟨_,(fits_ok B k h.1.1 h.2.1).run,tt ?_⟩;exact pure_ret (congrArg AV.bool (dec_congr ⟨fun q=>⟨h.1,h.2,q.1,q.2⟩,fun q=>⟨q.fit,q.laws⟩⟩)) (.refl _)
 ·rw [dec_f fun q=>h (two_cats.mp q)];refine tt ?_;exact pure_ret (congrArg AV.bool (dec_f fun q=>h ⟨q.sI,q.tI⟩).symm) (.refl _)
theorem isFunctorI_ok (B : Nat) (k : FU) : Pur Tryz.prog B 16 [.agg k.cells] (.bool (dec k.Is)):=by
 refine ⟨fun H0=>c16p (by simp) fun _=>?_⟩;unfold s16p;refine tt ?_;refine (isFunctor_ok B k).go fun _=>tt ?_;exact pure_ret rfl (.refl _)
theorem isCategoryI_ok (B : Nat) (c : Cat) : Pur Tryz.prog B 13 [.agg c.cells] (.bool (dec c.Is)):=by
 refine ⟨fun H0=>c13p (by simp) fun _=>?_⟩;unfold s13p;refine tt ?_;refine (isCategory_ok B c).go fun _=>tt ?_;exact pure_ret rfl (.refl _)
theorem thenFu_ok (B : Nat) (k l : FU) (h1 : ∀ y,y∈k.ob→0≤y∧y.toNat<l.ob.length) (h2 : ∀ y,y∈k.ar→0≤y∧y.toNat<l.ar.length) :
  Pur Tryz.prog B 76 [.ptr k.cells,.ptr l.cells] (.agg (FU.cells ⟨k.src,l.tgt,thenL k.ob l.ob,thenL k.ar l.ar⟩)):=by
 refine ⟨fun H0=>c76p (by simp) fun _=>?_⟩;unfold s76p
 have o : Owns H0 H0 []:=.nil _;refine tt ?_;refine nb o fun id4 H o=>tt ?_;refine ⟨_,(then_ok B k.ob l.ob h1).run,_,(then_ok B k.ar l.ar h2).run,_,(functor_ok B k.src l.tgt (thenL k.ob l.ob) (thenL k.ar l.ar)).run,tt ?_⟩;refine sw o fun H o=>tt ?_
 have hr:=o.rc 12 0 (by simp);simp only [List.drop_zero] at hr;rw [hr];exact pure_ret rfl o.sub
def FullXY (k : FU) (x y : Int) : Prop:=∀ b,b∈hom k.tgt (ix k.ob x) (ix k.ob y)→b∈(hom k.src x y).map (ix k.ar)
theorem full_iff {k : FU} : k.Full↔∀ i : Nat,(i : Int)<k.src.objs→∀ j : Nat,(j : Int)<k.src.objs→FullXY k i j:=by
 constructor
 ·intro h i hi j hj;exact h i j ⟨by omega,hi⟩ ⟨by omega,hj⟩
 ·intro h x y hx hy
  have:=h x.toNat (by omega) y.toNat (by omega);rw [Int.toNat_of_nonneg hx.1,Int.toNat_of_nonneg hy.1] at this;exact this
theorem isFull_ok (B : Nat) (k : FU) (hk : k.Is) : Pur Tryz.prog B 146 [.ptr k.cells] (.bool (dec k.Full)):=by
 refine ⟨fun H0=>c146p (by simp) fun _=>?_⟩;unfold s146p
 have hc:=hk.sI.1
 have hco:=hc.o
 have hcm:=hc.m
 have hol:=hk.fit.ol
 have hal:=hk.fit.al
 have hobj : ∀ x : Nat,(x : Int)<k.src.objs→x<k.ob.length:=fun x hx=>by omega
 refine tt ?_;refine awp_for [0,3] (fun x _=>[(4,some (.int .i64 (x : Int)))]) (fun x _ H=>H=H0∧∀ i,i<x→∀ j : Nat,(j : Int)<k.src.objs→FullXY k (i : Nat) j) k.src.objs.toNat () ⟨rfl,by simp⟩ rfl ?_
 rintro x _ H hx ⟨rfl,hall⟩;refine tt ?_;apply bk <;> intro h1
 ·have h1p:=of_decide h1
  have w1:=wsucc (k:=x) (by omega);refine tt ?_;refine awp_for [0,3,4] (fun y _=>[(5,some (.int .i64 (y : Int)))]) (fun y _ H'=>H'=H∧∀ j,j<y→FullXY k (x : Nat) (j : Nat)) k.src.objs.toNat () ⟨rfl,by simp⟩ rfl ?_
  rintro y _ H hy ⟨rfl,hrow⟩;refine tt ?_;apply bk <;> intro h2
  ·have h2p:=of_decide h2
   have w2:=wsucc (k:=y) (by omega)
   have ex : ix k.ob (x : Int)=k.ob.getD x default:=ix_nat _ _
   have ey : ix k.ob (y : Int)=k.ob.getD y default:=ix_nat _ _;refine tt ?_;refine ⟨_,(hom_ok B k.src hc x y).run,_,(then_ok B (hom k.src x y) k.ar fun f hf=>by have:=(ar_hom.mp hf).r; omega).run,tt ?_⟩;refine ⟨hobj x h1p,hobj y h2p,_,(hom_ok B k.tgt hk.tI.1 _ _).run, ?_⟩
   have hT : ∀ P : Int→Prop,(∀ b,b∈hom k.tgt (ix k.ob x) (ix k.ob y)→P b)↔∀ e,e<(hom k.tgt (k.ob.getD x default) (k.ob.getD y default)).length→P ((hom k.tgt (k.ob.getD x default) (k.ob.getD y default)).getD e default):=fun P=>by
    rw [ex,ey]; exact all_getD
   have hln : (hom k.tgt (k.ob.getD x default) (k.ob.getD y default)).length≤40:=by
    rw [hom_homC]; exact Nat.le_trans (homC_len _ _) hk.tI.1.m
   generalize hI : (hom k.src x y).map (fun f=>ix k.ar f)=I
   have hFx : FullXY k x y↔∀ e,e<(hom k.tgt (k.ob.getD x default) (k.ob.getD y default)).length→(hom k.tgt (k.ob.getD x default) (k.ob.getD y default)).getD e default∈I:=by
    rw [FullXY,hT,← hI]
   generalize hom k.tgt (k.ob.getD x default) (k.ob.getD y default)=T at hFx hln ⊢;refine tt ?_;refine awp_for [0,3,4,5,6,54,55] (fun e _=>[(56,some (.int .i64 (e : Int)))]) (fun e _ H'=>H'=H∧∀ i,i<e→T.getD i default∈I) T.length () ⟨rfl,by simp⟩ rfl ?_
   rintro e _ H he ⟨rfl,hb⟩;refine tt ?_;apply bk <;> intro h3
   ·have h3p : e<T.length:=of_decide h3
    have w3:=wsucc (k:=e) (by omega);refine tt ?_;refine ⟨h3p,(has_ok B I _).go fun _=>?_⟩
    by_cases t : T.getD e default∈I
    ·rw [dec_t t];try simp only [go_sem,↓reduceIte,reduceEqDiff,reduceAdd,reduceMul,reduceLeDiff,reduceLT,Bool.not_true,w3]
     exact for_next () h3p ⟨rfl,lt_succ_all hb t⟩ rfl
    ·rw [dec_f t];try simp only [go_sem,↓reduceIte,reduceEqDiff,reduceAdd,reduceMul,reduceLeDiff,reduceLT,Bool.not_false]
     exact pure_ret (congrArg AV.bool (dec_f fun q=>t (hFx.mp (full_iff.mp q x h1p y h2p) e h3p)).symm) (.refl _)
   have h3p : e=T.length:=by have:=of_ndecide h3; omega
   refine tw w2 ?_;exact for_next () (by omega) ⟨rfl,lt_succ_all hrow (hFx.mpr fun i hi=>hb i (by omega))⟩ rfl
  have h2p:=of_ndecide h2;refine tw w1 ?_;exact for_next () (by omega) ⟨rfl,lt_succ_all hall fun j hj=>hrow j (by omega)⟩ rfl
 have h1p:=of_ndecide h1;refine tt ?_;exact pure_ret (congrArg AV.bool (dec_t (full_iff.mpr fun i hi j hj=>hall i (by omega) j hj)).symm) (.refl _)
theorem isEss_ok (B : Nat) (k : FU) (hk : k.Is) : Pur Tryz.prog B 148 [.ptr k.cells] (.bool (dec k.Ess)):=by
 refine ⟨fun H0=>c148p (by simp) fun ⟨hfi,_⟩=>?_⟩;unfold s148p
 have hdo:=hk.tI.1.o
 have hco:=hk.sI.1.o
 have hol:=hk.fit.ol;refine tt ?_;refine awp_for [0] (fun y _=>[(3,some (.int .i64 (y : Int)))]) (fun y _ H=>H=H0∧∀ j : Nat,j<y→∃ x,x∈k.ob∧IsoO k.tgt x j) k.tgt.objs.toNat () ⟨rfl,by simp⟩ rfl ?_
 rintro y _ H hy ⟨rfl,hall⟩;refine tt ?_;apply bk <;> intro h1
 ·have h1p:=of_decide h1
  have w1:=wsucc (k:=y) (by omega);refine tt ?_;refine awp_for [0,3,18,19] (fun e _=>[(20,some (.int .i64 (e : Int)))]) (fun e _ H'=>H'=H∧∀ i,i<e→¬ IsoO k.tgt (k.ob.getD i default) (y : Nat)) k.ob.length () ⟨rfl,by simp⟩ rfl ?_
  rintro e _ H he ⟨rfl,hno⟩;refine tt ?_;apply bk <;> intro h2
  ·have h2p : e<k.ob.length:=of_decide h2
   have w2:=wsucc (k:=e) (by omega);refine tt ?_;refine ⟨h2p,(isomorphic_ok B k.tgt hk.tI _ _).go fun _=>?_⟩
   by_cases t : IsoO k.tgt (k.ob.getD e default) y
   ·have t':=decide_eq_true (leastI_iff.mpr t);try simp only [go_sem,↓reduceIte,reduceEqDiff,reduceAdd,reduceMul,reduceLeDiff,reduceLT,t',w1]
    exact for_next () (by omega) ⟨rfl,lt_succ_all hall ⟨_,mem_getD.mpr ⟨e,h2p,rfl⟩,t⟩⟩ rfl
   ·have t':=decide_eq_false (fun h=>t (leastI_iff.mp h));try simp only [go_sem,↓reduceIte,reduceEqDiff,reduceAdd,reduceMul,reduceLeDiff,reduceLT,t',w2]
    exact for_next () h2p ⟨rfl,lt_succ_all hno t⟩ rfl
  have h2p : e=k.ob.length:=by have:=of_ndecide h2; omega
  refine tt ?_;refine pure_ret (congrArg AV.bool (dec_f fun q=>?_).symm) (.refl _)
  obtain ⟨x,hx,hi⟩:=q y ⟨by omega,h1p⟩
  obtain ⟨i,hi2,rfl⟩:=mem_getD.mp hx;exact hno i (by omega) hi
 have h1p:=of_ndecide h1;refine tt ?_;refine pure_ret (congrArg AV.bool (dec_t fun j hj=>?_).symm) (.refl _)
 have:=hall j.toNat (by omega);rw [Int.toNat_of_nonneg hj.1] at this;exact this
def TwinA (k : FU) (a b : Nat) : Prop:=k.ar.getD a default=k.ar.getD b default∧k.src.frm.getD a default=k.src.frm.getD b default∧k.src.to.getD a default=k.src.to.getD b default
theorem faith_iff {k : FU} (hal : k.ar.length=k.src.frm.length) : k.Faith↔∀ a,a<k.ar.length→∀ b,b<a→¬ TwinA k a b:=by
 constructor
 ·intro h a ha b hb t
  have:=h a b ⟨by omega,by simp; omega⟩ ⟨by omega,by simp; omega⟩ (by rw [ix_nat,ix_nat]; exact t.1) (by rw [ix_nat,ix_nat]; exact t.2.1) (by rw [ix_nat,ix_nat]; exact t.2.2);omega
 ·intro h a b ha hb e1 e2 e3
  have key : ∀ a b : Int,(0≤a∧a.toNat<k.src.frm.length)→(0≤b∧b.toNat<k.src.frm.length)→ix k.ar a=ix k.ar b→ix k.src.frm a=ix k.src.frm b→ix k.src.to a=ix k.src.to b→¬ b<a:=fun a b ha hb e1 e2 e3 hlt =>
   h a.toNat (by omega) b.toNat (by omega) ⟨e1,e2,e3⟩
  have h1:=key a b ha hb e1 e2 e3
  have h2:=key b a hb ha e1.symm e2.symm e3.symm;omega
theorem isFaithful_ok (B : Nat) (k : FU) (hk : k.Is) : Pur Tryz.prog B 147 [.ptr k.cells] (.bool (dec k.Faith)):=by
 refine ⟨fun H0=>c147p (by simp) fun _=>?_⟩;unfold s147p
 have hal:=hk.fit.al
 have hcm:=hk.sI.1.m
 have htl:=hk.sI.1.tol;refine tt ?_;refine awp_for [0,9] (fun a _=>[(10,some (.int .i64 (a : Int)))]) (fun a _ H=>H=H0∧∀ i,i<a→∀ j,j<i→¬ TwinA k i j) k.ar.length () ⟨rfl,by simp⟩ rfl ?_
 rintro a _ H ha ⟨rfl,hall⟩;refine tt ?_;apply bk <;> intro h1
 ·have h1p : a<k.ar.length:=of_decide h1
  have w1:=wsucc (k:=a) (by omega);refine tt ?_;refine ⟨by omega, ?_⟩;rw [show (List.take a k.ar).length=a by rw [List.length_take]; omega];refine awp_for [0,3,9,10,19] (fun b _=>[(20,some (.int .i64 (b : Int)))]) (fun b _ H'=>H'=H∧∀ j,j<b→¬ TwinA k a j) a () ⟨rfl,by simp⟩ rfl ?_
  rintro b _ H hb ⟨rfl,hrow⟩;refine tt ?_;apply bk <;> intro h2
  ·have h2p : b<a:=of_decide h2
   have w2:=wsucc (k:=b) (by omega);refine tt ?_;refine ⟨h1p,by omega, ?_⟩
   by_cases t1 : k.ar.getD a default=k.ar.getD b default
   ·have t1':=decide_eq_true t1;try simp only [go_sem,↓reduceIte,reduceEqDiff,reduceAdd,reduceMul,reduceLeDiff,reduceLT,t1']
    refine ⟨_,(ends_ok B k.src a ⟨by omega,by simp; omega⟩ (by simp; omega)).run,_,(ends_ok B k.src b ⟨by omega,by simp; omega⟩ (by simp; omega)).run,tt ?_⟩
    by_cases t2 : k.src.frm.getD a default=k.src.frm.getD b default∧k.src.to.getD a default=k.src.to.getD b default
    ·rw [dec_t t2];refine tt ?_;exact pure_ret (congrArg AV.bool (dec_f fun q=>(faith_iff hal).mp q a h1p b h2p ⟨t1,t2.1,t2.2⟩).symm) (.refl _)
    ·rw [dec_f t2];refine tw w2 ?_;exact for_next () (by omega) ⟨rfl,lt_succ_all hrow fun q=>t2 q.2⟩ rfl
   ·have t1':=decide_eq_false t1;try simp only [go_sem,↓reduceIte,reduceEqDiff,reduceAdd,reduceMul,reduceLeDiff,reduceLT,t1',w2]
    exact for_next () (by omega) ⟨rfl,lt_succ_all hrow fun q=>t1 q.1⟩ rfl
  have h2p : b=a:=by have:=of_ndecide h2; omega
  refine tw w1 ?_;exact for_next () (by omega) ⟨rfl,lt_succ_all hall fun j hj=>hrow j (by omega)⟩ rfl
 have h1p : a=k.ar.length:=by have:=of_ndecide h1; omega
 refine tt ?_;exact pure_ret (congrArg AV.bool (dec_t ((faith_iff hal).mpr fun i hi j hj=>hall i (by omega) j hj)).symm) (.refl _)
def FU.Eqv (k : FU) : Prop:=k.Full∧k.Faith∧k.Ess
theorem isEquivalence_ok (B : Nat) (k : FU) (hk : k.Is) : Pur Tryz.prog B 70 [.ptr k.cells] (.bool (dec (FU.Eqv k))):=by
 refine ⟨fun H0=>c70p (by simp) fun _=>?_⟩;unfold s70p;refine tt ?_;refine (isFull_ok B k hk).go fun _=>?_
 by_cases h1 : k.Full
 rotate_left
 ·rw [dec_f h1];refine tt ?_;exact pure_ret (congrArg AV.bool (dec_f fun q=>h1 q.1).symm) (.refl _)
 rw [dec_t h1];refine tt ?_;refine (isFaithful_ok B k hk).go fun _=>?_
 by_cases h2 : k.Faith
 rotate_left
 ·rw [dec_f h2];refine tt ?_;exact pure_ret (congrArg AV.bool (dec_f fun q=>h2 q.2.1).symm) (.refl _)
 rw [dec_t h2];refine tt ?_;refine (isEss_ok B k hk).go fun _=>tt ?_;exact pure_ret (congrArg AV.bool (dec_congr ⟨fun q=>⟨h1,h2,q⟩,fun q=>q.2.2⟩)) (.refl _)
theorem asked_ok (B : Nat) (k : FU) (hk : k.Is) : Pur Tryz.prog B 69 [.ptr k.cells,.fn (.func 70) []] (.tup [.bool (dec (FU.Eqv k)),iI 0]):=by
 refine ⟨fun H0=>c69p (by simp) fun _=>?_⟩;unfold s69p;refine tt ?_;refine (isFunctor_ok B k).go fun _=>?_;rw [dec_t hk];refine tt ?_;refine (isEquivalence_ok B k hk).go fun _=>tt ?_;exact pure_ret rfl (.refl _)
theorem isEquivalenceI_ok (B : Nat) (k : FU) (hk : k.Is) : Pur Tryz.prog B 15 [.agg k.cells] (.tup [.bool (dec (FU.Eqv k)),iI 0]):=by
 refine ⟨fun H0=>c15p (by simp) fun _=>?_⟩;unfold s15p;refine tt ?_;refine (asked_ok B k hk).go fun _=>tt ?_;exact pure_ret rfl (.refl _)
end Go.Proofs.Shf
