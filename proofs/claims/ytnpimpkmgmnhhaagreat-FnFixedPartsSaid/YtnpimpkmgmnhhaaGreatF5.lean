/- Contracts, part 5. -/
import Derived.Test.YtnpimpkmgmnhhaaGreatF4
import Derived.Sort.Row
import Derived.Sort.Grow
import Derived.Deep.Draws
import Derived.Test.YtnpimpkmgmnhhaaGreatProg
import Derived.Tactics
import Derived.Tactics2
import Derived.Defers
import Derived.Laws.Pointers
import Derived.Laws.LoneSync
import Derived.RegionTactic
import Derived.RegionCalls
import Derived.ChangeAlike
set_option linter.unusedVariables false
set_option linter.unusedSimpArgs false
set_option linter.unusedSectionVars false
set_option maxRecDepth 100000
open Nat (reduceEqDiff reduceAdd reduceMul reduceLeDiff reduceLT)
namespace Go.Proofs.Shf
open Go.AW Go.Proofs Go.Shf
end Go.Proofs.Shf
namespace Go.AW
open Go.Proofs Go.Proofs.Shf Go.Shf Go.RowKit
end Go.AW
namespace Go.AW
open Go.Proofs Go.Proofs.Shf Go.Shf Go.RowKit
end Go.AW
namespace Go.AW
open Go.Proofs Go.Proofs.Shf Go.Shf Go.RowKit
end Go.AW
namespace Go.Proofs.Shf
open Go.AW Go.Proofs Go.Shf
end Go.Proofs.Shf
namespace Go.Shf
open Go.AW
end Go.Shf
namespace Go.Proofs.Shf
open Go.AW Go.Proofs Go.Shf
end Go.Proofs.Shf
namespace Go.Proofs.Shf
open Go.AW Go.Proofs Go.RowKit
end Go.Proofs.Shf
namespace Go.Shf
open Go.AW
end Go.Shf
namespace Go.Proofs.Shf
open Go.AW Go.Proofs Go.Shf
theorem homP_t {c : Cat} {x y : Int} {i : Nat} (h1 : c.frm.getD i default=x) (h2 : c.to.getD i default=y) : homP c x y i=true:=by
 simp only [homP,Bool.and_eq_true,decide_eq_true_eq]; exact ⟨h1,h2⟩
theorem homP_f {c : Cat} {x y : Int} {i : Nat} (h : ¬ (c.frm.getD i default=x∧c.to.getD i default=y)) : homP c x y i=false:=by
 simp only [homP,Bool.and_eq_false_iff,decide_eq_false_iff_not]
 by_cases h1 : c.frm.getD i default=x
 ·exact .inr fun h2=>h ⟨h1,h2⟩
 ·exact .inl h1
theorem hom_ok (B : Nat) (c : Cat) (hs : c.Shape) (x y : Int) : Pur Tryz.prog B 138 [.ptr c.cells,iI x,iI y] (iL (hom c x y)):=by
 refine ⟨fun H0=>c138p (by simp) fun _=>?_⟩
 have hm:=hs.m
 have htl:=hs.tol;unfold s138p;refine tt ?_;refine new_list iI (.nil _) fun id H o=>tt ?_;refine awp_for [0,1,2,14] (G:=Nat × List (Int)) (fun k g=>[(7,some (.buf g.1 g.2.length)),(15,some (.int .i64 (k : Int)))]) (fun k g H=>g.2=(nats (homP c x y) k)∧Owns H0 H [(g.1,.cells 1 (g.2.map iI) 0)]) c.frm.length (id,[]) ⟨by simp,o⟩ rfl ?_
 rintro k ⟨id,out⟩ H hk ⟨hout,o⟩;dsimp only at hout;refine tt ?_;apply bk <;> intro h1
 ·have h1:=of_decide h1
  have w1:=wsucc (k:=k) (by omega)
  have hlen : out.length≤k:=by rw [hout]; exact nats_len _ _
  refine tt ?_;refine ⟨h1, ?_⟩;apply bk <;> intro h2
  ·refine tw h2 ?_
   have h2p:=dd h2;refine ⟨by omega, ?_⟩;apply bk <;> intro h3
   ·refine tw h3 ?_
    have h3p:=dd h3;refine app_own (k : Int) o rfl rfl (by simp only [maxL]; omega) fun id H o=>?_;refine tw w1 ?_;exact for_next (_,_) (by omega) ⟨by rw [hout,nats_t (homP_t h2p h3p)],o⟩ rfl
   ·try simp only [go_sem,↓reduceIte,reduceEqDiff,reduceAdd,reduceMul,reduceLeDiff,reduceLT,h3,w1]
    have h3p:=dd h3;exact for_next (_,_) (by omega) ⟨by rw [hout,nats_f (homP_f fun e=>h3p e.2)],o⟩ rfl
  ·try simp only [go_sem,↓reduceIte,reduceEqDiff,reduceAdd,reduceMul,reduceLeDiff,reduceLT,h2,w1]
   have h2p:=dd h2;exact for_next (_,_) (by omega) ⟨by rw [hout,nats_f (homP_f fun e=>h2p e.1)],o⟩ rfl
 ·refine tt ?_
  have h1:=of_ndecide h1;refine fz_own o rfl fun H o=>tt ?_;exact pure_ret (by rw [hout,show k=c.frm.length by omega]; rfl) o.sub
end Go.Proofs.Shf
namespace Go.AW
end Go.AW
namespace Go.Proofs.Shf
open Go.AW Go.Proofs Go.Shf
end Go.Proofs.Shf
namespace Go.Shf
open Go.AW
end Go.Shf
namespace Go.Proofs.Shf
open Go.AW Go.Proofs Go.Shf
end Go.Proofs.Shf
namespace Go.Shf
open Go.AW
end Go.Shf
namespace Go.Shf
open Go.AW
theorem hom_homC (c : Cat) (x y : Int) : hom c x y=homC c x y:=by rw [← homK_full]; rfl
end Go.Shf
namespace Go.Shf
open Go.AW
def Cat.th (c : Cat) (f g : Int) : Int:=ix (ix c.comp f) g
structure Cat.Ar (c : Cat) (f x y : Int) : Prop where
 r : 0≤f∧f.toNat<c.frm.length
 s : ix c.frm f=x
 t : ix c.to f=y
section
variable {c : Cat} {f g k w x y z : Int}
theorem ar_hom : f∈hom c x y↔c.Ar f x y:=mem_hom.trans ⟨fun h=>⟨h.1,h.2.1,h.2.2⟩,fun h=>⟨h.r,h.s,h.t⟩⟩
theorem Cat.Ar.comp (h : c.Is) (a : c.Ar f x y) (b : c.Ar g y z) : c.Ar (c.th f g) x z:=by
 have:=h.1.comp a.r b.r (a.t.trans b.s.symm);exact ⟨this.1,this.2.1.trans a.s,this.2.2.trans b.t⟩
theorem Cat.Ar.assoc (h : c.Is) (a : c.Ar f w x) (b : c.Ar g x y) (d : c.Ar k y z) : c.th (c.th f g) k=c.th f (c.th g k):=h.assoc a.r b.r d.r (a.t.trans b.s.symm) (b.t.trans d.s.symm)
theorem Cat.Ar.idl (h : c.Is) (a : c.Ar f x y) : c.th (ix c.idn x) f=f:=by have:=h.idl a.r; rw [a.s] at this; exact this
theorem Cat.Ar.idr (h : c.Is) (a : c.Ar f x y) : c.th f (ix c.idn y)=f:=by have:=h.idr a.r; rw [a.t] at this; exact this
theorem Cat.Is.idA (h : c.Is) (hx : 0≤x∧x<c.objs) : c.Ar (ix c.idn x) x x:=⟨(h.1.idArr hx).1,(h.1.idArr hx).2.1,(h.1.idArr hx).2.2⟩
theorem Cat.Ar.src (h : c.Is) (a : c.Ar f x y) : 0≤x∧x<c.objs:=a.s ▸ h.1.frmObj a.r.2
theorem Cat.Ar.tgt (h : c.Is) (a : c.Ar f x y) : 0≤y∧y<c.objs:=a.t ▸ h.1.toObj a.r.2
structure Cat.Inv (c : Cat) (f g x y : Int) : Prop where
 a : c.Ar f x y
 b : c.Ar g y x
 l : c.th f g=ix c.idn x
 r : c.th g f=ix c.idn y
theorem Cat.Inv.symm (i : c.Inv f g x y) : c.Inv g f y x:=⟨i.b,i.a,i.r,i.l⟩
theorem Cat.Inv.uniq (h : c.Is) (i : c.Inv f g x y) (j : c.Inv f k x y) : g=k:=by
 rw [← i.b.idr h,← j.l,← i.b.assoc h j.a j.b,i.r,j.b.idl h]
theorem Cat.Inv.comp {f' g' : Int} (h : c.Is) (i : c.Inv f f' x y) (j : c.Inv g g' y z) : c.Inv (c.th f g) (c.th g' f') x z :=
 ⟨i.a.comp h j.a,j.b.comp h i.b,by rw [i.a.assoc h j.a (j.b.comp h i.b),← j.a.assoc h j.b i.b,j.l,i.b.idl h,i.l],by rw [j.b.assoc h i.b (i.a.comp h j.a),← i.b.assoc h i.a j.a,i.r,j.a.idl h,j.r]⟩
theorem Cat.Inv.id (h : c.Is) (hx : 0≤x∧x<c.objs) : c.Inv (ix c.idn x) (ix c.idn x) x x:=⟨h.idA hx,h.idA hx,(h.idA hx).idl h,(h.idA hx).idl h⟩
def IsoO (c : Cat) (x y : Int) : Prop:=∃ f g,c.Inv f g x y
theorem IsoO.refl (h : c.Is) (hx : 0≤x∧x<c.objs) : IsoO c x x:=⟨_,_,.id h hx⟩
theorem IsoO.symm (i : IsoO c x y) : IsoO c y x:=let ⟨f,g,i⟩:=i; ⟨g,f,i.symm⟩
theorem IsoO.trans (h : c.Is) (i : IsoO c x y) (j : IsoO c y z) : IsoO c x z:=let ⟨_,_,i⟩:=i; let ⟨_,_,j⟩:=j; ⟨_,_,i.comp h j⟩
def invP (c : Cat) (f g : Int) : Bool:=decide (c.th f g=ix c.idn (ix c.frm f)) && decide (c.th g f=ix c.idn (ix c.to f))
def invF (c : Cat) (f : Int) : Int:=((hom c (ix c.to f) (ix c.frm f)).find? (invP c f)).getD (-1)
theorem invP_iff (a : c.Ar f x y) (b : c.Ar g y x) : invP c f g=true↔c.Inv f g x y:=by
 rw [invP,Bool.and_eq_true,decide_eq_true_eq,decide_eq_true_eq,a.s,a.t];exact ⟨fun h=>⟨a,b,h.1,h.2⟩,fun i=>⟨i.l,i.r⟩⟩
theorem invF_or (a : c.Ar f x y) : c.Inv f (invF c f) x y∨(invF c f=-1∧∀ g,¬ c.Inv f g x y):=by
 rw [invF]
 cases e : (hom c (ix c.to f) (ix c.frm f)).find? (invP c f) with
 | some g =>
  have h1:=List.find?_some e
  have h2:=ar_hom.mp (List.mem_of_find?_eq_some e);rw [a.s,a.t] at h2;exact .inl ((invP_iff a h2).mp h1)
 | none =>
  refine .inr ⟨rfl,fun g i=>?_⟩
  have:=List.find?_eq_none.mp e g (by rw [a.s,a.t]; exact ar_hom.mpr i.b);exact this ((invP_iff a i.b).mpr i)
theorem invF_iff (a : c.Ar f x y) : 0≤invF c f↔∃ g,c.Inv f g x y:=by
 rcases invF_or a with h | ⟨h1,h2⟩
 ·exact ⟨fun _=>⟨_,h⟩,fun _=>h.b.r.1⟩
 ·exact ⟨fun h=>by omega,fun ⟨g,i⟩=>absurd i (h2 g)⟩
theorem invF_eq (h : c.Is) (i : c.Inv f g x y) : invF c f=g:=by
 rcases invF_or i.a with k | ⟨h1,h2⟩
 ·exact k.uniq h i
 ·exact absurd i (h2 g)
def leastI (c : Cat) (x y : Int) : Int:=((hom c x y).find? fun f=>decide (0≤invF c f)).getD (-1)
theorem leastI_or : (∃ g,c.Inv (leastI c x y) g x y)∨(leastI c x y=-1∧¬ IsoO c x y):=by
 rw [leastI]
 cases e : (hom c x y).find? fun f=>decide (0≤invF c f) with
 | some f =>
  have h1:=List.find?_some e
  have h2:=ar_hom.mp (List.mem_of_find?_eq_some e);exact .inl ((invF_iff h2).mp (of_decide_eq_true h1))
 | none =>
  refine .inr ⟨rfl,fun ⟨f,g,i⟩=>?_⟩
  have:=List.find?_eq_none.mp e f (ar_hom.mpr i.a);exact this (decide_eq_true ((invF_iff i.a).mpr ⟨g,i⟩))
theorem leastI_inv (h : IsoO c x y) : ∃ g,c.Inv (leastI c x y) g x y:=by
 rcases leastI_or (c:=c) (x:=x) (y:=y) with k | ⟨_,k⟩
 ·exact k
 ·exact absurd h k
noncomputable def repO (c : Cat) (x : Int) : Int:=(((List.range c.objs.toNat).find? fun y : Nat=>dec (IsoO c y x)).map Int.ofNat).getD x
theorem find_least {p : Nat→Bool} {n m : Nat} (h : (List.range n).find? p=some m) : p m=true∧m<n∧∀ i,i<m→p i=false:=by
 refine ⟨List.find?_some h,List.mem_range.mp (List.mem_of_find?_eq_some h),fun i hi=>?_⟩
 obtain ⟨_,la,lb,e,hall⟩:=List.find?_eq_some_iff_append.mp h
 have hm : m<n:=List.mem_range.mp (List.mem_of_find?_eq_some h)
 have hl : la.length=m:=by
  have h1 : (List.range n)[la.length]? = some m:=by rw [e]; simp
  rw [List.getElem?_range (by have:=congrArg List.length e; simp at this; omega)] at h1;exact Option.some.inj h1
 have h2 : i∈la:=by
  have h3 : (List.range n)[i]? = some i:=List.getElem?_range (by omega);rw [e,List.getElem?_append_left (by omega)] at h3;exact List.mem_of_getElem? h3
 simpa using hall i h2
theorem repO_spec (h : c.Is) (hx : 0≤x∧x<c.objs) : IsoO c (repO c x) x∧(0≤repO c x∧repO c x≤x)∧∀ y,0≤y→IsoO c y x→repO c x≤y:=by
 have hx' : (x.toNat : Int)=x:=Int.toNat_of_nonneg hx.1;rw [repO]
 cases e : (List.range c.objs.toNat).find? fun y : Nat=>dec (IsoO c y x) with
 | none =>
  have:=List.find?_eq_none.mp e x.toNat (List.mem_range.mpr (by omega));rw [hx',dec_iff] at this;exact absurd (IsoO.refl h hx) this
 | some m =>
  obtain ⟨h1,h2,h3⟩:=find_least e
  have h4 : ∀ y,0≤y→IsoO c y x→(m : Int)≤y:=fun y hy hi=>by
   apply Classical.byContradiction; intro hn
   have:=h3 y.toNat (by omega);rw [Int.toNat_of_nonneg hy,dec_niff] at this;exact this hi
  exact ⟨dec_iff.mp h1,⟨Int.natCast_nonneg m,h4 x hx.1 (.refl h hx)⟩,h4⟩
theorem repO_iff (h : c.Is) (hx : 0≤x∧x<c.objs) (hy : 0≤y∧y<c.objs) : repO c x=repO c y↔IsoO c x y:=by
 have sx:=repO_spec h hx
 have sy:=repO_spec h hy
 constructor
 ·intro e;exact sx.1.symm.trans h (by rw [e]; exact sy.1)
 ·intro i
  have h1:=sx.2.2 _ sy.2.1.1 (sy.1.trans h i.symm)
  have h2:=sy.2.2 _ sx.2.1.1 (sx.1.trans h i);omega
theorem repO_ran (h : c.Is) (hx : 0≤x∧x<c.objs) : 0≤repO c x∧repO c x<c.objs:=by
 have:=(repO_spec h hx).2.1; omega
theorem repO_rep (h : c.Is) (hx : 0≤x∧x<c.objs) : repO c (repO c x)=repO c x:=(repO_iff h (repO_ran h hx) hx).mpr (repO_spec h hx).1
noncomputable def leadK (c : Cat) (k : Nat) : List Int:=((List.range k).filter fun x : Nat=>dec (repO c x=x)).map Int.ofNat
noncomputable def leadL (c : Cat) : List Int:=leadK c c.objs.toNat
theorem mem_leadK {k : Nat} : x∈leadK c k↔(0≤x∧x.toNat<k)∧repO c x=x:=by
 simp only [leadK,List.mem_map,List.mem_filter,List.mem_range,dec_iff]
 constructor
 ·rintro ⟨b,⟨h1,h2⟩,rfl⟩; exact ⟨⟨Int.natCast_nonneg b,by simpa using h1⟩,h2⟩
 ·rintro ⟨⟨h1,h2⟩,h3⟩; exact ⟨x.toNat,⟨h2,by rw [Int.toNat_of_nonneg h1]; exact h3⟩,Int.toNat_of_nonneg h1⟩
theorem mem_leadL : x∈leadL c↔(0≤x∧x<c.objs)∧repO c x=x:=by
 rw [leadL,mem_leadK]; exact ⟨fun h=>⟨by omega,h.2⟩,fun h=>⟨by omega,h.2⟩⟩
theorem leadK_nodup (k : Nat) : (leadK c k).Nodup:=by
 rw [leadK];exact List.pairwise_map.mpr ((List.nodup_range.sublist List.filter_sublist).imp fun {a b} h e=>h (Int.ofNat_inj.mp e))
theorem leadL_nodup : (leadL c).Nodup:=leadK_nodup _
theorem leadK_t {k : Nat} (h : repO c k=k) : leadK c (k+1)=leadK c k++[(k : Int)]:=by
 rw [leadK,range_succ_filter,if_pos (dec_iff.mpr h),List.map_append]; rfl
theorem leadK_f {k : Nat} (h : ¬ repO c k=k) : leadK c (k+1)=leadK c k:=by
 rw [leadK,range_succ_filter,if_neg (by rw [dec_f h]; simp),List.append_nil]; rfl
theorem leadK_pre : ∀ {n k : Nat},k≤n→∃ r,leadK c n=leadK c k++r
 | 0,k,h=>⟨[],by rw [show k=0 by omega]; simp⟩
 | n+1,k,h=>by
  by_cases e : k=n+1
  ·exact ⟨[],by subst e; simp⟩
  ·obtain ⟨r,hr⟩:=leadK_pre (n:=n) (k:=k) (by omega)
   by_cases q : repO c n=n
   ·exact ⟨r++[(n : Int)],by rw [leadK_t q,hr,List.append_assoc]⟩
   ·exact ⟨r,by rw [leadK_f q,hr]⟩
theorem leadK_len (k : Nat) : (leadK c k).length≤k:=by
 rw [leadK,List.length_map]; exact Nat.le_trans (List.length_filter_le _ _) (by simp)
noncomputable def clsK (c : Cat) : List Int:=(List.range c.objs.toNat).map fun x : Nat=>indexOf (leadL c) (repO c x)
theorem clsK_len (h : c.Is) : ((clsK c).length : Int)=c.objs:=by have:=h.1.o; simp [clsK]; omega
theorem clsK_at {k : Nat} (hk : k<c.objs.toNat) : (clsK c).getD k default=indexOf (leadL c) (repO c k):=by rw [clsK,getD_map_range _ _ hk]
theorem rep_lead (h : c.Is) (hx : 0≤x∧x<c.objs) : repO c x∈leadL c:=mem_leadL.mpr ⟨repO_ran h hx,repO_rep h hx⟩
theorem seen_rep (h : c.Is) : ∀ k,k≤c.objs.toNat→seenL ((List.range k).map fun x : Nat=>repO c x)=leadK c k
 | 0,_=>rfl
 | k+1,hk=>by
  have hkr : 0≤(k : Int)∧(k : Int)<c.objs:=by omega
  have sk:=repO_spec h hkr;rw [List.range_succ,List.map_append,List.map_cons,List.map_nil,seenL_snoc,seen_rep h k (by omega)]
  by_cases e : repO c k=k
  ·rw [leadK_t e,if_neg (fun hm=>by have:=(mem_leadK.mp hm).1; rw [e] at this; omega),e]
  ·rw [leadK_f e,if_pos];exact mem_leadK.mpr ⟨⟨sk.2.1.1,by omega⟩,repO_rep h hkr⟩
theorem cls_rep (h : c.Is) : classL ((List.range c.objs.toNat).map fun x : Nat=>repO c x)=clsK c:=by
 rw [classL,seen_rep h _ (Nat.le_refl _),List.map_map]; rfl
theorem clsK_eq (h : c.Is) {R : List Int} (hl : R.length=c.objs.toNat) (hR : ∀ u v : Nat,u<c.objs.toNat→v<c.objs.toNat→(R.getD u default=R.getD v default↔IsoO c u v)) : classL R=clsK c:=by
 rw [← cls_rep h];refine classL_congr (by simp [hl]) fun i j hi hj=>?_;rw [hR i j (by omega) (by omega),getD_map_range _ _ (by omega),getD_map_range _ _ (by omega),repO_iff h (by omega) (by omega)]
theorem cls_hit (h : c.Is) {k : Nat} (hk : k<c.objs.toNat) : (clsK c).getD k default=(leadK c k).length↔repO c k=k:=by
 have hkr : 0≤(k : Int)∧(k : Int)<c.objs:=by omega
 have sk:=repO_spec h hkr;rw [clsK_at hk]
 by_cases e : repO c k=k
 ·obtain ⟨r,hr⟩:=leadK_pre (c:=c) (n:=c.objs.toNat) (k:=k+1) (by omega);rw [leadK_t e] at hr;refine ⟨fun _=>e,fun _=>?_⟩
  have hl : (leadK c k).length<(leadL c).length:=by rw [leadL,hr]; simp
  have h1:=indexOf_nodup (leadL_nodup (c:=c)) hl
  have h2 : (leadL c).getD (leadK c k).length default=(k : Int):=by
   rw [leadL,hr,List.getD_eq_getElem?_getD]; simp
  rw [h2] at h1;rw [e]; exact h1
 ·refine ⟨fun q=>absurd q ?_,fun q=>absurd q e⟩
  obtain ⟨r,hr⟩:=leadK_pre (c:=c) (n:=c.objs.toNat) (k:=k) (by omega)
  have hm : repO c k∈leadK c k:=mem_leadK.mpr ⟨⟨sk.2.1.1,by omega⟩,repO_rep h hkr⟩
  have h1:=indexOf_in hm
  have h2 : indexOf (leadL c) (repO c k)=indexOf (leadK c k) (repO c k):=by
   have hi:=indexOf_nodup (leadL_nodup (c:=c)) (k:=(indexOf (leadK c k) (repO c k)).toNat) (by rw [leadL,hr,List.length_append]; omega)
   have h3 : (leadL c).getD (indexOf (leadK c k) (repO c k)).toNat default=repO c k:=by
    rw [leadL,hr,List.getD_eq_getElem?_getD,List.getElem?_append_left h1.2.1,← List.getD_eq_getElem?_getD]; exact h1.2.2
   rw [h3] at hi;rw [hi]; omega
  rw [h2]; omega
end
def fullA (c : Cat) (L : List Int) : List Int:=nats (fun f=>decide (c.frm.getD f default∈L) && decide (c.to.getD f default∈L)) c.frm.length
theorem mem_fullA {c : Cat} {L : List Int} {f : Int} : f∈fullA c L↔(0≤f∧f.toNat<c.frm.length)∧ix c.frm f∈L∧ix c.to f∈L:=by
 simp only [fullA,mem_nats,Bool.and_eq_true,decide_eq_true_eq,and_assoc]; exact Iff.rfl
theorem fullA_nodup {c : Cat} {L : List Int} : (fullA c L).Nodup:=(rising_pw.mp (nats_rising _ _)).imp fun {a b} h=>by omega
def part (c : Cat) (L : List Int) : Cat:=⟨L.length,(fullA c L).map fun a=>indexOf L (ix c.frm a),(fullA c L).map fun a=>indexOf L (ix c.to a),L.map fun x=>indexOf (fullA c L) (ix c.idn x),
 (fullA c L).map fun a=>(fullA c L).map fun b=>indexOf (fullA c L) (c.th a b)⟩
structure Sel (c : Cat) (L : List Int) : Prop where
 nd : L.Nodup
 ran : ∀ x,x∈L→0≤x∧x<c.objs
section
variable {c : Cat} {L : List Int}
theorem Sel.len (s : Sel c L) (h : c.Is) : (L.length : Int)≤c.objs:=by
 have hob:=h.1.o
 have:=List.Nodup.length_le_of_subset (l₁:=L) (l₂:=(List.range c.objs.toNat).map Int.ofNat) s.nd fun x hx=>by
  have:=s.ran x hx;exact List.mem_map.mpr ⟨x.toNat,List.mem_range.mpr (by omega),Int.toNat_of_nonneg this.1⟩
 simp at this; omega
theorem fullA_len : (fullA c L).length≤c.frm.length:=by
 have:=List.Nodup.length_le_of_subset (l₁:=fullA c L) (l₂:=(List.range c.frm.length).map Int.ofNat) fullA_nodup fun x hx=>by
  have:=(mem_fullA.mp hx).1;exact List.mem_map.mpr ⟨x.toNat,List.mem_range.mpr (by omega),Int.toNat_of_nonneg this.1⟩
 simpa using this
theorem fullA_at {i : Int} (hi : i.toNat<(fullA c L).length) : c.Ar (ix (fullA c L) i) (ix c.frm (ix (fullA c L) i)) (ix c.to (ix (fullA c L) i))∧ix c.frm (ix (fullA c L) i)∈L∧ix c.to (ix (fullA c L) i)∈L:=by
 have:=mem_fullA.mp (ix_mem hi);exact ⟨⟨this.1,rfl,rfl⟩,this.2⟩
theorem part_frm {i : Int} (hi : i.toNat<(fullA c L).length) : ix (part c L).frm i=indexOf L (ix c.frm (ix (fullA c L) i)):=ix_map _ hi
theorem part_to {i : Int} (hi : i.toNat<(fullA c L).length) : ix (part c L).to i=indexOf L (ix c.to (ix (fullA c L) i)):=ix_map _ hi
theorem part_idn {x : Int} (hx : x.toNat<L.length) : ix (part c L).idn x=indexOf (fullA c L) (ix c.idn (ix L x)):=ix_map _ hx
theorem part_th {i j : Int} (hi : i.toNat<(fullA c L).length) (hj : j.toNat<(fullA c L).length) : (part c L).th i j=indexOf (fullA c L) (c.th (ix (fullA c L) i) (ix (fullA c L) j)):=by
 rw [Cat.th,part,ix_map _ hi,ix_map _ hj]
theorem idx_ix {l : List Int} {x : Int} (hx : x∈l) : ix l (indexOf l x)=x:=(indexOf_in hx).2.2
theorem indexOf_neg {l : List Int} {x : Int} (h : x ∉ l) : indexOf l x=-1:=indexOf_miss fun i hi e=>h (mem_getD.mpr ⟨i,hi,e⟩)
theorem part_ar (s : Sel c L) {i x y : Int} (hx : 0≤x∧x.toNat<L.length) (hy : 0≤y∧y.toNat<L.length) : (part c L).Ar i x y↔(0≤i∧i.toNat<(fullA c L).length)∧c.Ar (ix (fullA c L) i) (ix L x) (ix L y):=by
 constructor
 ·intro a
  have hr : 0≤i∧i.toNat<(fullA c L).length:=by have:=a.r; simp only [part,List.length_map] at this; exact this
  have h1:=fullA_at hr.2;refine ⟨hr,h1.1.r, ?_, ?_⟩
  ·have:=a.s; rw [part_frm hr.2] at this; rw [← this,idx_ix h1.2.1]
  ·have:=a.t; rw [part_to hr.2] at this; rw [← this,idx_ix h1.2.2]
 ·rintro ⟨hr,a⟩;exact ⟨by simp only [part,List.length_map]; exact hr,by rw [part_frm hr.2,a.s,indexOf_ix s.nd hx],by rw [part_to hr.2,a.t,indexOf_ix s.nd hy]⟩
theorem ar_part (s : Sel c L) {f x y : Int} (a : c.Ar f x y) (hx : x∈L) (hy : y∈L) : f∈fullA c L∧(part c L).Ar (indexOf (fullA c L) f) (indexOf L x) (indexOf L y):=by
 have hf : f∈fullA c L:=mem_fullA.mpr ⟨a.r,by rw [a.s]; exact hx,by rw [a.t]; exact hy⟩
 have h1:=indexOf_in hf
 have h2:=indexOf_in hx
 have h3:=indexOf_in hy;exact ⟨hf,(part_ar s ⟨h2.1,h2.2.1⟩ ⟨h3.1,h3.2.1⟩).mpr ⟨⟨h1.1,h1.2.1⟩,by rw [h1.2.2,h2.2.2,h3.2.2]; exact a⟩⟩
theorem part_comp (s : Sel c L) (h : c.Is) {i j x y z : Int} (hx : 0≤x∧x.toNat<L.length) (hy : 0≤y∧y.toNat<L.length) (hz : 0≤z∧z.toNat<L.length) (a : (part c L).Ar i x y) (b : (part c L).Ar j y z) :
  (part c L).Ar ((part c L).th i j) x z∧ix (fullA c L) ((part c L).th i j)=c.th (ix (fullA c L) i) (ix (fullA c L) j):=by
 obtain ⟨r1,a1⟩:=(part_ar s hx hy).mp a
 obtain ⟨r2,b1⟩:=(part_ar s hy hz).mp b
 have h1:=a1.comp h b1
 have h2:=ar_part s h1 (ix_mem hx.2) (ix_mem hz.2);rw [part_th r1.2 r2.2];rw [indexOf_ix s.nd hx,indexOf_ix s.nd hz] at h2;exact ⟨h2.2,idx_ix h2.1⟩
theorem part_is (s : Sel c L) (h : c.Is) : (part c L).Is:=by
 have hob:=h.1.o
 have hln:=s.len h
 have hal:=fullA_len (c:=c) (L:=L)
 have hm:=h.1.m
 have hfl : (part c L).frm.length=(fullA c L).length:=by simp [part]
 have hidm : ∀ x,x∈L→ix c.idn x∈fullA c L:=fun x hx=>(ar_part s (h.idA (s.ran x hx)) hx hx).1
 have hob2 : ∀ x : Int,x∈L→0≤indexOf L x∧(indexOf L x).toNat<L.length:=fun x hx=>⟨(indexOf_in hx).1,(indexOf_in hx).2.1⟩
 have hAr : ∀ i : Int,0≤i∧i.toNat<(fullA c L).length→(0≤ix (part c L).frm i∧(ix (part c L).frm i).toNat<L.length)∧0≤ix (part c L).to i∧(ix (part c L).to i).toNat<L.length:=fun i hi=>by
  rw [part_frm hi.2,part_to hi.2];exact ⟨hob2 _ (fullA_at hi.2).2.1,hob2 _ (fullA_at hi.2).2.2⟩
 have hA : ∀ i : Int,0≤i∧i.toNat<(fullA c L).length→(part c L).Ar i (ix (part c L).frm i) (ix (part c L).to i):=fun i hi=>⟨by rw [hfl]; exact hi,rfl,rfl⟩
 have hId : ∀ x : Int,0≤x∧x.toNat<L.length→(part c L).Ar (ix (part c L).idn x) x x∧ix (fullA c L) (ix (part c L).idn x)=ix c.idn (ix L x):=fun x hx=>by
  have hxm:=ix_mem hx.2
  have h1:=ar_part s (h.idA (s.ran _ hxm)) hxm hxm;rw [indexOf_ix s.nd hx] at h1;rw [part_idn hx.2];exact ⟨h1.2,idx_ix h1.1⟩
 have gf : ∀ f : Nat,(part c L).frm.getD f default=ix (part c L).frm (f : Int):=fun f=>(ix_nat _ _).symm
 have gt : ∀ f : Nat,(part c L).to.getD f default=ix (part c L).to (f : Int):=fun f=>(ix_nat _ _).symm
 have gc : ∀ f : Nat,(part c L).comp.getD f default=ix (part c L).comp (f : Int):=fun f=>(ix_nat _ _).symm
 have gg : ∀ (l : List Int) (g : Nat),l.getD g default=ix l (g : Int):=fun l g=>(ix_nat _ _).symm;refine ⟨⟨⟨by simp [part],by simp [part]; omega⟩,by omega,fun y hy=>?_,by simp [part],fun y hy=>?_,by simp [part],by simp [part],fun y hy=>?_,fun x hx=>?_,fun f hf=>?_,fun f g hf hg e=>?_,fun f g hf hg e=>?_⟩,fun f hf=>?_,fun f g k hf hg hk e1 e2=>?_⟩
 ·obtain ⟨i,hi,rfl⟩:=mem_getD.mp hy
  have:=(hAr i (by omega)).1;rw [gf]; simp only [part] at this ⊢; omega
 ·obtain ⟨i,hi,rfl⟩:=mem_getD.mp hy
  have:=(hAr i (by simp [part] at hi; omega)).2;rw [gt]; simp only [part] at this ⊢; omega
 ·obtain ⟨i,hi,rfl⟩:=mem_getD.mp hy
  have:=(hId i (by simp [part] at hi; omega)).1.r;rw [gg]; omega
 ·have:=(hId x (by simp [part] at hx; omega)).1;rw [gg]; exact ⟨this.s,this.t⟩
 ·rw [gc]; simp only [part]; rw [ix_map _ (by omega)]; simp
 ·rw [gc,gg]
  have h1:=fullA_at (c:=c) (L:=L) (i:=(f : Int)) (by omega)
  have h2:=fullA_at (c:=c) (L:=L) (i:=(g : Int)) (by omega)
  have h3 : ix c.to (ix (fullA c L) (f : Int))≠ix c.frm (ix (fullA c L) (g : Int)):=fun q=>e (by rw [gt,gf,part_to (by omega),part_frm (by omega),q])
  have h4 : c.th (ix (fullA c L) (f : Int)) (ix (fullA c L) (g : Int))=-1:=h.1.non _ _ h1.1.r.2 h2.1.r.2 h3
  have h5:=part_th (c:=c) (L:=L) (i:=(f : Int)) (j:=(g : Int)) (by omega) (by omega);rw [h4,indexOf_neg (fun hm=>by have:=(mem_fullA.mp hm).1; omega)] at h5;exact h5
 ·rw [gt,gf] at e;rw [gc,gg,gf,gt]
  have a:=hA f (by omega)
  have b:=hA g (by omega);rw [← e] at b
  have:=(part_comp s h (hAr f (by omega)).1 (hAr f (by omega)).2 (hAr g (by omega)).2 a b).1;exact ⟨⟨this.r.1,by have:=this.r; simp only [Cat.th] at this; omega⟩,this.s,this.t⟩
 ·rw [gf,gt,gc]
  have a:=hA f (by omega)
  have hr:=hAr f (by omega)
  have i1:=hId _ hr.1
  have i2:=hId _ hr.2
  have a1:=((part_ar s hr.1 hr.2).mp a).2
  have c1:=(part_comp s h hr.1 hr.1 hr.2 i1.1 a)
  have c2:=(part_comp s h hr.1 hr.2 hr.2 a i2.1)
  have q : ∀ i j : Int,(0≤i∧i.toNat<(fullA c L).length)→(0≤j∧j.toNat<(fullA c L).length)→ix (fullA c L) i=ix (fullA c L) j→i=j:=fun i j hi hj e=>by rw [← indexOf_ix fullA_nodup hi,← indexOf_ix fullA_nodup hj,e]
  refine ⟨q _ _ ((part_ar s hr.1 hr.2).mp c1.1).1 (by omega) ?_,q _ _ ((part_ar s hr.1 hr.2).mp c2.1).1 (by omega) ?_⟩
  ·have:=c1.2; rw [i1.2,a1.idl h] at this; exact this
  ·have:=c2.2; rw [i2.2,a1.idr h] at this; exact this
 ·rw [gt,gf] at e1 e2;rw [gc,gc,gg,gg]
  have a:=hA f (by omega)
  have b:=hA g (by omega)
  have d:=hA k (by omega)
  have r1:=hAr f (by omega)
  have r2:=hAr g (by omega)
  have r3:=hAr k (by omega);rw [← e1] at b;rw [← e2] at d
  have a1:=((part_ar s r1.1 r1.2).mp a).2
  have b1:=((part_ar s r1.2 r2.2).mp b).2
  have d1:=((part_ar s r2.2 r3.2).mp d).2
  have fg:=part_comp s h r1.1 r1.2 r2.2 a b
  have gk:=part_comp s h r1.2 r2.2 r3.2 b d
  have l1:=part_comp s h r1.1 r2.2 r3.2 fg.1 d
  have l2:=part_comp s h r1.1 r1.2 r3.2 a gk.1
  have q : ∀ i j : Int,(0≤i∧i.toNat<(fullA c L).length)→(0≤j∧j.toNat<(fullA c L).length)→ix (fullA c L) i=ix (fullA c L) j→i=j:=fun i j hi hj e=>by rw [← indexOf_ix fullA_nodup hi,← indexOf_ix fullA_nodup hj,e]
  refine q _ _ ((part_ar s r1.1 r3.2).mp l1.1).1 ((part_ar s r1.1 r3.2).mp l2.1).1 ?_
  have e3:=l1.2
  have e4:=l2.2;rw [fg.2,a1.assoc h b1 d1] at e3;rw [gk.2] at e4;exact e3.trans e4.symm
end
end Go.Shf
