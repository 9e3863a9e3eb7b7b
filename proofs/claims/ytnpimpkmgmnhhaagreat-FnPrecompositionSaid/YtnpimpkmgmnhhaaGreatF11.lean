/- A part of a proof. -/
import Derived.Test.YtnpimpkmgmnhhaaGreatF10
set_option linter.unusedVariables false
set_option linter.unusedSimpArgs false
set_option linter.unusedSectionVars false
set_option maxRecDepth 100000
open Nat (reduceEqDiff reduceAdd reduceMul reduceLeDiff reduceLT)
namespace Go.Proofs.Shf
open Go.AW Go.Proofs Go.Shf
end Go.Proofs.Shf
namespace Go.Shf
open Go.AW
section
variable {p : PF} {a b x y : Int}
theorem Cat.Shape.toI {c : Cat} (h : c.Shape) (ha : c.ArR a) : 0≤a∧a.toNat<c.to.length:=by
 have:=h.tol
 obtain ⟨h1,h2⟩:=ha;omega
theorem Cat.Shape.idI {c : Cat} (h : c.Shape) (hx : c.ObR x) : 0≤x∧x.toNat<c.idn.length:=by
 have:=h.il
 obtain ⟨h1,h2⟩:=hx;omega
theorem Cat.Shape.frO {c : Cat} (h : c.Shape) (ha : c.ArR a) : c.ObR (ix c.frm a):=h.frmObj ha.2
theorem Cat.Shape.toO {c : Cat} (h : c.Shape) (ha : c.ArR a) : c.ObR (ix c.to a):=h.toObj ha.2
end
end Go.Shf
namespace Go.Proofs.Shf
open Go.AW Go.Proofs Go.Shf
end Go.Proofs.Shf
namespace Go.Shf
open Go.AW
section
variable {c : Cat} {a b : Int}
theorem Cat.Shape.comps (h : c.Shape) (ha : c.ArR a) (hb : c.ArR b) : (ix c.to a=ix c.frm b∧c.ArR (ix (ix c.comp a) b))∨ix (ix c.comp a) b=-1:=by
 by_cases e : ix c.to a=ix c.frm b
 ·left
  have q:=h.yes a.toNat b.toNat ha.2 hb.2 e
  have q : (0≤ix (ix c.comp a) b∧ix (ix c.comp a) b<c.frm.length)∧_:=q;exact ⟨e,q.1.1,by have:=q.1; omega⟩
 ·right
  exact h.non a.toNat b.toNat ha.2 hb.2 e
theorem Cat.Shape.coI (h : c.Shape) (ha : c.ArR a) : 0≤a∧a.toNat<c.comp.length:=by
 have:=h.cl
 obtain ⟨h1,h2⟩:=ha;omega
theorem Cat.Shape.coJ (h : c.Shape) (ha : c.ArR a) : (ix c.comp a).length=c.frm.length:=h.row a.toNat ha.2
theorem Cat.Shape.idA (h : c.Shape) {x : Int} (hx : c.ObR x) : c.ArR (ix c.idn x)∧ix c.frm (ix c.idn x)=x∧ix c.to (ix c.idn x)=x:=h.idArr hx
end
end Go.Shf
namespace Go.Proofs.Shf
open Go.AW Go.Proofs Go.Shf
def ForceK (c d : Cat) (ob : List Int) (H0 : Heap) (id : Nat) (l : Ob) : Kont:=fun r H'=>∃ (b : Bool) (ar : List Int),r=.bool b∧TyA c d ob ar∧Owns H0 H' ((id,.cells 1 (ar.map iI) 0)::l)
theorem l06Force_ok (B : Nat) {c d : Cat} (hc : c.Shape) (hd : d.Shape) {ob ar : List Int} (t : TyA c d ob ar) (id : Nat) (l : Ob) (H0 H : Heap) (o : Owns H0 H ((id,.cells 1 (ar.map iI) 0)::l)) :
  CallH Tryz.prog B 246 [.agg c.cells,.agg d.cells,.buf id c.frm.length] H (ForceK c d ob H0 id l):=by
 refine c246 (by simp) fun _=>?_
 have sm:=hc.m;unfold s246;refine tt ?_
 refine awp_while [2,3,4] (G:=Bool × List Int) (fun g=>[(7,some (.bool g.1))]) (fun m g H=>(m=ngs g.2+(if g.1=true then 1 else 0)∧TyA c d ob g.2)∧Owns H0 H ((id,.cells 1 (g.2.map iI) 0)::l))
  (ngs ar+1) (true,ar) ⟨⟨by simp,t⟩,o⟩ rfl ?_
 clear o t ar
 rintro m ⟨more,ar⟩ H ⟨⟨hm,t⟩,o⟩;dsimp only at hm t o
 cases more
 ·refine tt ?_;exact ⟨H,.refl _,true,ar,rfl,t,o⟩
 rw [if_pos rfl] at hm;refine tt ?_
 obtain ⟨n0,hn0⟩ : ∃ n0,ngs ar=n0:=⟨_,rfl⟩;rw [hn0] at hm
 refine awp_for [2,3,4] (G:=Bool × List Int) (fun a g=>[(7,some (.bool g.1)),(8,some (.int .i64 (a : Int)))])
  (fun a g H=>(ngs g.2+(if g.1=true then 1 else 0)≤n0∧TyA c d ob g.2)∧Owns H0 H ((id,.cells 1 (g.2.map iI) 0)::l)) c.frm.length (false,ar) ⟨⟨by simp [hn0],t⟩,o⟩ rfl ?_
 clear o t hn0 ar
 rintro a ⟨more,ar⟩ H ha ⟨⟨hm1,t⟩,o⟩;dsimp only at hm1 t o;refine tt ?_;apply bk <;> intro h1
 rotate_left
 ·refine tt ?_;exact while_next (ngs ar+(if more=true then 1 else 0)) (more,ar) (by omega) ⟨⟨rfl,t⟩,o⟩ rfl
 have h1p:=of_decide h1
 have w1:=wsucc (k:=a) (by omega)
 have hao : c.ArR a:=⟨by omega,h1p⟩
 have ci:=(hc.coI hao).2
 have cj : (c.comp.getD a default).length=c.frm.length:=hc.coJ hao;refine tt ?_
 refine awp_for [2,3,4,8] (G:=Bool × List Int) (fun b g=>[(7,some (.bool g.1)),(9,some (.int .i64 (b : Int)))])
  (fun b g H=>(ngs g.2+(if g.1=true then 1 else 0)≤n0∧TyA c d ob g.2)∧Owns H0 H ((id,.cells 1 (g.2.map iI) 0)::l)) c.frm.length (more,ar) ⟨⟨hm1,t⟩,o⟩ rfl ?_
 clear o t hm1
 rintro b ⟨more,ar⟩ H hb ⟨⟨hm1,t⟩,o⟩;dsimp only at hm1 t o
 have hl:=t.len;refine tt ?_;apply bk <;> intro h2
 rotate_left
 ·refine tw w1 ?_;exact for_next (more,ar) h1p ⟨⟨hm1,t⟩,o⟩ rfl
 have h2p:=of_decide h2
 have w2:=wsucc (k:=b) (by omega)
 have hbo : c.ArR b:=⟨by omega,h2p⟩
 have cj2 : b<(c.comp.getD a default).length:=by rw [cj]; exact h2p
 refine tt ?_;refine ⟨ci,cj2, ?_⟩
 rcases hc.comps hao hbo with ⟨hab,hho⟩ | hneg
 rotate_left
 ·have hlt : (c.comp.getD a default).getD b default<0:=by
   have e : (c.comp.getD a default).getD b default=-1:=hneg;omega
  rw [decide_eq_true hlt];refine tw w2 ?_;exact for_next (more,ar) h2p ⟨⟨hm1,t⟩,o⟩ rfl
 obtain ⟨h,hh⟩ : ∃ h : Int,(c.comp.getD a default).getD b default=h:=⟨_,rfl⟩
 have hho : c.ArR ((c.comp.getD a default).getD b default):=hho
 have hix : ix (ix c.comp a) b=h:=hh;rw [hh] at hho ⊢;rw [decide_eq_false (show ¬ h<0 by have:=hho.1; omega)];refine tt ?_;refine ⟨h1p,rd_own o (by omega) ?_⟩;refine tt ?_
 by_cases na : ar.getD a default<0
 ·rw [decide_eq_true na];refine tw w2 ?_;exact for_next (more,ar) h2p ⟨⟨hm1,t⟩,o⟩ rfl
 rw [decide_eq_false na];refine tt ?_;refine ⟨h2p,rd_own o (by omega) ?_⟩;refine tt ?_
 by_cases nb : ar.getD b default<0
 ·rw [decide_eq_true nb];refine tw w2 ?_;exact for_next (more,ar) h2p ⟨⟨hm1,t⟩,o⟩ rfl
 rw [decide_eq_false nb]
 have ta : TyE c d ob a (ar.getD a default):=(t.ty a hao).resolve_left na
 have tb : TyE c d ob b (ar.getD b default):=(t.ty b hbo).resolve_left nb
 have ti:=ta.comp hc hd hao hbo hab tb;rw [hix] at ti
 have di:=hd.coI ta.1
 have dj : (ix d.comp (ar.getD a default)).length=d.frm.length:=hd.coJ ta.1
 have dj2 : (ar.getD b default).toNat<(ix d.comp (ar.getD a default)).length:=by rw [dj]; exact tb.1.2
 have tb0:=tb.1.1;refine tt ?_;refine ⟨h1p,rd_own o (by omega) ?_⟩;refine tt ?_;refine ⟨di, ?_⟩;refine ⟨h2p,rd_own o (by omega) ?_⟩;refine tt ?_;refine ⟨⟨tb0,dj2⟩, ?_⟩
 obtain ⟨v,hv⟩ : ∃ v : Int,ix (ix d.comp (ar.getD a default)) (ar.getD b default)=v:=⟨_,rfl⟩;rw [hv] at ti ⊢
 have hh0:=hho.1
 have hh1 : h.toNat<ar.length:=by rw [hl]; exact hho.2
 have hh2 : h.toNat<c.frm.length:=hho.2
 have v0:=ti.1.1;refine tt ?_;refine ⟨⟨hh0,hh2⟩,rd_own o hh1 ?_⟩;refine tt ?_
 by_cases g : 0≤ar.getD h.toNat default
 ·rw [decide_eq_true g];refine tt ?_;refine ⟨⟨hh0,hh2⟩,rd_own o hh1 ?_⟩;refine tt ?_;apply bk <;> intro h3
  ·refine tt ?_;exact ⟨H,.refl _,false,ar,rfl,t,o⟩
  have h3p : ar.getD h.toNat default=v:=by simpa using h3
  have hs : ar.set h.toNat v=ar:=by
   rw [← h3p];refine List.ext_getElem (by simp) fun i q1 q2=>?_
   by_cases e : h.toNat=i
   ·subst e; simp [List.getD_eq_getElem?_getD,q2]
   ·simp [List.getElem_set,e]
  cases more
  ·refine tt ?_;refine ⟨⟨hh0,hh2⟩,rd_own o hh1 ?_⟩;refine tt ?_;rw [decide_eq_false (show ¬ ar.getD h.toNat default<0 by omega)];refine tt ?_;refine ⟨⟨hh0,hh2⟩,set_own v o rfl hh1 fun H o=>?_⟩;rw [hs] at o;refine tw w2 ?_;exact for_next (false,ar) h2p ⟨⟨hm1,t⟩,o⟩ rfl
  ·refine tt ?_;refine ⟨⟨hh0,hh2⟩,set_own v o rfl hh1 fun H o=>?_⟩;rw [hs] at o;refine tw w2 ?_;exact for_next (true,ar) h2p ⟨⟨hm1,t⟩,o⟩ rfl
 ·rw [decide_eq_false g]
  have hn:=ngs_set (v:=v) hh1 (by omega) v0
  have t2:=t.set hho ti
  cases more
  ·rw [if_neg (by simp)] at hm1;refine tt ?_;refine ⟨⟨hh0,hh2⟩,rd_own o hh1 ?_⟩;refine tt ?_;rw [decide_eq_true (show ar.getD h.toNat default<0 by omega)];refine tt ?_;refine ⟨⟨hh0,hh2⟩,set_own v o rfl hh1 fun H o=>?_⟩;refine tw w2 ?_;exact for_next (true,ar.set h.toNat v) h2p ⟨⟨by simp only [if_true]; omega,t2⟩,o⟩ rfl
  ·rw [if_pos rfl] at hm1;refine tt ?_;refine ⟨⟨hh0,hh2⟩,set_own v o rfl hh1 fun H o=>?_⟩;refine tw w2 ?_;exact for_next (true,ar.set h.toNat v) h2p ⟨⟨by simp only [if_true]; omega,t2⟩,o⟩ rfl
@[go_sem] def z13 : List AV:=[iI 0,.nilsl,.nilsl,.nilsl,.nilsl,iI 0,.nilsl,.nilsl,.nilsl,.nilsl,.nilsl,.nilsl,.nilsl]
@[go_sem] def pfC (c d : Cat) (X Y Z : AV) : List AV:=[iI c.objs,iL c.frm,iL c.to,iL c.idn,iLL c.comp,iI d.objs,iL d.frm,iL d.to,iL d.idn,iLL d.comp,X,Y,Z]
end Go.Proofs.Shf
namespace Go.AW
theorem cut_mp {P : Program} {B : Nat} {l : List Nat} {a b : SC} {Q : AQ} {σ : Env} {H : Heap} (M : Env→Heap→Prop) (h1 : awp P B a (ctQ l M Q) σ H) (h2 : ∀ σ' H',M σ' H'→awp P B b Q σ' H') : awp P B (.cut l a b) Q σ H:=⟨M,h1,h2⟩
theorem keep_get (σ : Env) : ∀ (l : List Nat) (s : Nat) (x : AV),(Env.keep l σ).get s=some x→σ.get s=some x
 | [],s,x,h=>by simp [Env.keep,Env.get] at h
 | t::r,s,x,h=>by
  rw [keep_cons] at h;simp only [Env.get] at h
  split at h
  ·rename_i e; subst e; exact h
  ·exact keep_get σ r s x h
theorem wk_keep (l : List Nat) {F : Env→Heap→Prop} {σ : Env} {H : Heap} (hk : F (Env.keep l σ) H) : wkW F σ H :=
 ⟨_,H,fun g B w tm a b=>⟨g,.refl g,a,fun s x e=>b s x (keep_get σ l s x e)⟩,hk⟩
end Go.AW
namespace Go.Proofs.Shf
open Go.AW Go.Proofs Go.Shf
def ArrK (H0 : Heap) (l : Ob) : Kont:=fun r H'=>∃ (id : Nat) (out : List (List Int)),r=.buf id out.length∧out.length≤201∧Owns H0 H' ((id,.cells 1 (out.map iL) 0)::l)
theorem l06Arrows_ok (B : Nat) {c d : Cat} (hc : c.Shape) (hd : d.Shape) {ob : List Int} (hob : TyO c d ob) (l : Ob) (H0 : Heap) : ∀ (n f : Nat) (ar : List Int) (id idF : Nat) (out : List (List Int)) (H : Heap),c.frm.length - f=n→f≤c.frm.length →
  TyA c d ob ar→out.length≤200→Owns H0 H ((id,.cells 1 (ar.map iI) 0)::(idF,.cells 1 (out.map iL) 0)::l) →
  CallH Tryz.prog B 219 [.agg c.cells,.agg d.cells,iL ob,.buf id c.frm.length,iI f,.buf idF out.length] H (ArrK H0 l):=by
 intro n
 induction n using Nat.strongRecOn with
 | _ n ih =>
 intro f ar id idF out H hn hf t hout o;refine c219p (by simp) fun _=>?_
 have sm:=hc.m
 have hl:=t.len
 have tl:=hc.tol;unfold s219p;refine tt ?_;refine fz_own (f:=iI) o hl.symm fun H o=>tt ?_;refine cut_mp (fun σ H=>∃ g : Nat,f≤g∧g≤c.frm.length∧(g<c.frm.length→ar.getD g default<0)∧σ=[(2,some (iL ob)),(3,some (iL ar)),(4,some (iI g)),(5,some (.buf idF out.length)),(6,some (.ptr c.cells)),(7,some (.ptr d.cells))]∧Owns H0 H ((idF,.cells 1 (out.map iL) 0)::l)) ?_ ?_
 ·refine tt ?_;refine awp_for [2,3,5,6,7] (G:=Unit) (fun k _=>[(4,some (.int .i64 ((f+k : Nat) : Int)))]) (fun k _ H'=>H'=H) (c.frm.length - f) () rfl rfl ?_
  rintro k _ H' hk rfl;refine tt ?_
  by_cases h1 : f+k<ar.length
  ·have h1p:=h1;rw [decide_eq_true h1]
   have w:=wsucc (k:=f+k) (by omega);refine tt ?_;refine ⟨h1p, ?_⟩
   by_cases h2 : 0≤ar.getD (f+k) default
   ·rw [decide_eq_true h2];refine tw w ?_;exact for_next () (by omega) rfl rfl
   ·rw [decide_eq_false h2];refine tt ?_;exact wkW_done ⟨f+k,by omega,by omega,fun _=>by omega,rfl,o⟩
  ·rw [decide_eq_false h1];refine tt ?_;exact wkW_done ⟨f+k,by omega,by omega,fun h=>by omega,rfl,o⟩
 clear o
 rintro σ H ⟨g,hfg,hg,hneg,rfl,o⟩;refine tt ?_;apply bk <;> intro h1
 ·have h1p:=of_decide h1;refine tt ?_;refine (l01Own_ok B ar).go fun _=>tt ?_;refine app_own (f:=iL) ar o rfl rfl (by simp only [maxL]; omega) fun idF H o=>tt ?_;exact ⟨H,.refl _,idF,_,rfl,by simp; omega,o⟩
 have h1p : g<c.frm.length:=by have:=of_ndecide h1; omega
 have hgo : c.ArR g:=⟨by omega,h1p⟩
 have w:=wsucc (k:=g) (by omega)
 have tI:=hc.toI hgo
 have f1:=hob.ob _ (hc.frO hgo)
 have t1:=hob.ob _ (hc.toO hgo)
 have fo:=hc.frO hgo
 have to:=hc.toO hgo
 have ol:=hob.len
 have i1 : 0≤ix c.frm g∧(ix c.frm g).toNat<ob.length:=⟨fo.1,by have:=fo.1; have:=fo.2; omega⟩
 have i2 : 0≤ix c.to g∧(ix c.to g).toNat<ob.length:=⟨to.1,by have:=to.1; have:=to.2; omega⟩;refine tt ?_
 (repeat (refine ⟨by first | exact h1p | exact i1 | exact i2 | exact tI.2, ?_⟩))
 refine ⟨_,(l02Hom_ok B d hd _ _).run, ?_⟩
 obtain ⟨hm,hhm⟩ : ∃ L,homC d (ix ob (c.frm.getD g default)) (ix ob (c.to.getD g default))=L:=⟨_,rfl⟩;rw [hhm]
 have hmt : ∀ v,v∈hm→TyE c d ob g v:=fun v hv=>TyE.hom (by rw [← hhm] at hv; exact hv)
 have hml : hm.length≤40:=by
  have h5:=hd.m
  have h6 : (homK d (ix ob (c.frm.getD g default)) (ix ob (c.to.getD g default)) d.frm.length).length≤d.frm.length:=homK_len _ _ _;rw [homK_full,hhm] at h6; omega
 refine tt ?_;refine awp_for [2,3,4,6,7,13] (G:=Nat × List (List Int)) (fun i g=>[(5,some (.buf g.1 g.2.length)),(14,some (.int .i64 (i : Int)))]) (fun i g H=>g.2.length≤201∧Owns H0 H ((g.1,.cells 1 (g.2.map iL) 0)::l)) hm.length (idF,out) ⟨by simp only; omega,o⟩ rfl ?_;clear o hout
 rintro i ⟨idF,out⟩ H hi ⟨hout,o⟩;dsimp only at hout o;refine tt ?_
 by_cases h2 : i<hm.length
 rotate_left
 ·rw [decide_eq_false h2];refine tt ?_;exact ⟨H,.refl _,idF,out,rfl,hout,o⟩
 have h2p : i<hm.length:=by omega
 have w2:=wsucc (k:=i) (by omega);rw [decide_eq_true h2];refine tt ?_
 by_cases h3 : (out.length : Int)≤200
 rotate_left
 ·rw [decide_eq_false h3];refine tt ?_;exact ⟨H,.refl _,idF,out,rfl,hout,o⟩
 rw [decide_eq_true h3];refine tt ?_;refine (l01Own_own B ar H0 H _ o).own fun idn A H o e=>?_;rw [e] at o ⊢
 have tv:=hmt _ (mem_getD.mpr ⟨i,h2p,rfl⟩)
 have ts:=t.set hgo tv;refine tw hl ?_;refine ⟨h2p, ?_⟩;refine ⟨h1p,set_own (hm.getD i default) o rfl (by omega) fun H o=>?_⟩;refine tt ?_;refine (l06Force_ok B hc hd ts idn _ H0 H o).mono ?_
 rintro r H ⟨b,ar2,rfl,t2,o⟩
 cases b
 ·refine tw w2 ?_;exact for_next (idF,out) h2p ⟨hout,o.tl⟩ rfl
 ·refine tw w ?_;refine (ih (c.frm.length - (g+1)) (by omega) (g+1) ar2 idn idF out H rfl (by omega) t2 (by omega) o).mono ?_
  rintro r H ⟨idF2,out2,rfl,ho2,o⟩;refine tw w2 ?_;exact for_next (idF2,out2) h2p ⟨ho2,o⟩ rfl
end Go.Proofs.Shf
namespace Go.Shf
open Go.AW
abbrev FB:=(Nat × List Int) × (Nat × List Int)
@[go_sem] def fuB (c d : Cat) (m : FB) : AV:=.agg [iI c.objs,iL c.frm,iL c.to,iL c.idn,iLL c.comp,iI d.objs,iL d.frm,iL d.to,iL d.idn,iLL d.comp,.buf m.1.1 m.1.2.length,.buf m.2.1 m.2.2.length]
instance (c d : Cat) : AggN 12 (fuB c d):=⟨by omega,fun _=>rfl,fun _=>rfl,fun a k hk=>by
 simp only [fuB,AV.cells,List.mem_cons,List.not_mem_nil,or_false] at hk
 rcases hk with rfl | rfl | rfl | rfl | rfl | rfl | rfl | rfl | rfl | rfl | rfl | rfl <;> rfl⟩
def inB (ms : List FB) : List (Nat × MObj):=ms.flatMap fun m=>[(m.1.1,.cells 1 (m.1.2.map iI) 0),(m.2.1,.cells 1 (m.2.2.map iI) 0)]
theorem inB_app (ms : List FB) (m : FB) : inB (ms++[m])=inB ms++[(m.1.1,.cells 1 (m.1.2.map iI) 0),(m.2.1,.cells 1 (m.2.2.map iI) 0)]:=by simp [inB]
end Go.Shf
namespace Go.Proofs.Shf
open Go.AW Go.Proofs Go.Shf
theorem l01OwnN (B : Nat) (l : List Int) : New Tryz.prog B 118 [iL l] fun p X=>∃ id,X=.buf id l.length∧p=[(id,.cells 1 (l.map iI) 0)] :=
 ⟨fun H=>(l01Own_own B l H H [] (.nil H)).mono fun r H' ⟨id,A,e,o,q⟩=>by
  subst e q;exact ⟨_,⟨id,rfl,rfl⟩,o⟩⟩
theorem l06MakeN (B : Nat) (c d : Cat) (ob ar : List Int) : New Tryz.prog B 81 [.agg c.cells,.agg d.cells,iL ob,iL ar] fun p X=>∃ i j,X=fuB c d ((i,ob),(j,ar))∧p=[(i,.cells 1 (ob.map iI) 0),(j,.cells 1 (ar.map iI) 0)]:=by
 refine ⟨fun H0=>c81p (by simp) fun _=>?_⟩;unfold s81p
 have o : Owns H0 H0 []:=.nil _;refine tt ?_;refine nb o fun id8 H o=>tt ?_;refine ⟨_,(l02Own_ok B c).run,_,(l02Own_ok B d).run,tt ?_⟩;refine ((l01OwnN B ob).run H).mono ?_
 rintro r H ⟨p,⟨i,rfl,rfl⟩,o2⟩;refine ⟨o2.sub, ?_⟩
 have o:=o.trans o2;refine tt ?_;refine ((l01OwnN B ar).run H).mono ?_
 rintro r H ⟨p,⟨j,rfl,rfl⟩,o2⟩;refine ⟨o2.sub, ?_⟩
 have o:=o.trans o2;refine tt ?_
 have o : Owns H0 H ((id8,.cells 12 [.int .i64 0,.nilsl,.nilsl,.nilsl,.nilsl,.int .i64 0,.nilsl,.nilsl,.nilsl,.nilsl,.nilsl,.nilsl] 0)::[(i,.cells 1 (ob.map iI) 0),(j,.cells 1 (ar.map iI) 0)]):=o.pm;refine sw o fun H o=>tt ?_;rw [o.rc 12 0 (by simp)];refine tt ?_;exact ⟨H,.refl H,_,⟨i,j,rfl,rfl⟩,o.tl⟩
def ShO (ms : List FB) : Prop:=∀ m,m∈ms→m.1.2.length≤8
def SrK (c d : Cat) (H0 : Heap) (l : Ob) : Kont:=fun r H'=>∃ (idF : Nat) (ms : List FB),r=.buf idF ms.length∧(ms.length≤201∧ShO ms)∧Owns H0 H' ((idF,.cells 12 (flat (ms.map (fuB c d))) 0)::(inB ms++l))
theorem repl_succ1 (n : Nat) : List.replicate n (-1 : Int)++[-1]=List.replicate (n+1) (-1):=by rw [List.replicate_succ']
theorem l06Search_ok (B : Nat) {c d : Cat} (hc : c.Shape) (hd : d.Shape) (l : Ob) (H0 : Heap) : ∀ (n : Nat) (ob : List Int) (idB idF : Nat) (ms : List FB) (H : Heap),c.objs.toNat - ob.length=n→ob.length≤c.objs.toNat →
  (∀ x : Nat,x<ob.length→d.ObR (ob.getD x default))→ms.length≤200→ShO ms→Owns H0 H ((idB,.cells 1 (ob.map iI) 0)::(idF,.cells 12 (flat (ms.map (fuB c d))) 0)::(inB ms++l)) →
  CallH Tryz.prog B 169 [.agg c.cells,.agg d.cells,.buf idB ob.length,.buf idF ms.length] H (SrK c d H0 l):=by
 intro n
 induction n using Nat.strongRecOn with
 | _ n ih =>
 intro ob idB idF ms H hn hol hob hms hsh o;refine c169p (by simp) fun _=>?_
 have sm:=hc.m
 have so:=hc.o
 have dO:=hd.o;unfold s169p;refine tt ?_;refine fz_own (f:=iI) o rfl fun H o=>tt ?_;refine (l06Rooms_ok B c d hc hd ob).go fun r _ ⟨b,e⟩=>?_;subst e
 cases b
 ·refine tt ?_;exact ⟨H,.refl _,idF,ms,rfl,⟨by omega,hsh⟩,o⟩
 refine tt ?_
 by_cases hfull : (ob.length : Int)=c.objs
 ·rw [decide_eq_true hfull]
  have tO : TyO c d ob:=⟨hfull,fun x hx=>by have:=hob x.toNat (by have:=hx.1; have:=hx.2; omega); exact this⟩;refine tt ?_;refine newBuf_own o fun id9 H o=>?_
  have o : Owns H0 H ((id9,.cells 1 ((List.replicate 0 (-1 : Int)).map iI) 0)::(idF,.cells 12 (flat (ms.map (fuB c d))) 0)::(inB ms++l)):=o;refine tt ?_;refine awp_for [2,3,4,5] (G:=Nat) (fun k b=>[(9,some (.buf b k)),(10,some (.int .i64 (k : Int)))]) (fun k b H=>Owns H0 H ((b,.cells 1 ((List.replicate k (-1 : Int)).map iI) 0)::(idF,.cells 12 (flat (ms.map (fuB c d))) 0)::(inB ms++l))) c.frm.length id9 o rfl ?_;clear o
  rintro k b H hk o
  replace o : Owns H0 H ((b,.cells 1 ((List.replicate k (-1 : Int)).map iI) 0)::(idF,.cells 12 (flat (ms.map (fuB c d))) 0)::(inB ms++l)):=o;refine tt ?_;apply bk <;> intro h1
  ·have h1p:=of_decide h1
   have w:=wsucc (k:=k) (by omega)
   have hrl : (List.replicate k (-1 : Int)).length=k:=by simp
   refine tt ?_;refine app_own (-1 : Int) o rfl hrl.symm (by rw [hrl]; simp only [maxL]; omega) fun id H o=>?_;rw [repl_succ1] at o
   have hl2 : (List.replicate k (-1 : Int)++[-1]).length=k+1:=by simp
   try simp only [go_sem,↓reduceIte,reduceEqDiff,reduceAdd,reduceMul,reduceLeDiff,reduceLT,w,hl2]
   exact for_next id h1p o rfl
  have h1p:=of_ndecide h1
  obtain rfl : k=c.frm.length:=by omega
  clear h1;refine tt ?_;refine awp_for [2,3,4,5,9] (G:=List Int) (fun x _=>[(11,some (.int .i64 (x : Int)))]) (fun x st H=>TyA c d ob st∧Owns H0 H ((b,.cells 1 (st.map iI) 0)::(idF,.cells 12 (flat (ms.map (fuB c d))) 0)::(inB ms++l))) ob.length (List.replicate c.frm.length (-1)) ⟨.blank,o⟩ rfl ?_;clear o
  rintro x st H hx ⟨ts,o⟩
  replace ts : TyA c d ob st:=ts
  replace o : Owns H0 H ((b,.cells 1 (st.map iI) 0)::(idF,.cells 12 (flat (ms.map (fuB c d))) 0)::(inB ms++l)):=o;refine tt ?_;apply bk <;> intro h1
  ·have h1p:=of_decide h1
   have w:=wsucc (k:=x) (by omega)
   have hxo : c.ObR x:=⟨by omega,by omega⟩
   have hyo:=hob x h1p
   have ii:=(hc.idI hxo).2
   have jj:=hd.idI hyo
   have ia:=(hc.idA hxo).1
   have te : TyE c d ob (ix c.idn x) (ix d.idn (ix ob x)):=TyE.idn hc hd hxo hyo
   have t2:=ts.set ia te
   have ia1 : (c.idn.getD x default).toNat<c.frm.length:=ia.2
   have ia0 : 0≤c.idn.getD x default:=ia.1;refine tt ?_
   (repeat (refine ⟨by first | exact ii | exact h1p | exact jj, ?_⟩))
   refine ⟨⟨ia0,ia1⟩,set_own (ix d.idn (ix ob x)) o rfl (by rw [ts.len]; exact ia1) fun H o=>?_⟩;refine tw w ?_;exact for_next (st.set (ix c.idn x).toNat (ix d.idn (ix ob x))) h1p ⟨t2,o⟩ rfl
  have h1p:=of_ndecide h1;clear h1;refine tt ?_;refine newBuf_own o fun id62 H o=>tt ?_;refine (l06Arrows_ok B hc hd tO ((idF,.cells 12 (flat (ms.map (fuB c d))) 0)::(inB ms++l)) H0 _ 0 st b id62 [] H rfl (by omega) ts (by simp) o.swap).mono ?_;clear o
  rintro r H ⟨idL,out,rfl,hout,o⟩;refine tt ?_;refine fz_own (f:=iL) o rfl fun H o=>tt ?_;refine awp_for [2,4,5,12] (G:=Nat × List FB) (fun i g=>[(3,some (.buf g.1 g.2.length)),(13,some (.int .i64 (i : Int)))]) (fun i g H=>(g.2.length≤201∧ShO g.2)∧Owns H0 H ((g.1,.cells 12 (flat (g.2.map (fuB c d))) 0)::(inB g.2++l))) out.length (idF,ms) ⟨⟨by simp only; omega,hsh⟩,o⟩ rfl ?_;clear o
  rintro i ⟨idF,ms⟩ H hi ⟨⟨hms,hsh⟩,o⟩;dsimp only at hms hsh o;refine tt ?_
  by_cases h2 : i<out.length
  rotate_left
  ·rw [decide_eq_false h2];refine tt ?_;exact ⟨H,.refl _,idF,ms,rfl,⟨hms,hsh⟩,o⟩
  rw [decide_eq_true h2]
  have w2:=wsucc (k:=i) (by omega);refine tt ?_
  by_cases h3 : (ms.length : Int)≤200
  rotate_left
  ·rw [decide_eq_false h3];refine tt ?_;exact ⟨H,.refl _,idF,ms,rfl,⟨hms,hsh⟩,o⟩
  rw [decide_eq_true h3];refine tt ?_;refine ⟨h2, ?_⟩;refine ((l06MakeN B c d ob (out.getD i default)).run H).mono ?_
  rintro r H ⟨p,⟨u,v,rfl,rfl⟩,o2⟩;refine ⟨o2.sub, ?_⟩
  have o:=o.trans o2;refine tt ?_;refine app_ownN (f:=fuB c d) (((u,ob),(v,out.getD i default)) : FB) (show Owns H0 H ((idF,.cells 12 (flat (ms.map (fuB c d))) 0)::([(u,.cells 1 (ob.map iI) 0),(v,.cells 1 ((out.getD i default).map iI) 0)]++(inB ms++l))) from o.pm) rfl rfl (by simp only [maxL]; omega) fun idF H o=>?_
  have o : Owns H0 H ((idF,.cells 12 (flat ((ms++[((u,ob),(v,out.getD i default))]).map (fuB c d))) 0)::(inB (ms++[((u,ob),(v,out.getD i default))])++l)):=by
   rw [inB_app]; exact o.pm
  refine tw w2 ?_
  exact for_next (idF,ms++[((u,ob),(v,out.getD i default))]) h2 ⟨⟨by simp; omega,fun m hm=>by
   rcases List.mem_append.mp hm with h | h
   ·exact hsh m h
   ·obtain rfl:=List.mem_singleton.mp h
    simp only; omega⟩,o⟩ rfl
 rw [decide_eq_false hfull];refine tt ?_;refine awp_for [2,4,5] (G:=Nat × List FB) (fun y g=>[(3,some (.buf g.1 g.2.length)),(14,some (.int .i64 (y : Int)))]) (fun y g H=>(g.2.length≤201∧ShO g.2)∧Owns H0 H ((g.1,.cells 12 (flat (g.2.map (fuB c d))) 0)::(inB g.2++l))) d.objs.toNat (idF,ms) ⟨⟨by simp only; omega,hsh⟩,o⟩ rfl ?_;clear o
 rintro y ⟨idF,ms⟩ H hy ⟨⟨hms,hsh⟩,o⟩;dsimp only at hms hsh o;refine tt ?_
 by_cases h2 : (y : Int)<d.objs
 rotate_left
 ·rw [decide_eq_false h2];refine tt ?_;exact ⟨H,.refl _,idF,ms,rfl,⟨hms,hsh⟩,o⟩
 rw [decide_eq_true h2]
 have w2:=wsucc (k:=y) (by omega);refine tt ?_
 by_cases h3 : (ms.length : Int)≤200
 rotate_left
 ·rw [decide_eq_false h3];refine tt ?_;exact ⟨H,.refl _,idF,ms,rfl,⟨hms,hsh⟩,o⟩
 rw [decide_eq_true h3];refine tt ?_;refine ((l01OwnN B ob).run H).mono ?_
 rintro r H ⟨p,⟨u,rfl,rfl⟩,o2⟩;refine ⟨o2.sub, ?_⟩
 have o:=o.trans o2;refine tt ?_;refine app_own (y : Int) (show Owns H0 H ((u,.cells 1 (ob.map iI) 0)::(idF,.cells 12 (flat (ms.map (fuB c d))) 0)::(inB ms++l)) from o) rfl rfl (by simp only [maxL]; omega) fun u H o=>tt ?_;refine (ih (c.objs.toNat - (ob++[(y : Int)]).length) (by simp; omega) (ob++[(y : Int)]) u idF ms H rfl (by simp; omega) (fun x hx=>?_) (by omega) hsh o).mono ?_
 ·by_cases h : x<ob.length
  ·have:=hob x h
   simpa [List.getD_eq_getElem?_getD,List.getElem?_append_left h] using this
  ·obtain rfl : x=ob.length:=by simp at hx; omega
   have : d.ObR y:=⟨by omega,h2⟩
   simpa [List.getD_eq_getElem?_getD] using this
 clear o
 rintro r H ⟨idF,ms,rfl,hms,o⟩;refine tw w2 ?_;exact for_next (idF,ms) (by omega) ⟨hms,o⟩ rfl
theorem l06All_ok (B : Nat) {c d : Cat} (hc : c.Shape) (hd : d.Shape) (H0 : Heap) : CallH Tryz.prog B 89 [.agg c.cells,.agg d.cells] H0 (SrK c d H0 []):=by
 refine c89p (by simp) fun _=>?_;unfold s89p
 have o : Owns H0 H0 []:=.nil _;refine tt ?_;refine newBuf_own o fun id7 H o=>tt ?_;refine new_listN (fuB c d) o fun id8 H o=>tt ?_;refine (l06Search_ok B hc hd [] H0 _ [] id7 id8 [] H rfl (by simp) (fun x hx=>by simp at hx) (by simp) (fun m hm=>by simp at hm) o.swap).mono ?_
 rintro r H ⟨idF,ms,rfl,hms,o⟩;refine tt ?_;exact ⟨H,.refl _,idF,ms,rfl,hms,o⟩
def FuX (c d : Cat) (X : AV) (p : Ob) : Prop:=∃ m : FB,X=fuB c d m∧p=inB [m]∧m.1.2.length≤8
theorem inB_mem : ∀ {ms : List FB} {m : FB},m∈ms→(inB [m]).Sublist (inB ms)
 | a::r,m,h=>by
  have e : inB (a::r)=inB [a]++inB r:=by simp [inB]
  rw [e]
  rcases List.mem_cons.mp h with rfl | h
  ·exact List.sublist_append_left _ _
  ·exact (inB_mem h).trans (List.sublist_append_right _ _)
theorem l06ConstantN (B : Nat) {c d : Cat} (hc : c.Shape) (hd : d.Shape) {y : Int} (hy : d.ObR y) : New Tryz.prog B 145 [.agg c.cells,.agg d.cells,iI y] fun p X=>FuX c d X p:=by
 refine ⟨fun H0=>c145p (by simp) fun _=>?_⟩
 have so:=hc.o
 have sm:=hc.m
 have jj:=hd.idI hy;unfold s145p
 have o : Owns H0 H0 []:=.nil _;refine tt ?_;refine nb o fun id6 H o=>tt ?_;refine newBuf_own o fun id7 H o=>tt ?_;refine newBuf_own o fun id8 H o=>tt ?_
 refine awp_for [2,3,4,6,8] (G:=Nat × List Int) (fun k g=>[(7,some (.buf g.1 g.2.length)),(9,some (.int .i64 (k : Int)))])
  (fun k g H=>g.2.length=k∧Owns H0 H [(g.1,.cells 1 (g.2.map iI) 0),(id8,.cells 1 (([] : List Int).map iI) 0),(id6,.cells 12 [.int .i64 0,.nilsl,.nilsl,.nilsl,.nilsl,.int .i64 0,.nilsl,.nilsl,.nilsl,.nilsl,.nilsl,.nilsl] 0)]) c.objs.toNat (id7,[]) ⟨rfl,o.swap⟩ rfl ?_
 clear o
 rintro k ⟨id7,out⟩ H hk ⟨hl,o⟩;dsimp only at hl o;refine tt ?_;apply bk <;> intro h1
 ·have h1p:=of_decide h1
  have w:=wsucc (k:=k) (by omega);refine tt ?_;refine app_own y o rfl rfl (by simp only [maxL]; omega) fun id H o=>?_;refine tw w ?_;exact for_next (id,out++[y]) (by omega) ⟨by simp [hl],o⟩ rfl
 have h1p:=of_ndecide h1;clear h1;refine tt ?_
 refine awp_for [2,3,4,6,7] (G:=Nat × List Int) (fun k g=>[(8,some (.buf g.1 g.2.length)),(10,some (.int .i64 (k : Int)))])
  (fun k g H=>g.2.length=k∧Owns H0 H [(g.1,.cells 1 (g.2.map iI) 0),(id7,.cells 1 (out.map iI) 0),(id6,.cells 12 [.int .i64 0,.nilsl,.nilsl,.nilsl,.nilsl,.int .i64 0,.nilsl,.nilsl,.nilsl,.nilsl,.nilsl,.nilsl] 0)]) c.frm.length (id8,[]) ⟨rfl,o.swap⟩ rfl ?_
 clear o
 rintro j ⟨id8,ar⟩ H hj ⟨hl2,o⟩;dsimp only at hl2 o;refine tt ?_;apply bk <;> intro h1
 ·have h1p:=of_decide h1
  have w:=wsucc (k:=j) (by omega);refine tt ?_;refine ⟨jj, ?_⟩;refine app_own (ix d.idn y) o rfl rfl (by simp only [maxL]; omega) fun id H o=>?_;refine tw w ?_;exact for_next (id,ar++[ix d.idn y]) (by omega) ⟨by simp [hl2],o⟩ rfl
 clear h1;refine tt ?_;refine fz_own o rfl fun H o=>tt ?_;refine fz_own o rfl fun H o=>tt ?_;refine ((l06MakeN B c d out ar).run H).mono ?_
 rintro r H ⟨p,⟨u,v,rfl,rfl⟩,o2⟩
 have o:=o.trans o2;refine tt ?_;refine sw (o.pull [_,_]) fun H o=>tt ?_;rw [o.rc 12 0 (by simp)];refine tt ?_;exact ⟨H,.refl H,_,⟨((u,out),(v,ar)),rfl,rfl,by simp only; omega⟩,o.tl⟩
theorem l06SelfN (B : Nat) {c : Cat} (hc : c.Shape) : New Tryz.prog B 90 [.agg c.cells] fun p X=>FuX c c X p:=by
 refine ⟨fun H0=>c90p (by simp) fun _=>?_⟩
 have so:=hc.o
 have sm:=hc.m;unfold s90p
 have o : Owns H0 H0 []:=.nil _;refine tt ?_;refine nb o fun id6 H o=>tt ?_;refine newBuf_own o fun id7 H o=>tt ?_;refine newBuf_own o fun id8 H o=>tt ?_
 refine awp_for [1,2,4] (G:=Nat × List Int) (fun k g=>[(3,some (.buf g.1 g.2.length)),(5,some (.int .i64 (k : Int)))])
  (fun k g H=>g.2.length=k∧Owns H0 H [(g.1,.cells 1 (g.2.map iI) 0),(id8,.cells 1 (([] : List Int).map iI) 0),(id6,.cells 12 [.int .i64 0,.nilsl,.nilsl,.nilsl,.nilsl,.int .i64 0,.nilsl,.nilsl,.nilsl,.nilsl,.nilsl,.nilsl] 0)]) c.objs.toNat (id7,[]) ⟨rfl,o.swap⟩ rfl ?_
 clear o
 rintro k ⟨id7,out⟩ H hk ⟨hl,o⟩;dsimp only at hl o;refine tt ?_;apply bk <;> intro h1
 ·have h1p:=of_decide h1
  have w:=wsucc (k:=k) (by omega);refine tt ?_;refine app_own (k : Int) o rfl rfl (by simp only [maxL]; omega) fun id H o=>?_;refine tw w ?_;exact for_next (id,out++[(k : Int)]) (by omega) ⟨by simp [hl],o⟩ rfl
 have h1p:=of_ndecide h1;clear h1;refine tt ?_
 refine awp_for [1,2,3] (G:=Nat × List Int) (fun k g=>[(4,some (.buf g.1 g.2.length)),(6,some (.int .i64 (k : Int)))])
  (fun k g H=>g.2.length=k∧Owns H0 H [(g.1,.cells 1 (g.2.map iI) 0),(id7,.cells 1 (out.map iI) 0),(id6,.cells 12 [.int .i64 0,.nilsl,.nilsl,.nilsl,.nilsl,.int .i64 0,.nilsl,.nilsl,.nilsl,.nilsl,.nilsl,.nilsl] 0)]) c.frm.length (id8,[]) ⟨rfl,o.swap⟩ rfl ?_
 clear o
 rintro j ⟨id8,ar⟩ H hj ⟨hl2,o⟩;dsimp only at hl2 o;refine tt ?_;apply bk <;> intro h1
 ·have h1p:=of_decide h1
  have w:=wsucc (k:=j) (by omega);refine tt ?_;refine app_own (j : Int) o rfl rfl (by simp only [maxL]; omega) fun id H o=>?_;refine tw w ?_;exact for_next (id,ar++[(j : Int)]) (by omega) ⟨by simp [hl2],o⟩ rfl
 clear h1;refine tt ?_;refine fz_own o rfl fun H o=>tt ?_;refine fz_own o rfl fun H o=>tt ?_;refine ((l06MakeN B c c out ar).run H).mono ?_
 rintro r H ⟨p,⟨u,v,rfl,rfl⟩,o2⟩
 have o:=o.trans o2;refine tt ?_;refine sw (o.pull [_,_]) fun H o=>tt ?_;rw [o.rc 12 0 (by simp)];refine tt ?_;exact ⟨H,.refl H,_,⟨((u,out),(v,ar)),rfl,rfl,by simp only; omega⟩,o.tl⟩
end Go.Proofs.Shf
