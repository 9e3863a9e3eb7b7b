/- A part of a proof. -/
import Derived.Test.YtphikjciekmijaaGreatF7
import Derived.WalkKit
import Derived.Laws.LoneSync
set_option linter.unusedVariables false
set_option linter.unusedSimpArgs false
set_option linter.unusedSectionVars false
set_option maxRecDepth 100000
open Nat (reduceEqDiff reduceAdd reduceMul reduceLeDiff reduceLT)
namespace Go.Proofs.Shf
open Go.AW Go.Proofs Go.Shf Go.RowKit
@[go_sem] def covO (cs cc : List AV) (id ic : Nat) (X : AV) (n : Int) (q l : Ob) : Ob:=(id,.cells 4 [.ptr cs,.ptr cc,X,.ref ic 0] 0)::(ic,.cells 1 [iI n] 0)::(q++l)
end Go.Proofs.Shf
namespace Go.AW
theorem XO {l : List AV} {i : Nat} (h : i<l.length) : l.set i (l.getD i nv)=l:=by
 apply List.ext_getElem?
 intro j
 by_cases e : j=i
 ·subst e; simp [Go.AW.gE,h]
 ·rw [List.getElem?_set_ne (by omega)]
theorem Xi.pj {α : Type} {O : Ob→AV→α→Prop} {p : Ob} {X : AV} {A : List α} (h : Xi O p X A) : Ds (some X)=some (True,.int .i64 A.length):=by
 rcases h with ⟨_,rfl,rfl⟩ | ⟨id,Xs,o,_,rfl,hr⟩
 ·rfl
 ·simp [Go.AW.Ds,hr.len]
theorem Xi.SG {α : Type} {O : Ob→AV→α→Prop} {p : Ob} {X : AV} {A : List α} (h : Xi O p X A) {i : Nat} (hi : i<A.length) : ∃ id Xs o,p=(id,.cells 1 Xs 0)::o∧X=.buf id Xs.length∧Bu O Xs A o:=by
 rcases h with ⟨_,_,rfl⟩ | h
 ·simp at hi
 ·exact h
theorem A9.rP {α : Type} [Inhabited α] {O : Ob→AV→α→Prop} {H0 H : AA} {l q : Ob} {id : Nat} {Xs : List AV} {A : List α} (o : A9 H0 H (((id,.cells 1 Xs 0)::q)++l)) (hr : Bu O Xs A q) {i : Nat} (hi : i<Xs.length) :
  ∃ p r,A9 H0 H (p++((id,.cells 1 Xs 0)::(r++l)))∧O p (Xs.getD i nv) (A.getD i default) ∧
   ∀ a' p' H',O p' (Xs.getD i nv) a'→A9 H0 H' (p'++((id,.cells 1 Xs 0)::(r++l)))→∃ q',Bu O Xs (A.set i a') q'∧A9 H0 H' (((id,.cells 1 Xs 0)::q')++l):=by
 obtain ⟨p,r,h1,h2,h3⟩:=hr.split i hi;refine ⟨p,r,o.perm ?_,h2,fun a' p' H' hO o'=>?_⟩
 ·refine List.Perm.trans ?_ (List.perm_middle (a:=(id,AG.cells 1 Xs 0)) (l₁:=p) (l₂:=r++l)).symm;refine List.Perm.cons _ ?_;rw [← List.append_assoc];exact List.Perm.append_right l h1
 ·obtain ⟨q',k1,k2⟩:=h3 _ _ _ hO;rw [XO hi] at k1;refine ⟨q',k1,o'.perm ?_⟩;refine List.Perm.trans (List.perm_middle (a:=(id,AG.cells 1 Xs 0)) (l₁:=p') (l₂:=r++l)) ?_;refine List.Perm.cons _ ?_;rw [← List.append_assoc];exact List.Perm.append_right l k2.symm
theorem Bu.eS {Xs : List AV} {l : List Int} {o : Ob} (h : Bu OI Xs l o) : o=[]∧Xs=l.map iI:=by
 induction h with
 | nil=>exact ⟨rfl,rfl⟩
 | cons h _ ih=>exact ⟨by rw [h.1,ih.1]; rfl,by rw [h.2,ih.2]; rfl⟩
theorem My : ∀ (l : List Int),Bu OI (l.map iI) l []
 | []=>.nil
 | a::r=>.cons (p:=[]) ⟨rfl,rfl⟩ (My r)
theorem Xi.vB {α : Type} {O : Ob→AV→α→Prop} {p q l : Ob} {X Y : AV} {A : List α} {a : α} {H0 H : AA} {K : Ak} (h : Xi O q X A) (hy : O p Y a) (h1 : Y.cells=[Y]∧Y.one=true) (o : A9 H0 H (p++(q++l))) (hm : A.length+1≤AN)
  (hk : ∀ X' q' H',X'.one=true→Xi O q' X' (A++[a])→A9 H0 H' (q'++l)→K X' H') : Co 1 (some X) (some (.sl [Y])) K H:=by
 have DW : Cc 1 [Y]:=by
  intro e he;rw [List.mem_singleton] at he; subst he;rw [h1.1];exact ⟨rfl,fun c hc=>by rw [List.mem_singleton] at hc; subst hc; exact h1.2⟩
 have HB : flat [Y]=[Y]:=by simp [flat,h1.1]
 rcases h with ⟨rfl,rfl,rfl⟩ | ⟨id,Xs,r,rfl,rfl,hr⟩
 ·simp only [Co,C5,RN];refine ⟨⟨by simp [AN],by simp [AN],DW⟩,fun id hn=>?_⟩;rw [HB];refine hk (.buf id 1) ((id,.cells 1 [Y] 0)::p) _ rfl (.inr ⟨id,[Y],p,rfl,rfl, ?_⟩) ?_
  ·have:=Bu.cons hy Bu.nil;rw [List.append_nil] at this; exact this
  ·have:=o.new hn (.cells 1 [Y] 0)
   simpa using this
 ·have o2 : A9 H0 H ((id,.cells 1 Xs 0)::(p++(r++l))):=by
   refine o.perm ?_
   simp
  have h0:=o2.h0;simp only at h0
  have hl:=hr.len;simp only [Co,h0,C5,Fh];refine ⟨⟨trivial,by simp,by simp; omega,by simp; omega,DW⟩,fun Bz hn=>?_⟩;rw [HB];refine hk (.buf Bz (Xs.length+1)) ((Bz,.cells 1 (Xs++[Y]) 0)::(r++p)) _ rfl (.inr ⟨Bz,Xs++[Y],r++p,rfl,by simp, ?_⟩) ?_
  ·refine hr.app ?_
   have:=Bu.cons hy Bu.nil;rw [List.append_nil] at this; exact this
  ·have:=o2.mv hn (.cells 1 (Xs++[Y]) 0);refine this.perm (List.Perm.cons _ ?_);rw [← List.append_assoc];exact List.Perm.append_right l List.perm_append_comm
theorem bT {H0 H : AA} {q l : Ob} {X : AV} {p : List (List Int)} (hX : PM q X p) (o : A9 H0 H (q++l)) {y : Nat} (hy : y<p.length) :
  ∃ HP Xs,X=.buf HP Xs.length∧Xs.length=p.length∧H.get HP=some (.cells 1 Xs 0)∧∃ pr,OL pr (Xs.getD y nv) (p.getD y default)∧∀ x,x∈pr→H.get x.1=some x.2:=by
 obtain ⟨HP,Xs,r,rfl,rfl,hr⟩:=hX.SG hy
 have hl:=hr.len
 obtain ⟨pr,r2,o2,hO,_⟩:=o.rP hr (i:=y) (by omega);exact ⟨HP,Xs,rfl,hl,o.h0,pr,hO,fun x hx=>o2.get x (List.mem_append_left _ hx)⟩
theorem ML {H0 H : AA} {q l : Ob} {X : AV} {p : List (List Int)} (hX : PM q X p) (o : A9 H0 H (q++l)) {y i : Nat} (hy : y<p.length) (hi : i<(p.getD y default).length) :
  ∃ HP Xs Je,X=.buf HP Xs.length∧Xs.length=p.length∧H.get HP=some (.cells 1 Xs 0)∧Xs.getD y nv=.buf Je (p.getD y default).length∧H.get Je=some (.cells 1 ((p.getD y default).map iI) 0) ∧
   ∀ (k : Int) (K : Ak),(∀ q' H',PM q' X (p.set y ((p.getD y default).set i k))→A9 H0 H' (q'++l)→K nv H')→Ka (H.get Je) Je i 1 [iI k] K H:=by
 obtain ⟨HP,Xs,r,rfl,rfl,hr⟩:=hX.SG hy
 have hl:=hr.len
 obtain ⟨pr,r2,o2,hO,back⟩:=o.rP hr (i:=y) (by omega)
 obtain ⟨Je,Ys,rr,rfl,hY,jc⟩:=hO.SG hi
 obtain ⟨rfl,rfl⟩:=jc.eS;rw [List.length_map] at hY;refine ⟨HP,Xs,Je,rfl,hl,o.h0,hY,o2.h0,fun k K hk=>?_⟩;refine BT (f:=iI) k o2 rfl hi fun H' o3=>?_
 obtain ⟨q',Xd,o4⟩:=back ((p.getD y default).set i k) [(Je,.cells 1 (((p.getD y default).set i k).map iI) 0)] H' (by rw [hY]; exact .inr ⟨Je,_,[],rfl,by simp,My _⟩) o3;exact hk _ H' (.inr ⟨HP,Xs,q',rfl,rfl,Xd⟩) o4
theorem ID.uO {α : Type} {O : Ob→AV→α→Prop} {f : α→AV} {a : α} {P : Program} {B : Nat} {fn : FuncId} {args es : List AV} {H : AA} {K : Ak} (hO : Ow O f) (h : ID P B fn es fun p X=>O p X a) (hl : es.length=args.length)
  (ht : ∀ i,i<args.length→∀ g w v,Ao g B H w→Aa g (args.getD i nv) v→Aa (g.Df H w) (es.getD i nv) v)
  (hk : ∀ H',H.sub H'→K (f a) H') : B9 P B fn args H K:=by
 have h1 : B9 P B fn args H fun r H'=>∃ p,O p r a∧A9 H H' (p++[]):=ID.nj hO h (A9.nil H) hl ht fun r p H' q o=>⟨p,q,o⟩;refine ⟨h1.1,fun g w vs hW hv=>?_⟩;refine (h1.2 g w vs hW hv).mono fun e w' ⟨v,he,g',r,H',q1,⟨p,q2,q3⟩,q4,q5,q6⟩=>?_
 obtain ⟨g2,H2,r1,r2,r3,r4⟩:=hO.fz p r a q2 g' B H H' [] w' q5 q3;exact ⟨v,he,g2,f a,H2,q1.trans r1,hk H2 r3.sub,r4 v q4,r2,q6⟩
end Go.AW
namespace Go.AW
theorem ED.rows {Xs : List AV} {T : List (List Int)} {ob : Ob} (h : ED iI Xs T ob) : Bu OL Xs T ob:=by
 induction h with
 | nil=>exact .nil
 | @cons p o X Xs A As h t ih =>
  refine .cons ?_ ih
  rcases h with ⟨rfl,rfl,rfl⟩ | ⟨id,rfl,rfl⟩
  ·exact .inl ⟨rfl,rfl,rfl⟩
  ·exact .inr ⟨id,_,[],rfl,by simp,My _⟩
theorem Bu.lsr {Xs : List AV} {T : List (List Int)} {ob : Ob} (h : Bu OL Xs T ob) : ED iI Xs T ob:=by
 induction h with
 | nil=>exact .nil
 | @cons p o X Xs A As h t ih =>
  refine ED.cons ?_ ih
  rcases h with ⟨rfl,rfl,rfl⟩ | ⟨id,Ys,r,rfl,rfl,hr⟩
  ·exact .inl ⟨rfl,rfl,rfl⟩
  ·obtain ⟨rfl,rfl⟩:=hr.eS;exact .inr ⟨id,rfl,by simp⟩
theorem kP {F : Env→AA→Prop} {σ : Env} {H0 H : AA} {l q : Ob} {id n : Nat} {T : List (List Int)} (h : PM q (.buf id n) T) (o : A9 H0 H (q++l))
  (hk : ∀ H',n=T.length→A9 H0 H' ((id,.cells 1 (T.map iL) 0)::l)→EX F σ H') : EX F σ H:=by
 rcases h with ⟨_,h,_⟩ | ⟨GD,Xs,ob,rfl,hX,hr⟩
 ·cases h
 ·obtain ⟨rfl,rfl⟩:=AV.buf.inj hX;exact EA hr.lsr [] H o fun H' o'=>hk H' hr.len o'
end Go.AW
namespace Go.Shf
theorem K6 {α : Type} [Inhabited α] (A : List α) (i : Nat) : A.set i (A.getD i default)=A:=by
 apply List.ext_getElem?
 intro j
 by_cases e : i=j
 ·subst e
  by_cases h : i<A.length
  ·simp [Go.AW.gE,h]
  ·rw [List.getElem?_eq_none (by simp; omega),List.getElem?_eq_none (by omega)]
 ·rw [List.getElem?_set_ne e]
theorem Wa {p : List (List Int)} {y i v : Int} (h : Go.AW.ix (Go.AW.ix p y) i=v) : L1 p y i v=p:=by
 have e : (Go.AW.ix p y).set i.toNat v=Go.AW.ix p y:=by rw [← h]; exact K6 _ _
 rw [L1,e]; exact K6 _ _
end Go.Shf
namespace Go.Proofs.Shf
open Go.AW Go.Proofs Go.Shf
@[go_sem] def Mn (f g : SF) (m : Int) (X : AV) : AG:=.cells 17 [iI f.shape.AF,iL f.shape.AB,iL f.shape.to,iL f.shape.Ac,B5 f.shape.comp,iL f.A1,B5 f.AJ,
 iI g.shape.AF,iL g.shape.AB,iL g.shape.to,iL g.shape.Ac,B5 g.shape.comp,iL g.A1,B5 g.AJ,.bool false,iI m,X] 0
def Hd (f g : SF) (p : List (List Int)) (x e d : Int) (r : AV) : Prop:=∃ (ok : Bool) (p' : List (List Int)),r=.CQ [B5 p',.bool ok]∧(ok=true→∃ N,DQ f g p x e d (outs f.shape x).length p' N)∧(ok=false→¬ aL f g p x e d)
theorem Vy (B : Nat) {f g : SF} {x e d m : Int} (w : RB f g x e d) {p : List (List Int)} (hP : PT f g p) {DC : Nat} {X : AV} {l : Ob} {H0 H : AA}
  (o : A9 H0 H ((DC,Mn f g m X)::l)) :
  CB B 256 [.ref DC 0,B5 p,iI x,iI e,iI d] H fun r H'=>Hd f g p x e d r∧A9 H0 H' ((DC,Mn f g m X)::l):=by
 refine qO.go fun _=>?_
 have hm:=w.hf.1.is.1.m
 have Ee:=w.hf.1.is.1.o
 have Jc:=w.hf.1.is.1.L5
 have Tc:=w.hf.1.al
 have ym : g.AJ.length=f.shape.AB.length:=by have:=w.hg.1.al; rw [← w.sh] at this; exact this
 refine tt ?_;refine (LN B p H0 H _ o).mono ?_;clear o
 rintro r H ⟨HP,Xs,ob,rfl,kT,o⟩
 have jg : PM ((HP,.cells 1 Xs 0)::ob) (.buf HP Xs.length) p:=.inr ⟨HP,Xs,ob,rfl,rfl,kT.rows⟩
 have hlX:=kT.len
 generalize Xj : Xs.length=nX at *;clear kT;refine tt ?_
 refine AD [0,2,3,4,12] (G:=List (List Int) × List (Int × Int) × Ob) (fun a _=>[(13,some (.int .i64 (a : Int)))])
  (fun a G H=>PM G.2.2 (.buf HP nX) G.1∧DQ f g p x e d (Jv f.shape x a) G.1 G.2.1∧A9 H0 H ((DC,Mn f g m X)::(G.2.2++l))) f.shape.AB.length (p,[],(HP,.cells 1 Xs 0)::ob) ⟨jg,.zero f g p x e d,o.pm⟩ rfl ?_
 clear o jg
 rintro a ⟨p',N,q⟩ H ha ⟨hX,hS,o⟩;dsimp only at hX hS o
 have Kc : H.get DC=some (Mn f g m X):=o.h0;refine tt ?_;refine Aj Kc (by simp) (tt ?_);apply bk <;> intro h1
 ·have AU : a<f.shape.AB.length:=by have:=A6 h1; omega
  have w1:=ws a;refine tt ?_;refine Aj Kc (by simp) (tt ?_);refine ⟨by omega, ?_⟩;apply bk <;> intro h2
  ·have Aq:=dd h2
   have o8 : Jv f.shape x (a+1)=Jv f.shape x a:=by rw [PJ,if_neg (by simpa using Aq)]
   refine tw w1 ?_;exact A4 (p',N,q) (by omega) ⟨hX,by rw [o8]; exact hS,o⟩ rfl
  ·have Aq:=dd h2
   have xB : f.shape.AB.getD a default=x:=by simpa using Aq
   have o8 : Jv f.shape x (a+1)=Jv f.shape x a+1:=by rw [PJ,if_pos xB]
   have Nk:=bB (P:=fun i=>decide (f.shape.AB.getD i default=x)) AU (decide_eq_true xB)
   have Xr : Jv f.shape x a<(outs f.shape x).length:=by rw [outs,List.length_map]; exact Nk.2
   have ea : (outs f.shape x).getD (Jv f.shape x a) default=(a : Int):=by
    rw [outs,show Jv f.shape x a=((List.range a).filter fun i=>decide (f.shape.AB.getD i default=x)).length from rfl,BC _ Nk.2]; exact congrArg Int.ofNat Nk.1
   have hA:=w.arr (b:=(a : Int)) (AE.mpr ⟨_,Xr,ea⟩)
   have Iy:=hP.sJ w.hf.1 hA.2.2.1 hA.2.2.2.1
   have Ux:=w.hf.1.MX hA.1 (e:=e) (by rw [hA.2.1]; exact w.he)
   have aD:=w.hg.1.MX (a:=(a : Int)) (e:=d) (by rw [← w.sh]; exact hA.1) (by rw [← w.sh,hA.2.1]; exact w.hd);simp only [AR] at hA Iy Ux aD
   have Nx:=hA.2.2.1
   have RD:=hA.2.2.2.1
   have vz:=hA.2.2.2.2
   have II : (f.shape.to.getD a default).toNat<p'.length:=by rw [hS.len]; exact Iy.1.2
   have E8 : (ix (f.AJ.getD a default) e).toNat<(p'.getD (f.shape.to.getD a default).toNat default).length:=by rw [hS.row]; exact Iy.2.2
   have o1 : A9 H0 H (q++((DC,Mn f g m X)::l)):=o.pm
   obtain ⟨idX',Xs',Je,ys,Iw,V5,Ta,o6,Iv⟩:=ML hX o1 II E8
   obtain ⟨rfl,hnX⟩:=AV.buf.inj ys
   have hfin2:=Ux.2
   have hgin2:=aD.2;refine tt ?_;refine Aj Kc (by simp) (tt ?_);refine ⟨by omega,Aj Kc (by simp) ?_⟩;refine tt ?_;refine ⟨by omega,tt ?_⟩;refine ⟨Ux,Aj Kc (by simp) ?_⟩;refine tt ?_;refine ⟨by omega,tt ?_⟩;refine ⟨aD, ?_⟩
   have eT : ix f.shape.to (a : Int)=f.shape.to.getD a default:=by rw [AR]
   have eA : ix f.AJ (a : Int)=f.AJ.getD a default:=by rw [AR]
   have eG : ix g.AJ (a : Int)=g.AJ.getD a default:=by rw [AR]
   have Qy:=fun h=>hS.fresh w hP Xr ea h
   have yO:=fun h=>hS.same Xr ea h
   have Xo:=fun h h2=>hS.ko w Xr ea h h2;rw [eT,eA,eG] at Qy yO Xo
   generalize f.shape.to.getD a default=y at *
   generalize ix (f.AJ.getD a default) e=i at *
   generalize ix (g.AJ.getD a default) d=v at *
   have eV : (p'.getD y.toNat default).getD i.toNat default=ix (ix p' y) i:=rfl;refine tt ?_;refine ⟨⟨Nx.1,by omega⟩,Aj V5 (by omega) ?_⟩;rw [Ta];refine tt ?_;refine ⟨⟨RD.1,E8⟩,D1 (f:=iI) o6 E8 ?_⟩;rw [eV];refine tt ?_
   have Td : ∀ (K : Ak),(∀ q' H',PM q' (.buf HP nX) (L1 p' y i v)→A9 H0 H' (q'++((DC,Mn f g m X)::l))→K nv H')→Ka (H.get Je) Je i.toNat 1 [iI v] K H:=fun K hk=>Iv v K hk
   by_cases h3 : 0≤ix (ix p' y) i
   ·rw [decide_eq_true h3];refine tt ?_;refine ⟨⟨Nx.1,by omega⟩,Aj V5 (by omega) ?_⟩;rw [Ta];refine tt ?_;refine ⟨⟨RD.1,E8⟩,D1 (f:=iI) o6 E8 ?_⟩;rw [eV];refine tt ?_
    by_cases h4 : ix (ix p' y) i=v
    ·rw [decide_eq_true h4];refine tt ?_;refine Aj Kc (by simp) (tt ?_);refine ⟨⟨Nx.1,by omega⟩,Aj V5 (by omega) ?_⟩;rw [Ta];refine tt ?_;refine ⟨⟨RD.1,E8⟩,Td _ fun q' H Iq o=>?_⟩;rw [Wa h4] at Iq;refine tw w1 ?_;exact A4 (p',N,q') (by omega) ⟨Iq,by rw [o8]; exact yO h4,(by simp only [Mn] at o ⊢; exact o.pm)⟩ rfl
    ·rw [decide_eq_false h4];refine tt ?_;exact ⟨H,.refl H,⟨false,[],rfl,(fun h=>by cases h),fun _=>Xo h3 h4⟩,(show A9 H0 H ((DC,Mn f g m X)::l) from o.FL (List.Sublist.cons_cons _ (List.sublist_append_right _ _)))⟩
   ·rw [decide_eq_false h3];refine tt ?_;refine Aj Kc (by simp) (tt ?_);refine ⟨⟨Nx.1,by omega⟩,Aj V5 (by omega) ?_⟩;rw [Ta];refine tt ?_;refine ⟨⟨RD.1,E8⟩,Td _ fun q' H Iq o=>?_⟩;refine tw w1 ?_;exact A4 (_,N++[(y,i)],q') (by omega) ⟨Iq,by rw [o8]; exact Qy h3,(by simp only [Mn] at o ⊢; exact o.pm)⟩ rfl
 ·have AU:=A7 h1
  have eL : f.shape.AB.length=(f.AJ.length):=by omega
  have Aq : a=f.shape.AB.length:=by omega
  have HO : Jv f.shape x a=(outs f.shape x).length:=by rw [Aq,outs,List.length_map]; rfl
  rw [HO] at hS;refine tt ?_;refine kP hX (o.pm : A9 H0 H (q++((DC,Mn f g m X)::l))) fun H hl o=>AX ?_;refine tt ?_;refine Am o hl fun H o=>tt ?_;exact ⟨H,.refl H,⟨true,p',rfl,fun _=>⟨N,hS⟩,fun h=>by cases h⟩,o⟩
theorem Vn (B : Nat) {f g : SF} {x e m : Int} (hf : f.Is) (hg : g.Is) (sh : f.shape=g.shape) (hx : 0≤x∧x<f.shape.AF) (he : 0≤e∧e<ix f.A1 x) {p : List (List Int)} (hP : PT f g p) {DC : Nat} {X : AV} {l : Ob} {H0 H : AA}
  (o : A9 H0 H ((DC,Mn f g m X)::l)) :
  CB B 255 [.ref DC 0,B5 p,iI x,iI e] H fun r H'=>r=iL (DZ f g p x e (ix g.A1 x).toNat)∧A9 H0 H' ((DC,Mn f g m X)::l):=by
 refine lu.go fun _=>?_
 have hX:=hg.1.nF (x:=x) (by rw [← sh]; exact hx)
 have h0:=hg.1.sz _ (BL hX.2)
 obtain ⟨n,hn⟩ : ∃ n : Nat,ix g.A1 x=n:=⟨_,(Int.toNat_of_nonneg h0.1).symm⟩;rw [hn] at h0;rw [hn,Int.toNat_natCast];refine tt ?_;refine Az iI o fun id H o=>tt ?_
 refine AD [0,1,2,3] (G:=Nat × List Int) (fun k g=>[(9,some (.buf g.1 g.2.length)),(10,some (.int .i64 (k : Int)))])
  (fun k G H=>G.2=DZ f g p x e k∧A9 H0 H ((G.1,.cells 1 (G.2.map iI) 0)::(DC,Mn f g m X)::l)) n (id,[]) ⟨by simp [DZ],o⟩ rfl ?_
 clear o
 rintro k ⟨id,out⟩ H hk ⟨B2,o⟩;dsimp only at B2 o
 have Kc : H.get DC=some (Mn f g m X):=o.tl.h0
 have KU:=Ru (f:=f) (g:=g) (p:=p) (x:=x) (e:=e) k;rw [← B2] at KU;refine tt ?_;refine Aj Kc (by simp) (tt ?_);refine ⟨hX, ?_⟩;rw [hn];refine tt ?_;apply bk <;> intro h1
 ·have AU : k<n:=by have:=A6 h1; omega
  have w1:=ws k;refine tt ?_;refine (Vy B (d:=(k : Int)) ⟨hf,hg,sh,hx,he,by omega,by omega⟩ hP o.swap).mono ?_;clear o
  rintro r H ⟨⟨ok,p',rfl,ht,Ea⟩,o⟩;refine tt ?_
  cases ok with
  | true =>
   obtain ⟨N,hS⟩:=ht rfl;refine tt ?_;refine Ae (k : Int) o.swap rfl rfl (by simp only [AN]; omega) fun z H o=>?_;refine tw w1 ?_;exact A4 (z,out++[(k : Int)]) AU ⟨by rw [B2,iJ ⟨p',N,hS⟩],o⟩ rfl
  | false =>
   refine tw w1 ?_;exact A4 (id,out) AU ⟨by rw [B2,iW (Ea rfl)],o.swap⟩ rfl
 ·have AU : ¬ k<n:=by have:=A7 h1; omega
  obtain rfl : k=n:=by omega
  refine tt ?_;refine Am o rfl fun H o=>tt ?_;exact ⟨H,.refl H,by rw [B2],o⟩
def GoK (f g : SF) (most : Nat) (DC : Nat) (L : List (List (List Int))) (H0 : AA) (l : Ob) : Ak:=fun r H'=>∃ (X : AV) (w : Ob),r=.CQ []∧Lp B5 w X (L.take most)∧A9 H0 H' ((DC,Mn f g most X)::(w++l))
theorem jR (B : Nat) {f g : SF} (hf : f.Is) (hg : g.Is) (sh : f.shape=g.shape) (most : Nat) (GY : most≤1000) (DC : Nat) :
  ∀ (n : Nat) (p : List (List Int)),I6 f p=n→PT f g p→∀ (A : List (List (List Int))) (X : AV) (w l : Ob) (H0 H : AA),A.length<most→Lp B5 w X A→A9 H0 H ((DC,Mn f g most X)::(w++l)) →
   CB B 179 [.ref DC 0,B5 p] H (GoK f g most DC (A++Bp f g p) H0 l):=by
 intro n
 induction n using Nat.strongRecOn with
 | _ n ih =>
 intro p hn hP A X w l H0 H hA hX o;refine rq.go fun _=>?_
 have Ee:=hf.1.is.1.o
 have Im:=hf.1.sl
 have Nw:=hP.len
 have Nq : ∀ x,x<f.A1.length→0≤f.A1.getD x default∧f.A1.getD x default<17:=fun x hx=>hf.1.sz _ (AE.mpr ⟨x,hx,rfl⟩)
 have oU : (A++([] : List (List (List Int)))).take most=A:=by rw [List.append_nil]; exact List.take_of_length_le (by omega)
 have w0 : IntKind.i64.wrap ((p.length : Int) - 1)=(p.length : Int) - 1 - ((0 : Nat) : Int):=by rw [wrap_i64 (by omega) (by omega)]; omega
 refine tw w0 ?_
 refine AD [0,1] (G:=Int × Int) (fun k g=>[(4,some (iI g.1)),(5,some (iI g.2)),(6,some (.int .i64 ((p.length : Int) - 1 - (k : Int))))])
  (fun k G H=>Dz f p ((p.length : Int) - k) 0 G.1 G.2∧A9 H0 H ((DC,Mn f g most X)::(w++l))) p.length (-1,-1) ⟨.start (by omega),o⟩ rfl ?_
 clear o
 rintro k ⟨x,e⟩ H hk ⟨hS,o⟩;dsimp only at hS o;refine tt ?_;apply bk <;> intro h1
 ·have AU : k<p.length:=by have:=A6 h1; omega
  have w1 : IntKind.i64.wrap ((p.length : Int) - 1 - (k : Int) - 1)=(p.length : Int) - 1 - ((k+1 : Nat) : Int):=by rw [wrap_i64 (by omega) (by omega)]; omega
  obtain ⟨y,hy⟩ : ∃ y : Nat,(p.length : Int) - 1 - (k : Int)=y:=⟨p.length - 1 - k,by omega⟩
  have Zi : y<p.length:=by omega
  have yu:=Nq y (by omega)
  have Bf:=hP.row y (by omega)
  have w2 : IntKind.i64.wrap (((p.getD y default).length : Int) - 1)=((p.getD y default).length : Int) - 1 - ((0 : Nat) : Int):=by rw [wrap_i64 (by omega) (by omega)]; omega
  have hS1 : Dz f p y (((p.getD y default).length : Int) - ((0 : Nat) : Int)) x e:=by
   have e1 : (p.length : Int) - k=(y : Int)+1:=by omega
   rw [e1] at hS;exact hS.row (by rw [AR]; omega)
  rw [hy];refine tt ?_;refine ⟨by omega, ?_⟩;refine tw w2 ?_
  refine AD [0,1,6] (G:=Int × Int) (fun j g=>[(4,some (iI g.1)),(5,some (iI g.2)),(7,some (.int .i64 (((p.getD y default).length : Int) - 1 - (j : Int))))])
   (fun j G H=>Dz f p y (((p.getD y default).length : Int) - j) G.1 G.2∧A9 H0 H ((DC,Mn f g most X)::(w++l))) (p.getD y default).length (x,e) ⟨hS1,o⟩ rfl ?_
  clear o hS hS1
  rintro j ⟨x,e⟩ H hj ⟨hS,o⟩;dsimp only at hS o;refine tt ?_;apply bk <;> intro h2
  ·have Aq : j<(p.getD y default).length:=by have:=A6 h2; omega
   obtain ⟨d,hd⟩ : ∃ d : Nat,((p.getD y default).length : Int) - 1 - (j : Int)=d:=⟨(p.getD y default).length - 1 - j,by omega⟩
   have hdl : d<(p.getD y default).length:=by omega
   have w3 : IntKind.i64.wrap ((d : Int) - 1)=((p.getD y default).length : Int) - 1 - ((j+1 : Nat) : Int):=by rw [wrap_i64 (by omega) (by omega)]; omega
   have e1 : ((p.getD y default).length : Int) - j=(d : Int)+1:=by omega
   have e2 : ((p.getD y default).length : Int) - ((j+1 : Nat) : Int)=(d : Int):=by omega
   have hY : (0 : Int)≤(y : Int)∧(y : Int)<f.shape.AF:=by omega
   have hD : (0 : Int)≤(d : Int)∧(d : Int)<ix f.A1 (y : Int):=by rw [AR]; omega
   have hv:=hP.val y d hY hD
   have eV : (p.getD y default).getD d default=ix (ix p (y : Int)) (d : Int):=by rw [AR,AR]
   rw [e1] at hS;rw [hd];refine tt ?_;refine ⟨by omega,hdl, ?_⟩;rw [eV];refine tt ?_;apply bk <;> intro h3
   ·have BH : ix (ix p (y : Int)) (d : Int)=-1:=by have:=A6 h3; omega
    refine tt ?_;refine (Vn B hf hg sh hY hD hP o).mono ?_;clear o
    rintro r H ⟨rfl,o⟩;refine tt ?_;apply bk <;> intro h4
    ·have D9 : DZ f g p y d (ix g.A1 (y : Int)).toNat=[]:=List.length_eq_zero_iff.mp (by rw [AR]; have:=A6 h4; omega)
     have Ea:=Hb hf hg sh hP (Xz hf hg sh hP hY hD D9);refine tt ?_;refine ⟨H,.refl H,X,w,rfl, ?_,o⟩;rw [← Ea,oU]; exact hX
    ·refine tw w3 ?_;exact A4 ((y : Int),(d : Int)) (by omega) ⟨by rw [e2]; exact hS.Sc hY hD BH,o⟩ rfl
   ·have BH : ix (ix p (y : Int)) (d : Int)≠-1:=by have:=A7 h3; omega
    refine tw w3 ?_;exact A4 (x,e) (by omega) ⟨by rw [e2]; exact hS.BF BH,o⟩ rfl
  ·have Aq : j=(p.getD y default).length:=by have:=A7 h2; omega
   rw [← hy] at *;refine tw w1 ?_
   exact A4 (x,e) (by omega) ⟨by
    have e1 : (p.length : Int) - ((k+1 : Nat) : Int)=(p.length : Int) - 1 - k:=by omega
    rw [Aq,Int.sub_self] at hS;rw [e1]; exact hS,o⟩ rfl
 ·have AU : k=p.length:=by have:=A7 h1; omega
  rw [AU,Int.sub_self] at hS;refine tt ?_
  have oX : A9 H0 H (w++((DC,Mn f g most X)::l)):=o.pm;apply bk <;> intro h2
  ·have Aq:=A6 h2
   have HO:=Hb hf hg sh hP (JW hf hP (hS.none Aq))
   have Kc : H.get DC=some (Mn f g most X):=o.h0;refine tt ?_;refine Aj Kc (by simp) (tt ?_);refine (CP.mk oX hX).app p rfl (by simp only [AN]; omega) fun Ac H o=>tt ?_;refine sw o.swap fun H o=>tt ?_;refine ⟨H,.refl H,.buf Ac (A++[p]).length,[(Ac,.cells 1 ((A++[p]).map B5) 0)],rfl, ?_,o⟩;rw [← HO,List.take_of_length_le (by simp; omega)];exact .inr ⟨Ac,rfl,rfl⟩
  ·have Aq:=A7 h2
   have hF:=hS.fst Aq
   obtain ⟨hx,he⟩ : _∧_:=⟨hF.hx,hF.he⟩
   have V5:=hg.1.nF (x:=x) (by rw [← sh]; exact hx)
   have h0:=hg.1.sz _ (BL V5.2)
   obtain ⟨n,yx⟩ : ∃ n : Nat,ix g.A1 x=n:=⟨_,(Int.toNat_of_nonneg h0.1).symm⟩
   have GX : ∀ d,0≤d→d<ix g.A1 x→RB f g x e d:=fun d h1 h2=>⟨hf,hg,sh,hx,he,h1,h2⟩
   have RG:=Ru (f:=f) (g:=g) (p:=p) (x:=x) (e:=e) n;refine tt ?_;refine (Vn B hf hg sh hx he hP o).mono ?_;clear o oX
   rintro r H ⟨rfl,o⟩;rw [yx,Int.toNat_natCast];refine tt ?_
   refine AD [0,1,4,5,8] (G:=List (List (List Int)) × AV × Ob × Int) (fun i _=>[(9,some (.int .i64 (i : Int)))])
    (fun i G H=>S8 f g p x e n i G.2.2.2 G.1∧Lp B5 G.2.2.1 G.2.1 ((A++G.1).take most)∧A9 H0 H ((DC,Mn f g most G.2.1)::(G.2.2.1++l))) (DZ f g p x e n).length ([],X,w,0) ⟨.start hx he n,by rw [oU]; exact hX,o⟩ rfl ?_
   clear o hX
   rintro i ⟨M,X,w,b⟩ H hi ⟨hC,hX,o⟩;dsimp only at hC hX o
   have Kc : H.get DC=some (Mn f g most X):=o.h0
   have hlX:=hX.Ds;refine tt ?_
   by_cases h3 : i<(DZ f g p x e n).length
   rotate_left 1
   ·rw [decide_eq_false (by omega)]
    obtain rfl : i=(DZ f g p x e n).length:=by omega
    refine tt ?_;refine ⟨H,.refl H,X,w,rfl, ?_,o⟩;rw [← Hb hf hg sh hP (hC.done GX hF hP yx.symm)]; exact hX
   ·rw [decide_eq_true (by omega)];refine tt ?_;refine Aj Kc (by simp) ?_;refine tw hlX ?_;refine Aj Kc (by simp) (tt ?_);apply bk <;> intro h4
    rotate_left 1
    ·have D9:=A7 h4
     have hle : most≤(A++M).length:=by rw [List.length_take] at D9; omega
     refine tt ?_;refine ⟨H,.refl H,X,w,rfl, ?_,o⟩
     obtain ⟨R,hR⟩:=hC.acc.pre hF hP Im (FF hf hg sh hP);rw [← hR,← List.append_assoc,List.take_append_of_le_length hle]; exact hX
    ·have D9:=A6 h4
     have CF : (A++M).length<most:=by rw [List.length_take] at D9; omega
     have etk : (A++M).take most=A++M:=List.take_of_length_le (by omega);rw [etk] at hX
     have w1:=ws i
     obtain ⟨c,hc⟩ : ∃ c,(DZ f g p x e n).getD i default=c:=⟨_,rfl⟩
     have ij:=Hp.mp (AE.mpr ⟨i,h3,hc⟩)
     have Zv:=GX c ij.1.1 (by omega);refine tt ?_;refine ⟨h3, ?_⟩;rw [hc];refine (Vy B Zv hP o).mono ?_;clear o
     rintro r H ⟨⟨ok,p',rfl,ht,Ea⟩,o⟩
     cases ok with
     | false=>exact absurd ij.2 (Ea rfl)
     | true =>
     obtain ⟨N,ju⟩:=ht rfl;refine tt ?_;refine (ih (I6 f p') (by rw [← hn]; exact ju.less Zv hP hF.un) p' rfl (ju.pt Zv hP) (A++M) X w l H0 H CF hX o).mono ?_;clear o hX
     rintro r H ⟨X,w,rfl,hX,o⟩;refine tw w1 ?_;refine A4 (M++Bp f g p',X,w,c+1) (by omega) ⟨?_, ?_,o⟩ rfl
     ·exact hC.step GX hF hP Im yx.symm h3 hc (FF hf hg sh (ju.pt Zv hP)) fun t=>ju.ext Zv hP t
     ·rw [← List.append_assoc]; exact hX
theorem Su (f : SF) {k : Nat} (hk : k<f.A1.length) {n : Nat} (hn : f.A1.getD k default=n) : (BA f).take (k+1)=(BA f).take k++[List.replicate n (-1)]:=by
 rw [take_one _ (by simpa [BA] using hk)]
 congr 2
 rw [BA,BC _ hk,hn,Int.toNat_natCast]
theorem ZW (B : Nat) {f : SF} (hf : f.Shape) : PB B 180 [.agg f.cells] (B5 (BA f)):=by
 refine ⟨fun H0=>sZ.go fun _=>?_⟩
 have Ee:=hf.is.1.o
 have Im:=hf.sl
 have Nq : ∀ x,x<f.A1.length→0≤f.A1.getD x default∧f.A1.getD x default<17:=fun x hx=>hf.sz _ (AE.mpr ⟨x,hx,rfl⟩)
 have o : A9 H0 H0 []:=.nil _;refine tt ?_;refine Az iL o fun id H o=>tt ?_
 refine AD [1] (G:=Nat × List (List Int)) (fun k g=>[(3,some (.buf g.1 g.2.length)),(4,some (.int .i64 (k : Int)))])
  (fun k G H=>G.2=(BA f).take k∧A9 H0 H [(G.1,.cells 1 (G.2.map iL) 0)]) f.A1.length (id,[]) ⟨by simp,o⟩ rfl ?_
 clear o
 rintro k ⟨id,out⟩ H hk ⟨B2,o⟩;dsimp only at B2 o
 have KU : out.length≤k:=by rw [B2,List.length_take]; omega
 refine tt ?_;apply bk <;> intro h1
 ·have AU : k<f.A1.length:=by have:=A6 h1; omega
  have w1:=ws k
  have W6:=Nq k AU
  obtain ⟨n,hn⟩ : ∃ n : Nat,f.A1.getD k default=n:=⟨_,(Int.toNat_of_nonneg W6.1).symm⟩;rw [hn] at W6;refine tt ?_;refine Az iI o fun Bt H o=>tt ?_
  refine AD [1,3,4] (G:=Nat × List Int) (fun e g=>[(5,some (.buf g.1 g.2.length)),(6,some (.int .i64 (e : Int)))])
   (fun e G H=>G.2=List.replicate e (-1)∧A9 H0 H ((G.1,.cells 1 (G.2.map iI) 0)::[(id,.cells 1 (out.map iL) 0)])) n (Bt,[]) ⟨by simp,o⟩ rfl ?_
  clear o
  rintro e ⟨Bt,row⟩ H he ⟨Bf,o⟩;dsimp only at Bf o
  have WA : row.length=e:=by rw [Bf]; simp
  refine tt ?_;refine ⟨AU, ?_⟩;rw [hn];apply bk <;> intro h2
  ·have Aq : e<n:=by have:=A6 h2; omega
   have w2:=ws e;refine tt ?_;refine Ae (-1 : Int) o rfl rfl (by simp only [AN]; omega) fun Bt H o=>?_;refine tw w2 ?_;exact A4 (_,_) (by omega) ⟨by rw [Bf,← MK],o⟩ rfl
  ·have Aq : e=n:=by have:=A7 h2; omega
   refine tt ?_;refine Am o rfl fun H o=>tt ?_;refine Ae (f:=iL) row o rfl rfl (by simp only [AN]; omega) fun id H o=>?_;refine tw w1 ?_;exact A4 (_,_) (by omega) ⟨by rw [B2,Bf,Aq,Su f AU hn],o⟩ rfl
 ·have AU : k=f.A1.length:=by have:=A7 h1; omega
  refine tt ?_;refine Am o rfl fun H o=>tt ?_;exact A5 (by rw [B2,AU,List.take_of_length_le (by simp [BA])]) o.sub
theorem Rz (B : Nat) {f g : SF} (hf : f.Is) (hg : g.Is) (sh : f.shape=g.shape) (most : Nat) (h0 : 0<most) (GY : most≤1000) : PB B 81 [.agg f.cells,.agg g.cells,.bool false,iI most] (BE ((Bp f g (BA f)).take most)):=by
 refine ⟨fun H0=>pq.go fun _=>?_⟩
 have o : A9 H0 H0 []:=.nil _;refine tt ?_;refine nb o fun DC H o=>tt ?_;refine (ZW B hf.1).go fun _=>tt ?_;refine (jR B hf hg sh most GY DC _ (BA f) rfl (KB hf.1) [] .A0 [] [] H0 H h0 (.inl ⟨rfl,rfl,rfl⟩) o).mono ?_;clear o
 rintro r H ⟨X,w,rfl,hX,o⟩;rw [List.nil_append] at hX;refine tt ?_;refine AH o (by simp) (tt ?_)
 have o : A9 H0 H (w++[(DC,Mn f g most X)]):=o.pm
 rcases hX with ⟨rfl,rfl,hM⟩ | ⟨Ac,rfl,rfl⟩
 ·refine tt ?_;exact A5 (by rw [hM]; rfl) o.sub
 ·refine Am (f:=B5) o rfl fun H o=>tt ?_;exact A5 rfl o.sub
end Go.Proofs.Shf
namespace Go.Shf
open Go.AW
def HN (f : SF) : List (List Int):=f.A1.map fun n=>(List.range n.toNat).map Int.ofNat
theorem Wv (f : SF) {k : Nat} (hk : k<f.A1.length) {n : Nat} (hn : f.A1.getD k default=n) : (HN f).take (k+1)=(HN f).take k++[(List.range n).map Int.ofNat]:=by
 have hl : k<(HN f).length:=by simpa [HN] using hk
 rw [take_one (HN f) hl,HN,BC _ hk,hn,Int.toNat_natCast]
end Go.Shf
namespace Go.Proofs.Shf
open Go.AW Go.Proofs Go.Shf
theorem MP (B : Nat) {f : SF} (hf : f.Shape) : PB B 229 [.agg f.cells] (B5 (HN f)):=by
 refine ⟨fun H0=>vD.go fun _=>?_⟩
 have Ee:=hf.is.1.o
 have Im:=hf.sl
 have Nq : ∀ x,x<f.A1.length→0≤f.A1.getD x default∧f.A1.getD x default<17:=fun x hx=>hf.sz _ (AE.mpr ⟨x,hx,rfl⟩)
 have o : A9 H0 H0 []:=.nil _;refine tt ?_;refine Az iL o fun id H o=>tt ?_
 refine AD [1] (G:=Nat × List (List Int)) (fun k g=>[(3,some (.buf g.1 g.2.length)),(4,some (.int .i64 (k : Int)))])
  (fun k G H=>G.2=(HN f).take k∧A9 H0 H [(G.1,.cells 1 (G.2.map iL) 0)]) f.A1.length (id,[]) ⟨by simp,o⟩ rfl ?_
 clear o
 rintro k ⟨id,out⟩ H hk ⟨B2,o⟩;dsimp only at B2 o
 have KU : out.length≤k:=by rw [B2,List.length_take]; omega
 refine tt ?_;apply bk <;> intro h1
 ·have AU : k<f.A1.length:=by have:=A6 h1; omega
  have w1:=ws k
  have W6:=Nq k AU
  obtain ⟨n,hn⟩ : ∃ n : Nat,f.A1.getD k default=n:=⟨_,(Int.toNat_of_nonneg W6.1).symm⟩;rw [hn] at W6;refine tt ?_;refine Az iI o fun Bt H o=>tt ?_
  refine AD [1,3,4] (G:=Nat × List Int) (fun e g=>[(5,some (.buf g.1 g.2.length)),(6,some (.int .i64 (e : Int)))])
   (fun e G H=>G.2=(List.range e).map Int.ofNat∧A9 H0 H ((G.1,.cells 1 (G.2.map iI) 0)::[(id,.cells 1 (out.map iL) 0)])) n (Bt,[]) ⟨by simp,o⟩ rfl ?_
  clear o
  rintro e ⟨Bt,row⟩ H he ⟨Bf,o⟩;dsimp only at Bf o
  have WA : row.length=e:=by rw [Bf]; simp
  refine tt ?_;refine ⟨AU, ?_⟩;rw [hn];apply bk <;> intro h2
  ·have Aq : e<n:=by have:=A6 h2; omega
   have w2:=ws e;refine tt ?_;refine Ae (e : Int) o rfl rfl (by simp only [AN]; omega) fun Bt H o=>?_;refine tw w2 ?_;exact A4 (_,_) (by omega) ⟨by rw [Bf,FT]; rfl,o⟩ rfl
  ·have Aq : e=n:=by have:=A7 h2; omega
   refine tt ?_;refine Am o rfl fun H o=>tt ?_;refine Ae (f:=iL) row o rfl rfl (by simp only [AN]; omega) fun id H o=>?_;refine tw w1 ?_;exact A4 (_,_) (by omega) ⟨by rw [B2,Bf,Aq,Wv f AU hn],o⟩ rfl
 ·have AU : k=f.A1.length:=by have:=A7 h1; omega
  refine tt ?_;refine Am o rfl fun H o=>tt ?_;exact A5 (by rw [B2,AU,List.take_of_length_le (by simp [HN])]) o.sub
def qF (r : AV) : Prop:=∃ f g : SF,r=.CQ [.agg f.cells,.agg g.cells]
theorem UE (B : Nat) (size : Int) (JC : 0≤size∧size≤1000) : Rd B 277 [iI size] qF:=by
 intro id s H0 H hs o;refine qQ.go fun _=>?_;refine tt ?_;refine nb o fun B1 H o=>tt ?_;refine nb o fun Bv H o=>tt ?_;refine (NR B).go hs (o.pull [_,_]) fun r s H _ ⟨c,e⟩ hs o=>?_;subst e;refine tt ?_;refine Ai o fun Ba H o=>tt ?_;refine sw o fun H o=>tt ?_;refine AO o (by simp) (tt ?_);refine (F5 B c size JC).go hs o.swap fun r s H _ ⟨f,e⟩ hs o=>?_;subst e;refine tt ?_;refine nb o fun CT H o=>tt ?_;refine sw o fun H o=>tt ?_;refine (AY B 24).go hs o.swap fun r s H _ ⟨v,e,_⟩ hs o=>?_;subst e;refine tt ?_
 have o : A9 H0 H [(id,s.obj),(CT,AG.cells 7 f.cells 0),(Ba,AG.cells 5 c.cells 0),(Bv,AG.cells 7 z7 0),(B1,AG.cells 7 z7 0)]:=o;apply bk <;> intro h1
 focus
  refine tt ?_;refine ⟨⟨_,_,o.tl.h0⟩,AO o.tl (by simp [SF.cells]) ?_⟩;refine tt ?_;refine (NR B).IE hs o fun r s H _ ⟨c2,e⟩ hs o hz=>⟨hz, ?_⟩;subst e;refine tt ?_;refine (F5 B c2 size JC).IE hs o fun r s H _ ⟨g,e⟩ hs o hz=>⟨hz, ?_⟩;subst e;refine tt ?_
 rotate_left 1
 focus
  refine tt ?_;refine ⟨⟨_,_,o.tl.h0⟩,AO o.tl (by simp [SF.cells]) ?_⟩;refine tt ?_;refine ⟨⟨_,_,o.tl.tl.h0⟩,AO o.tl.tl (by simp [Ax.cells]) ?_⟩;refine tt ?_;refine (F5 B c size JC).IE hs o fun r s H _ ⟨g,e⟩ hs o hz=>⟨hz, ?_⟩;subst e;refine tt ?_
 all_goals
  have o : A9 H0 H ((B1,AG.cells 7 z7 0)::(Bv,AG.cells 7 z7 0)::[(id,s.obj),(CT,AG.cells 7 f.cells 0),(Ba,AG.cells 5 c.cells 0)]):=o.pm;refine AS o (by simp [z7]) (by (try simp only [go_sem]); (try simp)) (by first | (simp only [go_sem]; done) | ((try simp only [go_sem]); simp [AV.one,Ay])) fun H o=>?_;have o:=s2 o;refine tt ?_;refine AS o.swap (by simp [z7]) (by (try simp only [go_sem]); (try simp)) (by first | (simp only [go_sem]; done) | ((try simp only [go_sem]); simp [AV.one,Ay])) fun H o=>?_;have o:=s2 o;refine tt ?_
  have hr5:=o.rc 7 0 (by simp)
  have hr4:=o.tl.rc 7 0 (by simp);simp only [List.drop_zero] at hr5 hr4;rw [hr4,hr5];exact B4 ⟨f,g,rfl⟩ hs (o.pull [_,_])
end Go.Proofs.Shf
namespace Go.Shf
open Go.AW
def Mg (f g : SF) (p : List (List Int)) (x : Nat) : Prop:=((p.getD x default).length : Int)=f.A1.getD x default∧∀ y,y∈p.getD x default→0≤y∧y<g.A1.getD x default
def Ie (f g : SF) (p : List (List Int)) : Prop:=p.length=f.A1.length∧∀ x,x<p.length→Mg f g p x
def Oy (f g : SF) (p : List (List Int)) (a e : Nat) : Prop:=ix (ix p (f.shape.to.getD a default)) ((f.AJ.getD a default).getD e default)=ix (g.AJ.getD a default) ((ix p (f.shape.AB.getD a default)).getD e default)
def Vk (f g : SF) (p : List (List Int)) : Prop:=∀ a,a<f.AJ.length→∀ e : Nat,e<(f.AJ.getD a default).length→Oy f g p a e
structure SM.Is (m : SM) : Prop where
 s : m.src.Is
 t : m.AL.Is
 eq : m.src.shape=m.AL.shape
 p : Ie m.src m.AL m.parts
 n : Vk m.src m.AL m.parts
structure Z0 (f g : SF) (p : List (List Int)) : Prop where
 sf : f.Shape
 sg : g.Shape
 eq : f.shape=g.shape
 po : Ie f g p
structure SM.Shape (m : SM) : Prop where
 s : m.src.Is
 t : m.AL.Is
 eq : m.src.shape=m.AL.shape
 p : Ie m.src m.AL m.parts
theorem SF.Shape.sl' {f g : SF} (hf : f.Shape) (hg : g.Shape) (e : f.shape=g.shape) : g.A1.length=f.A1.length:=by
 have:=hf.sl; have:=hg.sl; rw [← e] at this; omega
theorem SM.Shape.d {m : SM} (h : m.Shape) : Z0 m.src m.AL m.parts:=⟨h.s.1,h.t.1,h.eq,h.p⟩
theorem SM.Uo {m : SM} : m.Is↔m.Shape∧Vk m.src m.AL m.parts:=⟨fun h=>⟨⟨h.s,h.t,h.eq,h.p⟩,h.n⟩,fun ⟨h,n⟩=>⟨h.s,h.t,h.eq,h.p,n⟩⟩
theorem Z0.at {f g : SF} {p : List (List Int)} (h : Z0 f g p) {a e : Nat} (ha : a<f.AJ.length) (he : e<(f.AJ.getD a default).length) :
  (0≤f.shape.AB.getD a default∧(f.shape.AB.getD a default).toNat<p.length)∧(0≤f.shape.to.getD a default∧(f.shape.to.getD a default).toNat<p.length)∧a<g.AJ.length ∧
  e<(ix p (f.shape.AB.getD a default)).length∧(0≤(f.AJ.getD a default).getD e default∧((f.AJ.getD a default).getD e default).toNat<(ix p (f.shape.to.getD a default)).length) ∧
  (0≤(ix p (f.shape.AB.getD a default)).getD e default∧((ix p (f.shape.AB.getD a default)).getD e default).toNat<(g.AJ.getD a default).length):=by
 have Tc:=h.sf.al
 have V6:=h.sg.al
 have f1:=h.sf.is.1.OH (f:=a) (by omega)
 have f2:=h.sf.is.1.mH (f:=a) (by omega)
 have TJ:=h.sf.is.1.il
 have Im:=h.sf.sl
 have hp:=h.po.1
 have p1:=h.po.2 _ (show (f.shape.AB.getD a default).toNat<p.length by omega)
 have p2:=h.po.2 _ (show (f.shape.to.getD a default).toNat<p.length by omega)
 have a1:=h.sf.act a ha
 have a2:=h.sg.act a (by rw [V6,← h.eq]; omega)
 have a3:=a1.2 _ (AE.mpr ⟨e,he,rfl⟩);rw [← h.eq] at a2;simp only [Mg] at p1 p2;simp only [ix] at *
 have p3:=p1.2 ((p.getD (f.shape.AB.getD a default).toNat default).getD e default) (AE.mpr ⟨e,by omega,rfl⟩);refine ⟨⟨f1.1,by omega⟩,⟨f2.1,by omega⟩,by rw [V6,← h.eq]; omega,by omega,⟨a3.1,by omega⟩,p3.1,by omega⟩
end Go.Shf
namespace Go.Proofs.Shf
open Go.AW Go.Proofs Go.Shf
theorem RL (B : Nat) (f g : SF) (p : List (List Int)) (hg : g.A1.length=f.A1.length) : PB B 240 [.agg f.cells,.agg g.cells,B5 p] (.bool (dec (Ie f g p))):=by
 refine ⟨fun H0=>ns.go fun ⟨_,_,hp,_⟩=>?_⟩
 have hl:=AZ hp;simp only [AN] at hl;refine tt ?_;apply bk <;> intro h0
 ·refine tt ?_
  have MG:=dd h0;exact A5 (by rw [Ad]; intro h; exact MG (by rw [h.1])) (.refl _)
 have MG:=dd h0
 have zo : p.length=f.A1.length:=by omega
 refine tt ?_;refine AD [2,3,4] (fun k _=>[(7,some (.int .i64 (k : Int)))]) (fun k _ H=>H=H0∧∀ i,i<k→Mg f g p i) p.length () ⟨rfl,by simp⟩ rfl ?_
 rintro k _ H hk ⟨rfl,Au⟩;refine tt ?_;apply bk <;> intro h1
 ·have AU:=dd h1
  have w1:=ws k;refine tt ?_;refine ⟨AU,by omega, ?_⟩;apply bn <;> intro h2
  rotate_left
  ·refine tw h2 ?_
   have Aq:=dd h2;exact A5 (by rw [Ad]; intro h; exact Aq (h.2 k AU).1) (.refl _)
  ·refine tw h2 ?_
   have Aq:=dd h2;refine ⟨by omega,AU,_,(Ep B (p.getD k default) (g.A1.getD k default)).run,tt ?_⟩;apply bk <;> intro h3
   ·refine tt ?_
    have BH:=dd h3;exact A5 (by rw [Ad]; intro h; exact BH (h.2 k AU).2) (.refl _)
   ·refine tw w1 ?_
    have BH:=dd h3;exact A4 () (by omega) ⟨rfl,AM Au ⟨Aq,BH⟩⟩ rfl
 ·refine tt ?_
  have AU:=dd h1;exact A5 (by rw [Av]; exact ⟨zo,fun x hx=>Au x (by omega)⟩) (.refl _)
theorem cL (B : Nat) (m : SM) (hg : m.AL.A1.length=m.src.A1.length) (hz : ∀ y,y∈m.AL.A1→0≤y∧y<17) : PB B 269 [.ptr m.cells] (.bool (dec (Ie m.src m.AL m.parts))):=by
 refine ⟨fun H0=>ub.go fun ⟨hp,_⟩=>?_⟩
 have hl:=AZ (hp.ptr (c:=B5 m.parts) (by simp [SM.cells]));simp only [AN] at hl;refine tt ?_;apply bk <;> intro h0
 ·refine tt ?_
  have MG:=dd h0;exact A5 (by rw [Ad]; intro h; exact MG (by rw [h.1])) (.refl _)
 have MG:=dd h0
 have zo : m.parts.length=m.src.A1.length:=by omega
 refine tt ?_;refine AD [0,20,21] (fun k _=>[(22,some (.int .i64 (k : Int)))]) (fun k _ H=>H=H0∧∀ i,i<k→Mg m.src m.AL m.parts i) m.parts.length () ⟨rfl,by simp⟩ rfl ?_
 rintro k _ H hk ⟨rfl,Au⟩;refine tt ?_;apply bk <;> intro h1
 ·have AU:=dd h1
  have w1:=ws k;refine tt ?_
  have W6:=hz _ (AE.mpr ⟨k,by omega,rfl⟩);refine ⟨AU,by omega,by omega,_,(MJ B (m.parts.getD k default) (m.src.A1.getD k default) (m.AL.A1.getD k default) (by omega)).run,tt ?_⟩;apply bk <;> intro h3
  ·refine tt ?_
   have BH:=dd h3;exact A5 (by rw [Ad]; intro h; exact BH (h.2 k AU)) (.refl _)
  ·refine tw w1 ?_
   have BH:=dd h3;exact A4 () (by omega) ⟨rfl,AM Au BH⟩ rfl
 ·refine tt ?_
  have AU:=dd h1;exact A5 (by rw [Av]; exact ⟨zo,fun x hx=>Au x (by omega)⟩) (.refl _)
def iM (P : Prop) (H0 : AA) : Ak:=fun r H'=>H'=H0∧∃ a e : Int,r=.CQ [.int .i64 a,.int .i64 e]∧(a<0↔P)
theorem M4 {P : Prop} {H0 H : AA} {a e : Int} (h : a<0↔P) (hs : H0.sub H) : Lc (iM P H0) (.CQ [.int .i64 a,.int .i64 e]) H:=⟨H0,hs,rfl,a,e,rfl,h⟩
theorem Ls (B : Nat) (f g : SF) (p : List (List Int)) (h : Z0 f g p) (H0 : AA) : CB B 241 [.agg f.cells,.agg g.cells,B5 p] H0 (iM (Vk f g p) H0):=by
 refine vg.go fun ⟨_,_,hp,_⟩=>?_
 have hl:=AZ hp;simp only [AN] at hl
 have hm:=h.sf.is.1.m
 have Tc:=h.sf.al
 have Jc:=h.sf.is.1.L5;refine tt ?_;refine AD [2,3,4] (fun k _=>[(8,some (.int .i64 (k : Int)))]) (fun k _ H=>H=H0∧∀ a,a<k→∀ e : Nat,e<(f.AJ.getD a default).length→Oy f g p a e) f.AJ.length () ⟨rfl,by simp⟩ rfl ?_
 rintro a _ H ha ⟨rfl,Au⟩;refine tt ?_;apply bk <;> intro h1
 ·have AU:=dd h1
  have w1:=ws a
  have f1:=h.sf.is.1.OH (f:=a) (by omega)
  have TJ:=h.sf.is.1.il
  have Im:=h.sf.sl
  have a1:=(h.sf.act a AU).1
  have hz:=h.sf.sz _ (BL (l:=f.A1) (i:=f.shape.AB.getD a default) (by omega));refine tt ?_;refine ⟨by omega,by omega, ?_⟩;refine AD [2,3,4,8,9,10] (fun k _=>[(11,some (.int .i64 (k : Int)))]) (fun k _ H'=>H'=H∧∀ e : Nat,e<k→Oy f g p a e) (f.AJ.getD a default).length () ⟨rfl,by simp⟩ rfl ?_
  rintro e _ H he ⟨rfl,FY⟩;refine tt ?_;refine ⟨by omega, ?_⟩;apply bk <;> intro h2
  ·have Aq:=dd h2
   have w2:=ws e
   have GX:=h.at (a:=a) (e:=e) AU (by omega);refine tt ?_;refine ⟨by omega,by omega,by omega,by omega,by omega,by omega,by omega,by omega, ?_⟩;apply bk <;> intro h3
   ·refine tt ?_
    have BH:=dd h3;exact M4 ⟨fun e=>by omega,fun hn=>absurd (hn a AU e (by omega)) BH⟩ (.refl _)
   ·refine tw w2 ?_
    have BH:=dd h3;exact A4 () (by omega) ⟨rfl,AM FY BH⟩ rfl
  ·refine tw w1 ?_
   have Aq:=dd h2;exact A4 () (by omega) ⟨rfl,AM Au fun e he=>FY e (by omega)⟩ rfl
 ·refine tt ?_
  have AU:=dd h1;exact M4 ⟨fun _ a ha e he=>Au a (by omega) e he,fun _=>by omega⟩ (.refl _)
theorem Q2 (B : Nat) (m : SM) (h : Z0 m.src m.AL m.parts) (H0 : AA) : CB B 211 [.ptr m.cells] H0 (iM (Vk m.src m.AL m.parts) H0):=by
 refine mc.go fun ⟨hp,_⟩=>?_
 have hl:=AZ (hp.ptr (c:=B5 m.parts) (by simp [SM.cells]));simp only [AN] at hl
 have hm:=h.sf.is.1.m
 have Tc:=h.sf.al
 have Jc:=h.sf.is.1.L5;refine tt ?_;refine AD [0,4,16] (fun k _=>[(17,some (.int .i64 (k : Int)))]) (fun k _ H=>H=H0∧∀ a,a<k→∀ e : Nat,e<(m.src.AJ.getD a default).length→Oy m.src m.AL m.parts a e) m.src.AJ.length () ⟨rfl,by simp⟩ rfl ?_
 rintro a _ H ha ⟨rfl,Au⟩;refine tt ?_;apply bk <;> intro h1
 ·have AU:=dd h1
  have w1:=ws a
  have a1:=(h.sf.act a (by omega)).1
  have f1:=h.sf.is.1.OH (f:=a) (by omega)
  have TJ:=h.sf.is.1.il
  have Im:=h.sf.sl
  have hz:=h.sf.sz _ (BL (l:=m.src.A1) (i:=m.src.shape.AB.getD a default) (by omega));refine tt ?_;refine ⟨by omega, ?_⟩;refine AD [0,4,5,16,17,27,28] (fun k _=>[(29,some (.int .i64 (k : Int)))]) (fun k _ H'=>H'=H∧∀ e : Nat,e<k→Oy m.src m.AL m.parts a e) (m.src.AJ.getD a default).length () ⟨rfl,by simp⟩ rfl ?_
  rintro e _ H he ⟨rfl,FY⟩;refine tt ?_;apply bk <;> intro h2
  ·have Aq:=dd h2
   have w2:=ws e
   have GX:=h.at (a:=a) (e:=e) (by omega) (by omega);refine tt ?_;refine ⟨by omega, ?_⟩;refine ⟨by omega,by omega,by omega,by omega,by omega,by omega,by omega,by omega, ?_⟩;apply bk <;> intro h3
   ·refine tt ?_
    have BH:=dd h3;exact M4 ⟨fun e=>by omega,fun hn=>absurd (hn a (by omega) e (by omega)) BH⟩ (.refl _)
   ·refine tw w2 ?_
    have BH:=dd h3;exact A4 () (by omega) ⟨rfl,AM FY BH⟩ rfl
  ·refine tw w1 ?_
   have Aq:=dd h2;exact A4 () (by omega) ⟨rfl,AM Au fun e he=>FY e (by omega)⟩ rfl
 ·refine tt ?_
  have AU:=dd h1;exact M4 ⟨fun _ a ha e he=>Au a (by omega) e he,fun _=>by omega⟩ (.refl _)
theorem J5 (B : Nat) (f g : SF) : PB B 239 [.agg f.cells,.agg g.cells] (.bool (dec (f.Is∧g.Is∧f.shape=g.shape))):=by
 refine ⟨fun H0=>pe.go fun _=>tt ?_⟩;refine (Hz B f).go fun _=>?_
 by_cases hf : f.Is
 ·rw [Av hf];refine tt ?_;refine (Hz B g).go fun _=>?_
  by_cases hg : g.Is
  ·rw [Av hg];refine tt ?_;refine (Da B f.shape g.shape).go fun _=>tt ?_;exact A5 (by congr 1; exact BJ ⟨fun h=>⟨hf,hg,h⟩,fun h=>h.2.2⟩) (.refl _)
  ·rw [Ad hg];refine tt ?_;exact A5 (by rw [Ad]; exact fun h=>hg h.2.1) (.refl _)
 ·rw [Ad hf];refine tt ?_;exact A5 (by rw [Ad]; exact fun h=>hf h.1) (.refl _)
theorem SD (B : Nat) (m : SM) : PB B 210 [.ptr m.cells] (.bool (dec m.Shape)):=by
 refine ⟨fun H0=>lj.go fun _=>tt ?_⟩;refine ⟨_,(Dj B [m.src,m.AL]).run, ?_⟩
 by_cases hf : m.src.Is∧m.AL.Is
 ·rw [Av (by simpa using hf)];refine tt ?_;refine ⟨_,(BM B m.src.shape m.AL.shape).run, ?_⟩
  by_cases he : m.src.shape=m.AL.shape
  ·rw [Av he];refine tt ?_;refine ⟨_,(cL B m (hf.1.1.sl' hf.2.1 he) hf.2.1.sz).run,tt ?_⟩;exact A5 (by congr 1; exact BJ ⟨fun h=>⟨hf.1,hf.2,he,h⟩,fun h=>h.p⟩) (.refl _)
  ·rw [Ad he];refine tt ?_;exact A5 (by rw [Ad]; exact fun h=>he h.eq) (.refl _)
 ·rw [Ad (by simpa using hf)];refine tt ?_;exact A5 (by rw [Ad]; exact fun h=>hf ⟨h.s,h.t⟩) (.refl _)
theorem DF (B : Nat) (m : SM) : PB B 105 [.ptr m.cells] (.bool (dec m.Is)):=by
 refine ⟨fun H0=>mh.go fun _=>tt ?_⟩;refine (SD B m).go fun _=>?_
 by_cases h : m.Shape
 ·rw [Av h];refine tn ?_
  refine (Q2 B m h.d H0).IG ?_
  rintro _ _ _ ⟨rfl,a,e,rfl,hk⟩;refine tt ?_;exact A5 (by rw [BK]; congr 1; exact BJ ⟨fun q=>SM.Uo.mpr ⟨h,hk.mp q⟩,fun q=>hk.mpr q.n⟩) (.refl _)
 ·rw [Ad h];refine tn ?_
  exact A5 (by rw [Ad]; exact fun q=>h (SM.Uo.mp q).1) (.refl _)
theorem Fw (B : Nat) (m : SM) : PB B 154 [.agg m.cells] (.bool (dec m.Is)):=by
 refine ⟨fun H0=>tp.go fun _=>tt ?_⟩;refine (J5 B m.src m.AL).go fun _=>?_
 by_cases hf : m.src.Is∧m.AL.Is∧m.src.shape=m.AL.shape
 ·rw [Av hf]
  obtain ⟨h1,h2,he⟩:=hf;refine tn ?_
  refine (RL B m.src m.AL m.parts (h1.1.sl' h2.1 he)).go fun _=>?_
  by_cases h : Ie m.src m.AL m.parts
  ·rw [Av h]
   have hs : m.Shape:=⟨h1,h2,he,h⟩;refine tn ?_
   refine (Ls B m.src m.AL m.parts hs.d H0).IG ?_
   rintro _ _ _ ⟨rfl,a,e,rfl,hk⟩;refine tt ?_;exact A5 (by rw [BK]; congr 1; exact BJ ⟨fun q=>SM.Uo.mpr ⟨hs,hk.mp q⟩,fun q=>hk.mpr q.n⟩) (.refl _)
  ·rw [Ad h];refine tn ?_
   exact A5 (by rw [Ad]; exact fun q=>h q.p) (.refl _)
 ·rw [Ad hf];refine tn ?_
  exact A5 (by rw [Ad]; exact fun q=>hf ⟨q.s,q.t,q.eq⟩) (.refl _)
end Go.Proofs.Shf
