/- Contracts, part 5. -/
import Derived.Test.YtphikjciekmijaaGreatF4
set_option linter.unusedVariables false
set_option linter.unusedSimpArgs false
set_option linter.unusedSectionVars false
set_option maxRecDepth 100000
open Nat (reduceEqDiff reduceAdd reduceMul reduceLeDiff reduceLT)
namespace Go.Proofs.Shf
open Go.AW Go.Proofs Go.Shf
def oa (H0 : AA) (l : Ob) : Ak:=fun r H'=>∃ (id : Nat) (out : List (List Int)),r=.buf id out.length∧out.length≤201∧A9 H0 H' ((id,.cells 1 (out.map iL) 0)::l)
theorem QN (B : Nat) {c d : Ax} (hc : c.Shape) (hd : d.Shape) {ob : List Int} (Ee : TyO c d ob) (l : Ob) (H0 : AA) : ∀ (n f : Nat) (ar : List Int) (id Eo : Nat) (out : List (List Int)) (H : AA),c.AB.length - f=n→f≤c.AB.length →
  Wl c d ob ar→out.length≤200→A9 H0 H ((id,.cells 1 (ar.map iI) 0)::(Eo,.cells 1 (out.map iL) 0)::l) →
  CB B 311 [.agg c.cells,.agg d.cells,iL ob,.buf id c.AB.length,iI f,.buf Eo out.length] H (oa H0 l):=by
 intro n
 induction n using Nat.strongRecOn with
 | _ n ih =>
 intro f ar id Eo out H hn hf t B2 o;refine qE.go fun _=>?_
 have sm:=hc.m
 have hl:=t.len
 have tl:=hc.L5;refine tt ?_;refine Am (f:=iI) o hl.symm fun H o=>tt ?_;refine Qd (fun σ H=>∃ g : Nat,f≤g∧g≤c.AB.length∧(g<c.AB.length→ar.getD g default<0)∧σ=[(2,some (iL ob)),(3,some (iL ar)),(4,some (iI g)),(5,some (.buf Eo out.length)),(6,some (.ptr c.cells)),(7,some (.ptr d.cells))]∧A9 H0 H ((Eo,.cells 1 (out.map iL) 0)::l)) ?_ ?_
 ·refine tt ?_;refine AD [2,3,5,6,7] (G:=Unit) (fun k _=>[(4,some (.int .i64 ((f+k : Nat) : Int)))]) (fun k _ H'=>H'=H) (c.AB.length - f) () rfl rfl ?_
  rintro k _ H' hk rfl;refine tt ?_
  by_cases h1 : f+k<ar.length
  ·have AU:=h1;rw [decide_eq_true h1]
   have w:=Oi (k:=f+k) (by omega);refine tt ?_;refine ⟨AU, ?_⟩
   by_cases h2 : 0≤ar.getD (f+k) default
   ·rw [decide_eq_true h2];refine tw w ?_;exact A4 () (by omega) rfl rfl
   ·rw [decide_eq_false h2];refine tt ?_;exact AX ⟨f+k,by omega,by omega,fun _=>by omega,rfl,o⟩
  ·rw [decide_eq_false h1];refine tt ?_;exact AX ⟨f+k,by omega,by omega,fun h=>by omega,rfl,o⟩
 clear o
 rintro σ H ⟨g,hfg,hg,XQ,rfl,o⟩;refine tt ?_;apply bk <;> intro h1
 ·have AU:=A6 h1;refine tt ?_;refine (CX B ar).go fun _=>tt ?_;refine Ae (f:=iL) ar o rfl rfl (by simp only [AN]; omega) fun Eo H o=>tt ?_;exact ⟨H,.refl _,Eo,_,rfl,by simp; omega,o⟩
 have AU : g<c.AB.length:=by have:=A7 h1; omega
 have LW : c.DB g:=⟨by omega,AU⟩
 have w:=ws g
 have tI:=hc.v9 LW
 have f1:=Ee.ob _ (hc.pO LW)
 have t1:=Ee.ob _ (hc.qR LW)
 have fo:=hc.pO LW
 have to:=hc.qR LW
 have ol:=Ee.len
 have i1 : 0≤ix c.AB g∧(ix c.AB g).toNat<ob.length:=⟨fo.1,by have:=fo.1; have:=fo.2; omega⟩
 have i2 : 0≤ix c.to g∧(ix c.to g).toNat<ob.length:=⟨to.1,by have:=to.1; have:=to.2; omega⟩;refine tt ?_
 (repeat (refine ⟨by first | exact AU | exact i1 | exact i2 | exact tI.2, ?_⟩))
 refine ⟨_,(Kl B d hd _ _).run, ?_⟩
 obtain ⟨hm,Zp⟩ : ∃ L,Ir d (ix ob (c.AB.getD g default)) (ix ob (c.to.getD g default))=L:=⟨_,rfl⟩;rw [Zp]
 have hmt : ∀ v,v∈hm→TV c d ob g v:=fun v hv=>TV.sC (by rw [← Zp] at hv; exact hv)
 have ET : hm.length≤40:=by
  have h5:=hd.m
  have h6 : (HU d (ix ob (c.AB.getD g default)) (ix ob (c.to.getD g default)) d.AB.length).length≤d.AB.length:=K9 _ _ _;rw [GW,Zp] at h6; omega
 refine tt ?_;refine AD [2,3,4,6,7,13] (G:=Nat × List (List Int)) (fun i g=>[(5,some (.buf g.1 g.2.length)),(14,some (.int .i64 (i : Int)))]) (fun i g H=>g.2.length≤201∧A9 H0 H ((g.1,.cells 1 (g.2.map iL) 0)::l)) hm.length (Eo,out) ⟨by simp only; omega,o⟩ rfl ?_;clear o B2
 rintro i ⟨Eo,out⟩ H hi ⟨B2,o⟩;dsimp only at B2 o;refine tt ?_
 by_cases h2 : i<hm.length
 rotate_left
 ·rw [decide_eq_false h2];refine tt ?_;exact ⟨H,.refl _,Eo,out,rfl,B2,o⟩
 have Aq : i<hm.length:=by omega
 have w2:=ws i;rw [decide_eq_true h2];refine tt ?_
 by_cases h3 : (out.length : Int)≤200
 rotate_left
 ·rw [decide_eq_false h3];refine tt ?_;exact ⟨H,.refl _,Eo,out,rfl,B2,o⟩
 rw [decide_eq_true h3];refine tt ?_;refine (FM B ar H0 H _ o).own fun Ac A H o e=>?_;rw [e] at o ⊢
 have tv:=hmt _ (AE.mpr ⟨i,Aq,rfl⟩)
 have ts:=t.set LW tv;refine tw hl ?_;refine ⟨Aq, ?_⟩;refine ⟨AU,BT (hm.getD i default) o rfl (by omega) fun H o=>?_⟩;refine tt ?_;refine (Se B hc hd ts Ac _ H0 H o).mono ?_
 rintro r H ⟨b,ar2,rfl,t2,o⟩
 cases b
 ·refine tw w2 ?_;exact A4 (Eo,out) Aq ⟨B2,o.tl⟩ rfl
 ·refine tw w ?_;refine (ih (c.AB.length - (g+1)) (by omega) (g+1) ar2 Ac Eo out H rfl (by omega) t2 (by omega) o).mono ?_
  rintro r H ⟨zf,out2,rfl,ib,o⟩;refine tw w2 ?_;exact A4 (zf,out2) Aq ⟨ib,o⟩ rfl
end Go.Proofs.Shf
namespace Go.Shf
open Go.AW
abbrev FB:=(Nat × List Int) × (Nat × List Int)
@[go_sem] def EZ (c d : Ax) (m : FB) : AV:=.agg [iI c.AF,iL c.AB,iL c.to,iL c.Ac,B5 c.comp,iI d.AF,iL d.AB,iL d.to,iL d.Ac,B5 d.comp,.buf m.1.1 m.1.2.length,.buf m.2.1 m.2.2.length]
instance (c d : Ax) : Lq 12 (EZ c d):=⟨by omega,fun _=>rfl,fun _=>rfl,fun a k hk=>by
 simp only [EZ,AV.cells,List.mem_cons,List.not_mem_nil,or_false] at hk
 rcases hk with rfl | rfl | rfl | rfl | rfl | rfl | rfl | rfl | rfl | rfl | rfl | rfl <;> rfl⟩
def Ic (ms : List FB) : List (Nat × AG):=ms.flatMap fun m=>[(m.1.1,.cells 1 (m.1.2.map iI) 0),(m.2.1,.cells 1 (m.2.2.map iI) 0)]
theorem cP (ms : List FB) (m : FB) : Ic (ms++[m])=Ic ms++[(m.1.1,.cells 1 (m.1.2.map iI) 0),(m.2.1,.cells 1 (m.2.2.map iI) 0)]:=by simp [Ic]
end Go.Shf
namespace Go.Proofs.Shf
open Go.AW Go.Proofs Go.Shf
theorem Qa (B : Nat) (l : List Int) : ID Tryz.prog B 168 [iL l] fun p X=>∃ id,X=.buf id l.length∧p=[(id,.cells 1 (l.map iI) 0)] :=
 ⟨fun H=>(FM B l H H [] (.nil H)).mono fun r H' ⟨id,A,e,o,q⟩=>by
  subst e q;exact ⟨_,⟨id,rfl,rfl⟩,o⟩⟩
theorem NS (B : Nat) (c d : Ax) (ob ar : List Int) : ID Tryz.prog B 295 [.agg c.cells,.agg d.cells,iL ob,iL ar] fun p X=>∃ i j,X=EZ c d ((i,ob),(j,ar))∧p=[(i,.cells 1 (ob.map iI) 0),(j,.cells 1 (ar.map iI) 0)]:=by
 refine ⟨fun H0=>tX.go fun _=>?_⟩
 have o : A9 H0 H0 []:=.nil _;refine tt ?_;refine nb o fun Cm H o=>tt ?_;refine ⟨_,(DI B c).run,_,(DI B d).run,tt ?_⟩;refine ((Qa B ob).run H).mono ?_
 rintro r H ⟨p,⟨i,rfl,rfl⟩,o2⟩;refine ⟨o2.sub, ?_⟩
 have o:=o.trans o2;refine tt ?_;refine ((Qa B ar).run H).mono ?_
 rintro r H ⟨p,⟨j,rfl,rfl⟩,o2⟩;refine ⟨o2.sub, ?_⟩
 have o:=o.trans o2;refine tt ?_
 have o : A9 H0 H ((Cm,.cells 12 [.int .i64 0,.A0,.A0,.A0,.A0,.int .i64 0,.A0,.A0,.A0,.A0,.A0,.A0] 0)::[(i,.cells 1 (ob.map iI) 0),(j,.cells 1 (ar.map iI) 0)]):=o.pm;refine sw o fun H o=>tt ?_;rw [o.rc 12 0 (by simp)];refine tt ?_;exact ⟨H,.refl H,_,⟨i,j,rfl,rfl⟩,o.tl⟩
def bx (ms : List FB) : Prop:=∀ m,m∈ms→m.1.2.length≤8
def SrK (c d : Ax) (H0 : AA) (l : Ob) : Ak:=fun r H'=>∃ (Eo : Nat) (ms : List FB),r=.buf Eo ms.length∧(ms.length≤201∧bx ms)∧A9 H0 H' ((Eo,.cells 12 (flat (ms.map (EZ c d))) 0)::(Ic ms++l))
theorem Uj (n : Nat) : List.replicate n (-1 : Int)++[-1]=List.replicate (n+1) (-1):=by rw [List.replicate_succ']
theorem QF (B : Nat) {c d : Ax} (hc : c.Shape) (hd : d.Shape) (l : Ob) (H0 : AA) : ∀ (n : Nat) (ob : List Int) (Io Eo : Nat) (ms : List FB) (H : AA),c.AF.toNat - ob.length=n→ob.length≤c.AF.toNat →
  (∀ x : Nat,x<ob.length→d.ES (ob.getD x default))→ms.length≤200→bx ms→A9 H0 H ((Io,.cells 1 (ob.map iI) 0)::(Eo,.cells 12 (flat (ms.map (EZ c d))) 0)::(Ic ms++l)) →
  CB B 303 [.agg c.cells,.agg d.cells,.buf Io ob.length,.buf Eo ms.length] H (SrK c d H0 l):=by
 intro n
 induction n using Nat.strongRecOn with
 | _ n ih =>
 intro ob Io Eo ms H hn KU Ee OQ V0 o;refine pV.go fun _=>?_
 have sm:=hc.m
 have so:=hc.o
 have dO:=hd.o;refine tt ?_;refine Am (f:=iI) o rfl fun H o=>tt ?_;refine (Rs B c d hc hd ob).go fun r _ ⟨b,e⟩=>?_;subst e
 cases b
 ·refine tt ?_;exact ⟨H,.refl _,Eo,ms,rfl,⟨by omega,V0⟩,o⟩
 refine tt ?_
 by_cases HO : (ob.length : Int)=c.AF
 ·rw [decide_eq_true HO]
  have tO : TyO c d ob:=⟨HO,fun x hx=>by have:=Ee x.toNat (by have:=hx.1; have:=hx.2; omega); exact this⟩;refine tt ?_;refine AP o fun ON H o=>?_
  have o : A9 H0 H ((ON,.cells 1 ((List.replicate 0 (-1 : Int)).map iI) 0)::(Eo,.cells 12 (flat (ms.map (EZ c d))) 0)::(Ic ms++l)):=o;refine tt ?_;refine AD [2,3,4,5] (G:=Nat) (fun k b=>[(9,some (.buf b k)),(10,some (.int .i64 (k : Int)))]) (fun k b H=>A9 H0 H ((b,.cells 1 ((List.replicate k (-1 : Int)).map iI) 0)::(Eo,.cells 12 (flat (ms.map (EZ c d))) 0)::(Ic ms++l))) c.AB.length ON o rfl ?_;clear o
  rintro k b H hk o
  replace o : A9 H0 H ((b,.cells 1 ((List.replicate k (-1 : Int)).map iI) 0)::(Eo,.cells 12 (flat (ms.map (EZ c d))) 0)::(Ic ms++l)):=o;refine tt ?_;apply bk <;> intro h1
  ·have AU:=A6 h1
   have w:=ws k
   have WA : (List.replicate k (-1 : Int)).length=k:=by simp
   refine tt ?_;refine Ae (-1 : Int) o rfl WA.symm (by rw [WA]; simp only [AN]; omega) fun id H o=>?_;rw [Uj] at o
   have Ce : (List.replicate k (-1 : Int)++[-1]).length=k+1:=by simp
   refine t2 w Ce ?_
   exact A4 id AU o rfl
  have AU:=A7 h1
  obtain rfl : k=c.AB.length:=by omega
  clear h1;refine tt ?_;refine AD [2,3,4,5,9] (G:=List Int) (fun x _=>[(11,some (.int .i64 (x : Int)))]) (fun x st H=>Wl c d ob st∧A9 H0 H ((b,.cells 1 (st.map iI) 0)::(Eo,.cells 12 (flat (ms.map (EZ c d))) 0)::(Ic ms++l))) ob.length (List.replicate c.AB.length (-1)) ⟨.blank,o⟩ rfl ?_;clear o
  rintro x st H hx ⟨ts,o⟩
  replace ts : Wl c d ob st:=ts
  replace o : A9 H0 H ((b,.cells 1 (st.map iI) 0)::(Eo,.cells 12 (flat (ms.map (EZ c d))) 0)::(Ic ms++l)):=o;refine tt ?_;apply bk <;> intro h1
  ·have AU:=A6 h1
   have w:=ws x
   have W8 : c.ES x:=⟨by omega,by omega⟩
   have L9:=Ee x AU
   have ii:=(hc.mZ W8).2
   have jj:=hd.mZ L9
   have ia:=(hc.idA W8).1
   have te : TV c d ob (ix c.Ac x) (ix d.Ac (ix ob x)):=TV.Ac hc hd W8 L9
   have t2:=ts.set ia te
   have ia1 : (c.Ac.getD x default).toNat<c.AB.length:=ia.2
   have ia0 : 0≤c.Ac.getD x default:=ia.1;refine tt ?_
   (repeat (refine ⟨by first | exact ii | exact AU | exact jj, ?_⟩))
   refine ⟨⟨ia0,ia1⟩,BT (ix d.Ac (ix ob x)) o rfl (by rw [ts.len]; exact ia1) fun H o=>?_⟩;refine tw w ?_;exact A4 (st.set (ix c.Ac x).toNat (ix d.Ac (ix ob x))) AU ⟨t2,o⟩ rfl
  have AU:=A7 h1;clear h1;refine tt ?_;refine AP o fun xa H o=>tt ?_;refine (QN B hc hd tO ((Eo,.cells 12 (flat (ms.map (EZ c d))) 0)::(Ic ms++l)) H0 _ 0 st b xa [] H rfl (by omega) ts (by simp) o.swap).mono ?_;clear o
  rintro r H ⟨E9,out,rfl,B2,o⟩;refine tt ?_;refine Am (f:=iL) o rfl fun H o=>tt ?_;refine AD [2,4,5,12] (G:=Nat × List FB) (fun i g=>[(3,some (.buf g.1 g.2.length)),(13,some (.int .i64 (i : Int)))]) (fun i g H=>(g.2.length≤201∧bx g.2)∧A9 H0 H ((g.1,.cells 12 (flat (g.2.map (EZ c d))) 0)::(Ic g.2++l))) out.length (Eo,ms) ⟨⟨by simp only; omega,V0⟩,o⟩ rfl ?_;clear o
  rintro i ⟨Eo,ms⟩ H hi ⟨⟨OQ,V0⟩,o⟩;dsimp only at OQ V0 o;refine tt ?_
  by_cases h2 : i<out.length
  rotate_left
  ·rw [decide_eq_false h2];refine tt ?_;exact ⟨H,.refl _,Eo,ms,rfl,⟨OQ,V0⟩,o⟩
  rw [decide_eq_true h2]
  have w2:=ws i;refine tt ?_
  by_cases h3 : (ms.length : Int)≤200
  rotate_left
  ·rw [decide_eq_false h3];refine tt ?_;exact ⟨H,.refl _,Eo,ms,rfl,⟨OQ,V0⟩,o⟩
  rw [decide_eq_true h3];refine tt ?_;refine ⟨h2, ?_⟩;refine ((NS B c d ob (out.getD i default)).run H).mono ?_
  rintro r H ⟨p,⟨u,v,rfl,rfl⟩,o2⟩;refine ⟨o2.sub, ?_⟩
  have o:=o.trans o2;refine tt ?_;refine GS (f:=EZ c d) (((u,ob),(v,out.getD i default)) : FB) (show A9 H0 H ((Eo,.cells 12 (flat (ms.map (EZ c d))) 0)::([(u,.cells 1 (ob.map iI) 0),(v,.cells 1 ((out.getD i default).map iI) 0)]++(Ic ms++l))) from o.pm) rfl rfl (by simp only [AN]; omega) fun Eo H o=>?_
  have o : A9 H0 H ((Eo,.cells 12 (flat ((ms++[((u,ob),(v,out.getD i default))]).map (EZ c d))) 0)::(Ic (ms++[((u,ob),(v,out.getD i default))])++l)):=by
   rw [cP]; exact o.pm
  refine tw w2 ?_
  exact A4 (Eo,ms++[((u,ob),(v,out.getD i default))]) h2 ⟨⟨by simp; omega,fun m hm=>by
   rcases List.mem_append.mp hm with h | h
   ·exact V0 m h
   ·obtain rfl:=List.mem_singleton.mp h
    simp only; omega⟩,o⟩ rfl
 rw [decide_eq_false HO];refine tt ?_;refine AD [2,4,5] (G:=Nat × List FB) (fun y g=>[(3,some (.buf g.1 g.2.length)),(14,some (.int .i64 (y : Int)))]) (fun y g H=>(g.2.length≤201∧bx g.2)∧A9 H0 H ((g.1,.cells 12 (flat (g.2.map (EZ c d))) 0)::(Ic g.2++l))) d.AF.toNat (Eo,ms) ⟨⟨by simp only; omega,V0⟩,o⟩ rfl ?_;clear o
 rintro y ⟨Eo,ms⟩ H hy ⟨⟨OQ,V0⟩,o⟩;dsimp only at OQ V0 o;refine tt ?_
 by_cases h2 : (y : Int)<d.AF
 rotate_left
 ·rw [decide_eq_false h2];refine tt ?_;exact ⟨H,.refl _,Eo,ms,rfl,⟨OQ,V0⟩,o⟩
 rw [decide_eq_true h2]
 have w2:=ws y;refine tt ?_
 by_cases h3 : (ms.length : Int)≤200
 rotate_left
 ·rw [decide_eq_false h3];refine tt ?_;exact ⟨H,.refl _,Eo,ms,rfl,⟨OQ,V0⟩,o⟩
 rw [decide_eq_true h3];refine tt ?_;refine ((Qa B ob).run H).mono ?_
 rintro r H ⟨p,⟨u,rfl,rfl⟩,o2⟩;refine ⟨o2.sub, ?_⟩
 have o:=o.trans o2;refine tt ?_;refine Ae (y : Int) (show A9 H0 H ((u,.cells 1 (ob.map iI) 0)::(Eo,.cells 12 (flat (ms.map (EZ c d))) 0)::(Ic ms++l)) from o) rfl rfl (by simp only [AN]; omega) fun u H o=>tt ?_;refine (ih (c.AF.toNat - (ob++[(y : Int)]).length) (by simp; omega) (ob++[(y : Int)]) u Eo ms H rfl (by simp; omega) (fun x hx=>?_) (by omega) V0 o).mono ?_
 ·by_cases h : x<ob.length
  ·have:=Ee x h
   simpa [Go.AW.gE,List.getElem?_append_left h] using this
  ·obtain rfl : x=ob.length:=by simp at hx; omega
   have : d.ES y:=⟨by omega,h2⟩
   simpa [Go.AW.gE] using this
 clear o
 rintro r H ⟨Eo,ms,rfl,OQ,o⟩;refine tw w2 ?_;exact A4 (Eo,ms) (by omega) ⟨OQ,o⟩ rfl
theorem Wq (B : Nat) {c d : Ax} (hc : c.Shape) (hd : d.Shape) (H0 : AA) : CB B 293 [.agg c.cells,.agg d.cells] H0 (SrK c d H0 []):=by
 refine vR.go fun _=>?_
 have o : A9 H0 H0 []:=.nil _;refine tt ?_;refine AP o fun CT H o=>tt ?_;refine Kt (EZ c d) o fun Cm H o=>tt ?_;refine (QF B hc hd [] H0 _ [] CT Cm [] H rfl (by simp) (fun x hx=>by simp at hx) (by simp) (fun m hm=>by simp at hm) o.swap).mono ?_
 rintro r H ⟨Eo,ms,rfl,OQ,o⟩;refine tt ?_;exact ⟨H,.refl _,Eo,ms,rfl,OQ,o⟩
end Go.Proofs.Shf
namespace Go.AW
open Go.Shf
@[go_sem] theorem gb {P : Program} {B : Nat} {d : Option Nat} {F : Env→AA→Prop} {σ : Env} {H : AA} (n : Nat) (x : X) (lo hi : Option X) : EB P B d (.gA n x lo hi) F σ H=pE d F σ H (JH n (val σ x) (lo.map (val σ)) (hi.map (val σ))):=rfl
theorem Q9 {F : Env→AA→Prop} {σ : Env} {H0 H : AA} {l : Ob} {id fr : Nat} {x : Int} {a b i d : Nat} {A C I : List Int} {D : List (List Int)}
  (o : A9 H0 H ((id,.cells 5 [iI x,.buf a A.length,.buf b C.length,.buf i I.length,.buf d D.length] fr)::(a,.cells 1 (A.map iI) 0)::(b,.cells 1 (C.map iI) 0)::(i,.cells 1 (I.map iI) 0)::(d,.cells 1 (D.map iL) 0)::l))
  (hk : ∀ H',A9 H0 H' ((id,.cells 5 (Ax.cells ⟨x,A,C,I,D⟩) fr)::l)→EX F σ H') : EX F σ H:=by
 refine B6 1 o rfl rfl fun H o=>?_;have o:=s1 o;refine B6 2 o rfl rfl fun H o=>?_;have o:=s1 o;refine B6 3 o rfl rfl fun H o=>?_;have o:=s1 o;refine B6 4 o rfl rfl fun H o=>?_;have o:=s1 o;exact hk H o
theorem EY {F : Env→AA→Prop} {σ : Env} {H0 H : AA} {l : Ob} {id fr : Nat} {x : Int} {a b i d : Nat} {A C I : List Int} {Xs : List AV} {As : List (List Int)} {ob : Ob} (h : ED iI Xs As ob)
  (o : A9 H0 H ((id,.cells 5 [iI x,.buf a A.length,.buf b C.length,.buf i I.length,.buf d Xs.length] fr)::(a,.cells 1 (A.map iI) 0)::(b,.cells 1 (C.map iI) 0)::(i,.cells 1 (I.map iI) 0)::(d,.cells 1 Xs 0)::(ob++l)))
  (hk : ∀ H',A9 H0 H' ((id,.cells 5 (Ax.cells ⟨x,A,C,I,As⟩) fr)::l)→EX F σ H') : EX F σ H:=by
 have hl:=h.len
 have od : A9 H0 H ((d,.cells 1 Xs 0)::(ob++((id,.cells 5 [iI x,.buf a A.length,.buf b C.length,.buf i I.length,.buf d Xs.length] fr)::(a,.cells 1 (A.map iI) 0)::(b,.cells 1 (C.map iI) 0)::(i,.cells 1 (I.map iI) 0)::l))):=o.pm;refine EA h [] H od fun H o=>?_;simp only [List.nil_append] at o;rw [hl] at o
 have o : A9 H0 H ((id,.cells 5 [iI x,.buf a A.length,.buf b C.length,.buf i I.length,.buf d As.length] fr)::(a,.cells 1 (A.map iI) 0)::(b,.cells 1 (C.map iI) 0)::(i,.cells 1 (I.map iI) 0)::(d,.cells 1 (As.map iL) 0)::l):=o.pm;exact Q9 o hk
theorem ED.row {α : Type} [Inhabited α] {f : α→AV} [One f] {Xs : List AV} {As : List (List α)} {ob : Ob} (h : ED f Xs As ob) {i : Nat} (hi : i<Xs.length) (hp : 0<(As.getD i []).length) :
  ∃ Bt,Xs.getD i nv=.buf Bt (As.getD i []).length∧∀ {H0 H : AA} {l : Ob} {id : Nat} {K : Ak} (o : A9 H0 H ((id,.cells 1 Xs 0)::(ob++l))) (y : Nat) (hy : y<(As.getD i []).length) (v : α) {c : AV} (hc : c=f v)
   (hk : ∀ H' ob',ED f Xs (As.set i ((As.getD i []).set y v)) ob'→A9 H0 H' ((id,.cells 1 Xs 0)::(ob'++l))→K nv H'),Ka (H.get Bt) Bt y 1 [c] K H:=by
 obtain ⟨p,r,h1,h2,h3⟩:=h.split i hi
 rcases h2 with ⟨_,_,e⟩ | ⟨Bt,rfl,e⟩
 ·rw [e] at hp; simp at hp
 ·refine ⟨Bt,e,fun {H0 H l id K} o y hy v {c} hc hk=>?_⟩
  have o1 : A9 H0 H ((Bt,.cells 1 ((As.getD i []).map f) 0)::(id,.cells 1 Xs 0)::(r++l)):=by
   refine o.perm (((List.Perm.append_right l h1).cons _).trans ?_);simp only [List.cons_append,List.nil_append];exact .swap _ _ _
  refine BT v o1 hc hy fun H' o2=>?_
  obtain ⟨o',k1,k2⟩:=h3 (.buf Bt ((As.getD i []).set y v).length) ((As.getD i []).set y v) [(Bt,.cells 1 (((As.getD i []).set y v).map f) 0)] (.inr ⟨Bt,rfl,rfl⟩)
  have e2 : Xs.set i (.buf Bt ((As.getD i []).set y v).length)=Xs:=by
   rw [List.length_set,← e];apply List.ext_getElem?
   intro j
   by_cases hj : i=j
   ·subst hj; rw [List.getElem?_set_self hi]; simp [Go.AW.gE,hi]
   ·rw [List.getElem?_set_ne hj]
  rw [e2] at k1;refine hk H' o' k1 (o2.perm ((List.Perm.swap _ _ _).trans (.cons _ ?_)))
  have:=List.Perm.append_right l k2.symm
  simpa using this
end Go.AW
namespace Go.Proofs.Shf
open Go.AW Go.Proofs Go.Shf
def b8 (r : AV) : Prop:=∃ c : Ax,r=.agg c.cells
theorem jQ (x : Int) (A C I : List Int) (D : List (List Int)) : b8 (.agg [iI x,iL A,iL C,iL I,B5 D]):=⟨⟨x,A,C,I,D⟩,rfl⟩
@[go_sem] def SR (C9 : Nat) (x : Int) (a : Nat) (A : List Int) (b : Nat) (C : List Int) (i : Nat) (I : List Int) (d : Nat) (Xs : List AV) (l : Ob) : Ob :=
 (C9,.cells 5 [iI x,.buf a A.length,.buf b C.length,.buf i I.length,.buf d Xs.length] 0)::(a,.cells 1 (A.map iI) 0)::(b,.cells 1 (C.map iI) 0)::(i,.cells 1 (I.map iI) 0)::(d,.cells 1 Xs 0)::l
theorem JP (B N : Nat) (hN : N≤65536) (c : Ax) (hc : c.Sh N) : Rd B 214 [.agg c.cells] b8:=by
 intro id s H0 H hs o;refine qJ.go fun _=>?_
 obtain ⟨cob,cil,cml,ctl,ccl,crow⟩:=hc;refine tt ?_;refine Ai o fun C9 H o=>tt ?_;refine Ai o fun B1 H o=>tt ?_;refine AO o.tl (by simp) (tt ?_);refine ID.go' (NL B c) o fun X1 p1 H ⟨a,b,i,d,Xs,ob,e1,hX,e2⟩ o _=>?_;subst e1 e2
 have Iw:=hX.len;refine tt ?_
 have o : A9 H0 H ((C9,AG.cells 5 [iI c.AF,iL c.AB,iL c.to,iL c.Ac,B5 c.comp] 0)::(a,.cells 1 (c.AB.map iI) 0)::(b,.cells 1 (c.to.map iI) 0)::(i,.cells 1 (c.Ac.map iI) 0)::(d,.cells 1 Xs 0)::(ob++[(id,s.obj),(B1,AG.cells 5 [.int .i64 0,.A0,.A0,.A0,.A0] 0)])):=o.pm;refine sw o fun H o=>tt ?_;refine AH o (by simp) (tt ?_)
 have DA : ∀ {H : AA} {s : Src} {Xs : List AV} {ob : Ob} {a b i : Nat} {A C I : List Int} {x : Int},A9 H0 H (SR C9 x a A b C i I d Xs (ob++[(id,s.obj),(B1,AG.cells 5 [.int .i64 0,.A0,.A0,.A0,.A0] 0)])) →
   A9 H0 H ((id,s.obj)::SR C9 x a A b C i I d Xs (ob++[(B1,AG.cells 5 [.int .i64 0,.A0,.A0,.A0,.A0] 0)])):=by
  intro H s Xs ob a b i A C I x o;unfold SR at o ⊢;exact o.pm
 have o:=DA (by unfold SR; exact o);unfold SR at o;refine (AY B c.AB.length).go hs o fun r s H _ ⟨f,e,hf0,R2,OU⟩ hs o=>?_;subst e
 obtain ⟨f,rfl⟩:=Int.eq_ofNat_of_zero_le hf0;refine tt ?_;refine (AY B 8).go hs o fun r s H _ ⟨v,e,_⟩ hs o=>?_;subst e;refine tt ?_;apply bk <;> intro q0
 focus
  refine tt ?_;refine AH o.tl (by simp) (tt ?_);refine (N0 B [IntKind.i64.wrap (c.AF+1),-1,9] (by simp)).go hs o fun r s H _ ⟨v,e,_⟩ hs o=>?_;subst e;refine tt ?_;refine sw o.swap fun H o=>tt ?_
  have o : A9 H0 H ((C9,.cells 5 [iI (v),.buf a (c.AB).length,.buf b (c.to).length,.buf i (c.Ac).length,.buf d (Xs).length] 0)::(a,.cells 1 ((c.AB).map iI) 0)::(b,.cells 1 ((c.to).map iI) 0)::(i,.cells 1 ((c.Ac).map iI) 0)::(d,.cells 1 (Xs) 0)::(ob++[(id,s.obj),(B1,AG.cells 5 [.int .i64 0,.A0,.A0,.A0,.A0] 0)])):=o.pm;refine EY hX o fun H o=>?_
 rotate_left 1;refine tt ?_;apply bk <;> intro q1
 focus
  refine tt ?_;refine AH o.tl (by simp) (tt ?_);refine BB _ (o.pull [_,_]) rfl rfl (by simp only [AN]; omega) fun a H A2 _ Xq o=>tt ?_;refine sw (o.pull [_,_]) fun H o=>tt ?_
  have o : A9 H0 H ((C9,.cells 5 [iI (c.AF),.buf a (A2).length,.buf b (c.to).length,.buf i (c.Ac).length,.buf d (Xs).length] 0)::(a,.cells 1 ((A2).map iI) 0)::(b,.cells 1 ((c.to).map iI) 0)::(i,.cells 1 ((c.Ac).map iI) 0)::(d,.cells 1 (Xs) 0)::(ob++[(id,s.obj),(B1,AG.cells 5 [.int .i64 0,.A0,.A0,.A0,.A0] 0)])):=o.pm;refine EY hX o fun H o=>?_
 rotate_left 1;refine tt ?_;apply bk <;> intro q2
 focus
  refine tt ?_;refine AH o.tl (by simp) (tt ?_);apply bk <;> intro g1
  focus
   have CO:=A6 g1;refine tt ?_;refine ⟨⟨_,_,o.tl.h0⟩,AH o.tl (by simp) ?_⟩;refine tt ?_;refine (AY B _).IE hs o fun r s H _ ⟨v,e,_⟩ hs o hz=>⟨hz, ?_⟩;subst e;refine tt ?_;refine ⟨by omega, ?_⟩;refine BT v (o.pull [_,_,_,_]) rfl (by omega) fun H o=>tt ?_
   have o : A9 H0 H ((C9,.cells 5 [iI (c.AF),.buf a (c.AB).length,.buf b (c.to).length,.buf i (c.Ac.set (Int.toNat 0) v).length,.buf d (Xs).length] 0)::(a,.cells 1 ((c.AB).map iI) 0)::(b,.cells 1 ((c.to).map iI) 0)::(i,.cells 1 ((c.Ac.set (Int.toNat 0) v).map iI) 0)::(d,.cells 1 (Xs) 0)::(ob++[(id,s.obj),(B1,AG.cells 5 [.int .i64 0,.A0,.A0,.A0,.A0] 0)])):=o.pm;refine EY hX o fun H o=>?_
  rotate_left 1;refine tt ?_
  have o : A9 H0 H ((C9,.cells 5 [iI (c.AF),.buf a (c.AB).length,.buf b (c.to).length,.buf i (c.Ac).length,.buf d (Xs).length] 0)::(a,.cells 1 ((c.AB).map iI) 0)::(b,.cells 1 ((c.to).map iI) 0)::(i,.cells 1 ((c.Ac).map iI) 0)::(d,.cells 1 (Xs) 0)::(ob++[(id,s.obj),(B1,AG.cells 5 [.int .i64 0,.A0,.A0,.A0,.A0] 0)])):=o.pm;refine EY hX o fun H o=>?_
 rotate_left 2;refine tt ?_;apply bk <;> intro q3
 focus
  refine tw q3 ?_;apply bk <;> intro g1
  focus
   have CO:=A6 g1
   have R2:=R2 (by omega)
   have Bf:=crow f (by omega);refine tt ?_;refine ⟨⟨_,_,o.tl.h0⟩,AH o.tl (by simp) ?_⟩;refine tt ?_;refine ⟨by omega, ?_⟩
   have od:=o.pull [_,_,_,_,_];simp only [List.cons_append,List.nil_append] at od;refine ⟨⟨_,_,od.h0⟩,AH od (by omega) ?_⟩
   obtain ⟨Bt,Ta,Td⟩:=hX.row (i:=f) (by omega) (by have : (c.comp.getD f []).length=c.AB.length:=Bf; omega);rw [Ta];refine tt ?_;refine (AY B _).IE hs o fun r s H _ ⟨v,e,Xl,C0,_⟩ hs o hz=>⟨hz, ?_⟩;subst e
   have C0:=C0 (by omega);refine tt ?_;refine (AY B _).IE hs o fun r s H _ ⟨v2,e,_⟩ hs o hz=>⟨hz, ?_⟩;subst e
   have WA : (c.comp.getD f []).length=c.AB.length:=Bf;refine tt ?_;refine ⟨by omega, ?_⟩
   have od : A9 H0 H ((d,AG.cells 1 Xs 0)::(ob++((id,s.obj)::(C9,.cells 5 [iI c.AF,.buf a c.AB.length,.buf b c.to.length,.buf i c.Ac.length,.buf d Xs.length] 0)::(a,.cells 1 (c.AB.map iI) 0)::(b,.cells 1 (c.to.map iI) 0)::(i,.cells 1 (c.Ac.map iI) 0)::[(B1,AG.cells 5 [.int .i64 0,.A0,.A0,.A0,.A0] 0)]))):=o.pm;refine Td od v.toNat (by omega) _ rfl fun H ob2 Uw o=>tt ?_
   have o : A9 H0 H ((C9,.cells 5 [iI (c.AF),.buf a (c.AB).length,.buf b (c.to).length,.buf i (c.Ac).length,.buf d (Xs).length] 0)::(a,.cells 1 ((c.AB).map iI) 0)::(b,.cells 1 ((c.to).map iI) 0)::(i,.cells 1 ((c.Ac).map iI) 0)::(d,.cells 1 (Xs) 0)::(ob2++[(id,s.obj),(B1,AG.cells 5 [.int .i64 0,.A0,.A0,.A0,.A0] 0)])):=o.pm;refine EY Uw o fun H o=>?_
  rotate_left 1;refine tt ?_
  have o : A9 H0 H ((C9,.cells 5 [iI (c.AF),.buf a (c.AB).length,.buf b (c.to).length,.buf i (c.Ac).length,.buf d (Xs).length] 0)::(a,.cells 1 ((c.AB).map iI) 0)::(b,.cells 1 ((c.to).map iI) 0)::(i,.cells 1 ((c.Ac).map iI) 0)::(d,.cells 1 (Xs) 0)::(ob++[(id,s.obj),(B1,AG.cells 5 [.int .i64 0,.A0,.A0,.A0,.A0] 0)])):=o.pm;refine EY hX o fun H o=>?_
 rotate_left 2;refine tt ?_;apply bk <;> intro q4
 focus
  refine tw q4 ?_;apply bk <;> intro g1
  focus
   have CO:=A6 g1
   have R2:=R2 (by omega)
   have Bf:=crow f (by omega);refine tt ?_;refine ⟨⟨_,_,o.tl.h0⟩,AH o.tl (by simp) ?_⟩;refine tt ?_;refine ⟨by omega, ?_⟩
   have od:=o.pull [_,_,_,_,_];simp only [List.cons_append,List.nil_append] at od;refine ⟨⟨_,_,od.h0⟩,AH od (by omega) ?_⟩
   obtain ⟨Bt,Ta,Td⟩:=hX.row (i:=f) (by omega) (by have : (c.comp.getD f []).length=c.AB.length:=Bf; omega);rw [Ta];refine tt ?_;refine (AY B _).IE hs o fun r s H _ ⟨v,e,Xl,C0,_⟩ hs o hz=>⟨hz, ?_⟩;subst e
   have C0:=C0 (by omega);refine tt ?_;refine (AY B _).IE hs o fun r s H _ ⟨v2,e,_⟩ hs o hz=>⟨hz, ?_⟩;subst e
   have WA : (c.comp.getD f []).length=c.AB.length:=Bf;refine tt ?_;refine ⟨by omega, ?_⟩
   have od : A9 H0 H ((d,AG.cells 1 Xs 0)::(ob++((id,s.obj)::(C9,.cells 5 [iI c.AF,.buf a c.AB.length,.buf b c.to.length,.buf i c.Ac.length,.buf d Xs.length] 0)::(a,.cells 1 (c.AB.map iI) 0)::(b,.cells 1 (c.to.map iI) 0)::(i,.cells 1 (c.Ac.map iI) 0)::[(B1,AG.cells 5 [.int .i64 0,.A0,.A0,.A0,.A0] 0)]))):=o.pm;refine Td od v.toNat (by omega) _ rfl fun H ob2 Uw o=>tt ?_
   have o : A9 H0 H ((C9,.cells 5 [iI (c.AF),.buf a (c.AB).length,.buf b (c.to).length,.buf i (c.Ac).length,.buf d (Xs).length] 0)::(a,.cells 1 ((c.AB).map iI) 0)::(b,.cells 1 ((c.to).map iI) 0)::(i,.cells 1 ((c.Ac).map iI) 0)::(d,.cells 1 (Xs) 0)::(ob2++[(id,s.obj),(B1,AG.cells 5 [.int .i64 0,.A0,.A0,.A0,.A0] 0)])):=o.pm;refine EY Uw o fun H o=>?_
  rotate_left 1;refine tt ?_
  have o : A9 H0 H ((C9,.cells 5 [iI (c.AF),.buf a (c.AB).length,.buf b (c.to).length,.buf i (c.Ac).length,.buf d (Xs).length] 0)::(a,.cells 1 ((c.AB).map iI) 0)::(b,.cells 1 ((c.to).map iI) 0)::(i,.cells 1 ((c.Ac).map iI) 0)::(d,.cells 1 (Xs) 0)::(ob++[(id,s.obj),(B1,AG.cells 5 [.int .i64 0,.A0,.A0,.A0,.A0] 0)])):=o.pm;refine EY hX o fun H o=>?_
 rotate_left 2;refine tt ?_;apply bk <;> intro q5
 focus
  refine tw q5 ?_;apply bk <;> intro g1
  focus
   have CO:=A6 g1
   have R2:=R2 (by omega)
   have Bf:=crow f (by omega);refine tt ?_;refine ⟨⟨_,_,o.tl.h0⟩,AH o.tl (by simp) ?_⟩;refine tt ?_;refine ⟨by omega, ?_⟩
   have od:=o.pull [_,_,_,_,_];simp only [List.cons_append,List.nil_append] at od;refine ⟨⟨_,_,od.h0⟩,AH od (by omega) ?_⟩
   obtain ⟨Bt,Ta,Td⟩:=hX.row (i:=f) (by omega) (by have : (c.comp.getD f []).length=c.AB.length:=Bf; omega);rw [Ta];refine tt ?_;refine (AY B _).IE hs o fun r s H _ ⟨v,e,Xl,C0,_⟩ hs o hz=>⟨hz, ?_⟩;subst e
   have C0:=C0 (by omega);refine tt ?_;refine (AY B _).IE hs o fun r s H _ ⟨v2,e,_⟩ hs o hz=>⟨hz, ?_⟩;subst e
   have WA : (c.comp.getD f []).length=c.AB.length:=Bf;refine tt ?_;refine ⟨by omega, ?_⟩
   have od : A9 H0 H ((d,AG.cells 1 Xs 0)::(ob++((id,s.obj)::(C9,.cells 5 [iI c.AF,.buf a c.AB.length,.buf b c.to.length,.buf i c.Ac.length,.buf d Xs.length] 0)::(a,.cells 1 (c.AB.map iI) 0)::(b,.cells 1 (c.to.map iI) 0)::(i,.cells 1 (c.Ac.map iI) 0)::[(B1,AG.cells 5 [.int .i64 0,.A0,.A0,.A0,.A0] 0)]))):=o.pm;refine Td od v.toNat (by omega) _ rfl fun H ob2 Uw o=>tt ?_
   have o : A9 H0 H ((C9,.cells 5 [iI (c.AF),.buf a (c.AB).length,.buf b (c.to).length,.buf i (c.Ac).length,.buf d (Xs).length] 0)::(a,.cells 1 ((c.AB).map iI) 0)::(b,.cells 1 ((c.to).map iI) 0)::(i,.cells 1 ((c.Ac).map iI) 0)::(d,.cells 1 (Xs) 0)::(ob2++[(id,s.obj),(B1,AG.cells 5 [.int .i64 0,.A0,.A0,.A0,.A0] 0)])):=o.pm;refine EY Uw o fun H o=>?_
  rotate_left 1;refine tt ?_
  have o : A9 H0 H ((C9,.cells 5 [iI (c.AF),.buf a (c.AB).length,.buf b (c.to).length,.buf i (c.Ac).length,.buf d (Xs).length] 0)::(a,.cells 1 ((c.AB).map iI) 0)::(b,.cells 1 ((c.to).map iI) 0)::(i,.cells 1 ((c.Ac).map iI) 0)::(d,.cells 1 (Xs) 0)::(ob++[(id,s.obj),(B1,AG.cells 5 [.int .i64 0,.A0,.A0,.A0,.A0] 0)])):=o.pm;refine EY hX o fun H o=>?_
 rotate_left 2;refine tw q5 ?_;apply bk <;> intro q6
 focus
  refine tt ?_;apply bk <;> intro g1
  focus
   have CO:=A6 g1
   have R2:=R2 (by omega);refine tt ?_;refine ⟨⟨_,_,o.tl.h0⟩,AH o.tl (by simp) ?_⟩;refine tt ?_;refine ⟨⟨_,_,o.tl.h0⟩,AH o.tl (by simp) ?_⟩;refine tt ?_;refine (AY B _).IE hs o fun r s H _ ⟨v,e,_⟩ hs o hz=>⟨hz, ?_⟩;subst e;refine tt ?_;refine ⟨by omega, ?_⟩;refine BT v (o.pull [_,_,_]) rfl (by omega) fun H o=>tt ?_
   have o : A9 H0 H ((C9,.cells 5 [iI (c.AF),.buf a (c.AB).length,.buf b (c.to.set f v).length,.buf i (c.Ac).length,.buf d (Xs).length] 0)::(a,.cells 1 ((c.AB).map iI) 0)::(b,.cells 1 ((c.to.set f v).map iI) 0)::(i,.cells 1 ((c.Ac).map iI) 0)::(d,.cells 1 (Xs) 0)::(ob++[(id,s.obj),(B1,AG.cells 5 [.int .i64 0,.A0,.A0,.A0,.A0] 0)])):=o.pm;refine EY hX o fun H o=>?_
  rotate_left 1;refine tt ?_
  have o : A9 H0 H ((C9,.cells 5 [iI (c.AF),.buf a (c.AB).length,.buf b (c.to).length,.buf i (c.Ac).length,.buf d (Xs).length] 0)::(a,.cells 1 ((c.AB).map iI) 0)::(b,.cells 1 ((c.to).map iI) 0)::(i,.cells 1 ((c.Ac).map iI) 0)::(d,.cells 1 (Xs) 0)::(ob++[(id,s.obj),(B1,AG.cells 5 [.int .i64 0,.A0,.A0,.A0,.A0] 0)])):=o.pm;refine EY hX o fun H o=>?_
 rotate_left 2;refine tt ?_
 have od : A9 H0 H ((d,AG.cells 1 Xs 0)::(ob++((id,s.obj)::(C9,.cells 5 [iI c.AF,.buf a c.AB.length,.buf b c.to.length,.buf i c.Ac.length,.buf d Xs.length] 0)::(a,.cells 1 (c.AB.map iI) 0)::(b,.cells 1 (c.to.map iI) 0)::(i,.cells 1 (c.Ac.map iI) 0)::[(B1,AG.cells 5 [.int .i64 0,.A0,.A0,.A0,.A0] 0)]))):=o.pm;refine EA hX [] H od fun H o=>AX ?_;simp only [List.nil_append] at o;refine tt ?_;apply bk <;> intro g1
 focus
  have CO:=A6 g1
  have R2:=R2 (by omega)
  have Bf:=crow f (by omega);refine tt ?_;refine ⟨⟨_,_,o.tl.tl.h0⟩,AH o.tl.tl (by simp) ?_⟩;refine tt ?_;refine ⟨⟨_,_,o.tl.tl.h0⟩,AH o.tl.tl (by simp) ?_⟩;refine tt ?_;refine ⟨by omega,⟨_,_,o.h0⟩,CI (f:=iL) o (by omega) ?_⟩;refine tt ?_;refine ⟨⟨by omega,by omega⟩,by omega, ?_⟩;refine BT (f:=iL) ((c.comp.getD f default).drop (Int.toNat 1)) o rfl (by omega) fun H o=>tt ?_
  have o : A9 H0 H ((C9,.cells 5 [iI c.AF,.buf a c.AB.length,.buf b c.to.length,.buf i c.Ac.length,.buf d (c.comp.set f ((c.comp.getD f default).drop (Int.toNat 1))).length] 0)::(a,.cells 1 (c.AB.map iI) 0)::(b,.cells 1 (c.to.map iI) 0)::(i,.cells 1 (c.Ac.map iI) 0)::(d,.cells 1 ((c.comp.set f ((c.comp.getD f default).drop (Int.toNat 1))).map iL) 0)::[(id,s.obj),(B1,AG.cells 5 [.int .i64 0,.A0,.A0,.A0,.A0] 0)]):=by
   rw [show Xs.length=c.comp.length from Iw] at o;exact o.pm
  refine Q9 o fun H o=>?_
 rotate_left 1;refine tt ?_
 have o : A9 H0 H ((C9,.cells 5 [iI c.AF,.buf a c.AB.length,.buf b c.to.length,.buf i c.Ac.length,.buf d (c.comp).length] 0)::(a,.cells 1 (c.AB.map iI) 0)::(b,.cells 1 (c.to.map iI) 0)::(i,.cells 1 (c.Ac.map iI) 0)::(d,.cells 1 ((c.comp).map iL) 0)::[(id,s.obj),(B1,AG.cells 5 [.int .i64 0,.A0,.A0,.A0,.A0] 0)]):=by
  have:=Iw;rw [show Xs.length=c.comp.length from Iw] at o;exact o.pm
 refine Q9 o fun H o=>?_
 all_goals
  refine AX ?_;refine tt ?_;refine AO o (by simp [Ax.cells]) ?_;try simp only [go_sem,↓reduceIte,reduceEqDiff,reduceAdd,reduceMul,reduceLeDiff,reduceLT,Ax.cells]
  refine sw (o.pull [_,_]) fun H o=>tt ?_
  have CG:=o.rc 5 0 (by simp);simp only [List.drop_zero] at CG;rw [CG];refine tt ?_;exact B4 (jQ _ _ _ _ _) hs (o.pull [_,_])
def np (c d : Ax) (X : AV) (p : Ob) : Prop:=∃ m : FB,X=EZ c d m∧p=Ic [m]∧m.1.2.length≤8
theorem VG : ∀ {ms : List FB} {m : FB},m∈ms→(Ic [m]).Sublist (Ic ms)
 | a::r,m,h=>by
  have e : Ic (a::r)=Ic [a]++Ic r:=by simp [Ic]
  rw [e]
  rcases List.mem_cons.mp h with rfl | h
  ·exact List.sublist_append_left _ _
  ·exact (VG h).trans (List.sublist_append_right _ _)
theorem Ps (B : Nat) {c d : Ax} (hc : c.Shape) (hd : d.Shape) {y : Int} (hy : d.ES y) : ID Tryz.prog B 294 [.agg c.cells,.agg d.cells,iI y] fun p X=>np c d X p:=by
 refine ⟨fun H0=>sP.go fun _=>?_⟩
 have so:=hc.o
 have sm:=hc.m
 have jj:=hd.mZ hy
 have o : A9 H0 H0 []:=.nil _;refine tt ?_;refine nb o fun Ba H o=>tt ?_;refine AP o fun CT H o=>tt ?_;refine AP o fun Cm H o=>tt ?_
 refine AD [2,3,4,6,8] (G:=Nat × List Int) (fun k g=>[(7,some (.buf g.1 g.2.length)),(9,some (.int .i64 (k : Int)))])
  (fun k g H=>g.2.length=k∧A9 H0 H [(g.1,.cells 1 (g.2.map iI) 0),(Cm,.cells 1 (([] : List Int).map iI) 0),(Ba,.cells 12 [.int .i64 0,.A0,.A0,.A0,.A0,.int .i64 0,.A0,.A0,.A0,.A0,.A0,.A0] 0)]) c.AF.toNat (CT,[]) ⟨rfl,o.swap⟩ rfl ?_
 clear o
 rintro k ⟨CT,out⟩ H hk ⟨hl,o⟩;dsimp only at hl o;refine tt ?_;apply bk <;> intro h1
 ·have AU:=A6 h1
  have w:=ws k;refine tt ?_;refine Ae y o rfl rfl (by simp only [AN]; omega) fun id H o=>?_;refine tw w ?_;exact A4 (id,out++[y]) (by omega) ⟨by simp [hl],o⟩ rfl
 have AU:=A7 h1;clear h1;refine tt ?_
 refine AD [2,3,4,6,7] (G:=Nat × List Int) (fun k g=>[(8,some (.buf g.1 g.2.length)),(10,some (.int .i64 (k : Int)))])
  (fun k g H=>g.2.length=k∧A9 H0 H [(g.1,.cells 1 (g.2.map iI) 0),(CT,.cells 1 (out.map iI) 0),(Ba,.cells 12 [.int .i64 0,.A0,.A0,.A0,.A0,.int .i64 0,.A0,.A0,.A0,.A0,.A0,.A0] 0)]) c.AB.length (Cm,[]) ⟨rfl,o.swap⟩ rfl ?_
 clear o
 rintro j ⟨Cm,ar⟩ H hj ⟨Ce,o⟩;dsimp only at Ce o;refine tt ?_;apply bk <;> intro h1
 ·have AU:=A6 h1
  have w:=ws j;refine tt ?_;refine ⟨jj, ?_⟩;refine Ae (ix d.Ac y) o rfl rfl (by simp only [AN]; omega) fun id H o=>?_;refine tw w ?_;exact A4 (id,ar++[ix d.Ac y]) (by omega) ⟨by simp [Ce],o⟩ rfl
 clear h1;refine tt ?_;refine Am o rfl fun H o=>tt ?_;refine Am o rfl fun H o=>tt ?_;refine ((NS B c d out ar).run H).mono ?_
 rintro r H ⟨p,⟨u,v,rfl,rfl⟩,o2⟩
 have o:=o.trans o2;refine tt ?_;refine sw (o.pull [_,_]) fun H o=>tt ?_;rw [o.rc 12 0 (by simp)];refine tt ?_;exact ⟨H,.refl H,_,⟨((u,out),(v,ar)),rfl,rfl,by simp only; omega⟩,o.tl⟩
theorem ZM (B : Nat) {c : Ax} (hc : c.Shape) : ID Tryz.prog B 273 [.agg c.cells] fun p X=>np c c X p:=by
 refine ⟨fun H0=>tV.go fun _=>?_⟩
 have so:=hc.o
 have sm:=hc.m
 have o : A9 H0 H0 []:=.nil _;refine tt ?_;refine nb o fun Ba H o=>tt ?_;refine AP o fun CT H o=>tt ?_;refine AP o fun Cm H o=>tt ?_
 refine AD [1,2,4] (G:=Nat × List Int) (fun k g=>[(3,some (.buf g.1 g.2.length)),(5,some (.int .i64 (k : Int)))])
  (fun k g H=>g.2.length=k∧A9 H0 H [(g.1,.cells 1 (g.2.map iI) 0),(Cm,.cells 1 (([] : List Int).map iI) 0),(Ba,.cells 12 [.int .i64 0,.A0,.A0,.A0,.A0,.int .i64 0,.A0,.A0,.A0,.A0,.A0,.A0] 0)]) c.AF.toNat (CT,[]) ⟨rfl,o.swap⟩ rfl ?_
 clear o
 rintro k ⟨CT,out⟩ H hk ⟨hl,o⟩;dsimp only at hl o;refine tt ?_;apply bk <;> intro h1
 ·have AU:=A6 h1
  have w:=ws k;refine tt ?_;refine Ae (k : Int) o rfl rfl (by simp only [AN]; omega) fun id H o=>?_;refine tw w ?_;exact A4 (id,out++[(k : Int)]) (by omega) ⟨by simp [hl],o⟩ rfl
 have AU:=A7 h1;clear h1;refine tt ?_
 refine AD [1,2,3] (G:=Nat × List Int) (fun k g=>[(4,some (.buf g.1 g.2.length)),(6,some (.int .i64 (k : Int)))])
  (fun k g H=>g.2.length=k∧A9 H0 H [(g.1,.cells 1 (g.2.map iI) 0),(CT,.cells 1 (out.map iI) 0),(Ba,.cells 12 [.int .i64 0,.A0,.A0,.A0,.A0,.int .i64 0,.A0,.A0,.A0,.A0,.A0,.A0] 0)]) c.AB.length (Cm,[]) ⟨rfl,o.swap⟩ rfl ?_
 clear o
 rintro j ⟨Cm,ar⟩ H hj ⟨Ce,o⟩;dsimp only at Ce o;refine tt ?_;apply bk <;> intro h1
 ·have AU:=A6 h1
  have w:=ws j;refine tt ?_;refine Ae (j : Int) o rfl rfl (by simp only [AN]; omega) fun id H o=>?_;refine tw w ?_;exact A4 (id,ar++[(j : Int)]) (by omega) ⟨by simp [Ce],o⟩ rfl
 clear h1;refine tt ?_;refine Am o rfl fun H o=>tt ?_;refine Am o rfl fun H o=>tt ?_;refine ((NS B c c out ar).run H).mono ?_
 rintro r H ⟨p,⟨u,v,rfl,rfl⟩,o2⟩
 have o:=o.trans o2;refine tt ?_;refine sw (o.pull [_,_]) fun H o=>tt ?_;rw [o.rc 12 0 (by simp)];refine tt ?_;exact ⟨H,.refl H,_,⟨((u,out),(v,ar)),rfl,rfl,by simp only; omega⟩,o.tl⟩
def Ey : List AV:=[.int .i64 0,.A0,.A0,.A0,.A0,.int .i64 0,.A0,.A0,.A0,.A0,.A0,.A0]
def ng (c : Ax) (id : Nat) (H0 : AA) (l : Ob) : Ak:=fun r H'=>∃ (d : Ax) (s' : Src) (p : Ob),(d.Sh 20000∧d.Shape)∧np c d r p∧s'.Ok∧A9 H0 H' ((id,s'.obj)::(p++l))
theorem Nb (B : Nat) {c : Ax} (Pe : c.Sh 20000) (hc : c.Shape) (mo ma : Int) (id : Nat) (s : Src) (l : Ob) (H0 H : AA) (hs : s.Ok) (o : A9 H0 H ((id,s.obj)::l)) :
  CB B 270 [.ref id 0,.agg c.cells,iI mo,iI ma] H (ng c id H0 l):=by
 refine wA.go fun _=>?_;refine tt ?_;refine nb o fun Cm H o=>tt ?_;refine (E1 B mo ma).go hs o.swap fun r s H _ ⟨d,e,ji,hd⟩ hs o=>?_;subst e;refine tt ?_;refine Ai o fun ON H o=>tt ?_;refine sw o fun H o=>?_
 have o : A9 H0 H ((ON,.cells 5 d.cells 0)::(id,s.obj)::(Cm,.cells 12 Ey 0)::l):=o;refine tt ?_
 have dO:=hd.o;refine Qd (fun σ H=>∃ s : Src,σ=[(0,some (.ref id 0)),(5,some (.ptr c.cells)),(8,some (.ref Cm 0)),(9,some (.ref ON 0))]∧s.Ok∧A9 H0 H ((id,s.obj)::(ON,.cells 5 d.cells 0)::(Cm,.cells 12 Ey 0)::l)) ?_ ?_
 ·refine tt ?_;refine AO o (by simp [Ax.cells]) (tt ?_);refine (Ro B c d hc).go fun r _ ⟨b,e⟩=>?_;subst e
  cases b
  ·refine tt ?_;exact AX ⟨s,rfl,hs,o.swap⟩
  ·refine tt ?_;refine AO o (by simp [Ax.cells]) (tt ?_);refine (Wq B hc hd H).mono ?_
   rintro r H ⟨Eo,ms,rfl,⟨OQ,V0⟩,o2⟩
   have o:=o.trans o2
   have o : A9 H0 H ((id,s.obj)::(Eo,.cells 12 (flat (ms.map (EZ c d))) 0)::(ON,.cells 5 d.cells 0)::(Cm,.cells 12 Ey 0)::(Ic ms++l)):=o.pm;refine tt ?_;apply bk <;> intro h1
   ·have AU:=A6 h1;refine tt ?_;refine (AY B _).go hs o fun r s H _ ⟨v,e,v0,v1,_⟩ hs o=>?_;subst e
    have vl : v.toNat<ms.length:=by have:=v1 (by omega); omega
    have o : A9 H0 H ((Eo,.cells 12 (flat (ms.map (EZ c d))) 0)::(id,s.obj)::(ON,.cells 5 d.cells 0)::(Cm,.cells 12 Ey 0)::(Ic ms++l)):=o.swap;refine tt ?_;refine ⟨⟨v0,vl⟩, ?_⟩;refine Ky (f:=EZ c d) o vl ?_
    have hm : ms.getD v.toNat default∈ms:=AE.mpr ⟨_,vl,rfl⟩
    generalize ms.getD v.toNat default=m at hm;refine tt ?_
    have o : A9 H0 H ((Cm,.cells 12 Ey 0)::(id,s.obj)::(Eo,.cells 12 (flat (ms.map (EZ c d))) 0)::(ON,.cells 5 d.cells 0)::(Ic ms++l)):=o.pm;refine AS o (by simp [Ey]) (by (try simp only [go_sem]); (try simp)) (by first | (simp only [go_sem]; done) | ((try simp only [go_sem]); simp [AV.one,Ay])) fun H o=>?_;unfold Ey at o;have o:=s2 o;refine tt ?_;rw [o.rc 12 0 (by simp)];refine tt ?_;exact ⟨H,.refl _,d,s,Ic [m],⟨ji,hd⟩,⟨m,rfl,rfl,V0 m hm⟩,hs,o.FL (.cons _ (.cons_cons _ (.cons _ (.cons _ (List.Sublist.append_right (VG hm) l)))))⟩
   ·refine tt ?_;exact AX ⟨s,rfl,hs,o.FL (.cons_cons _ (.cons _ (.cons_cons _ (.cons_cons _ (List.sublist_append_right _ _)))))⟩
 clear o hs
 rintro σ H ⟨s,rfl,hs,o⟩
 have PY : ∀ (s : Src) (H : AA),s.Ok→A9 H0 H ((id,s.obj)::(ON,.cells 5 d.cells 0)::(Cm,.cells 12 Ey 0)::l)→CB B 273 [.agg c.cells] H fun r H'=>∃ m : FB,r=EZ c c m∧m.1.2.length≤8∧A9 H0 H' ((Cm,.cells 12 Ey 0)::(id,s.obj)::(ON,.cells 5 d.cells 0)::(Ic [m]++l)):=fun s H hs o=>by
  refine ((ZM B hc).run H).mono ?_
  rintro r H' ⟨p,⟨m,rfl,rfl,hm⟩,o2⟩;exact ⟨m,rfl,hm,(o.trans o2).pm⟩
 refine tt ?_;refine AH o.tl (by simp [Ax.cells]) (tt ?_)
 by_cases h1 : 0<d.AF
 ·rw [decide_eq_true h1];refine tt ?_;refine (AY B 2).go hs o fun r s H _ ⟨v,e,_⟩ hs o=>?_;subst e;refine tt ?_;apply bk <;> intro h2
  ·refine tt ?_
   have g9:=o.get (ON,_) (.tail _ (.head _));refine ⟨⟨_,_,g9⟩,VZ g9 (by simp [Ax.cells]) ?_⟩;refine tt ?_;refine ⟨⟨_,_,g9⟩,Aj g9 (by simp [Ax.cells]) ?_⟩;refine tt ?_;refine (AY B d.AF).IE hs o fun r s H _ ⟨y,e,y0,y1,_⟩ hs o hz=>⟨hz, ?_⟩;subst e
   have hy : d.ES y:=⟨y0,y1 (by omega)⟩;refine tt ?_;refine ((Ps B hc hd hy).run H).mono ?_
   rintro r H' ⟨p,⟨m,rfl,rfl,hm⟩,o2⟩;refine ⟨o2.sub, ?_⟩
   have o : A9 H0 H' ((Cm,.cells 12 Ey 0)::(id,s.obj)::(ON,.cells 5 d.cells 0)::(Ic [m]++l)):=(o.trans o2).pm;refine tt ?_;refine AS o (by simp [Ey]) (by (try simp only [go_sem]); (try simp)) (by first | (simp only [go_sem]; done) | ((try simp only [go_sem]); simp [AV.one,Ay])) fun H o=>?_;unfold Ey at o;have o:=s2 o;refine tt ?_;rw [o.rc 12 0 (by simp)];refine tt ?_;exact ⟨H,.refl _,d,s,Ic [m],⟨ji,hd⟩,⟨m,rfl,rfl,hm⟩,hs,o.FL (.cons _ (.cons_cons _ (.cons _ (.refl _))))⟩
  ·refine tt ?_;refine (PY s H hs o).mono ?_;clear o
   rintro r H ⟨m,rfl,hm,o⟩;refine tt ?_;refine AS o (by simp [Ey]) (by (try simp only [go_sem]); (try simp)) (by first | (simp only [go_sem]; done) | ((try simp only [go_sem]); simp [AV.one,Ay])) fun H o=>?_;unfold Ey at o;have o:=s2 o;refine tt ?_;rw [o.rc 12 0 (by simp)];refine tt ?_;exact ⟨H,.refl _,c,s,Ic [m],⟨Pe,hc⟩,⟨m,rfl,rfl,hm⟩,hs,o.FL (.cons _ (.cons_cons _ (.cons _ (.refl _))))⟩
 ·rw [decide_eq_false h1];refine tt ?_;refine (PY s H hs o).mono ?_;clear o
  rintro r H ⟨m,rfl,hm,o⟩;refine tt ?_;refine AS o (by simp [Ey]) (by (try simp only [go_sem]); (try simp)) (by first | (simp only [go_sem]; done) | ((try simp only [go_sem]); simp [AV.one,Ay])) fun H o=>?_;unfold Ey at o;have o:=s2 o;refine tt ?_;rw [o.rc 12 0 (by simp)];refine tt ?_;exact ⟨H,.refl _,c,s,Ic [m],⟨Pe,hc⟩,⟨m,rfl,rfl,hm⟩,hs,o.FL (.cons _ (.cons_cons _ (.cons _ (.refl _))))⟩
def eP (r : AV) : Prop:=∃ k : FU,r=.agg k.cells
theorem VH (m : FB) : Ic [m]=[(m.1.1,.cells 1 (m.1.2.map iI) 0),(m.2.1,.cells 1 (m.2.2.map iI) 0)]:=by simp [Ic]
theorem eH {F : Env→AA→Prop} {σ : Env} {H0 H : AA} {l : Ob} {C9 : Nat} {e d : Ax} {m : FB} (o : A9 H0 H ((C9,.cells 12 (EZ e d m).cells 0)::(m.1.1,.cells 1 (m.1.2.map iI) 0)::(m.2.1,.cells 1 (m.2.2.map iI) 0)::l))
  (hk : ∀ H',A9 H0 H' ((C9,.cells 12 (FU.cells ⟨e,d,m.1.2,m.2.2⟩) 0)::l)→EX F σ H') : EX F σ H :=
 B6 (f:=iI) 10 o rfl rfl fun H o=>B6 (f:=iI) 11 o rfl rfl fun H o=>hk H o
def WZ (C9 : Nat) (e d : Ax) (m : FB) (l : Ob) : Ob:=(C9,.cells 12 (EZ e d m).cells 0)::(m.1.1,.cells 1 (m.1.2.map iI) 0)::(m.2.1,.cells 1 (m.2.2.map iI) 0)::l
theorem U6 (B : Nat) : Rd B 276 [] eP:=by
 intro id s H0 H hs o;refine qS.go fun _=>?_;refine tt ?_;refine nb o fun GD H o=>tt ?_;refine (E1 B 4 10).go hs o.swap fun r s H _ ⟨c,e,Pe,hc⟩ hs o=>?_;subst e;refine tt ?_;refine (Nb B Pe hc 4 12 id s _ H0 H hs o).mono ?_;clear o hs s
 rintro r H ⟨d,s,p,⟨ji,hd⟩,⟨m,rfl,rfl,ET⟩,hs,o⟩
 have hdm:=hd.m;rw [VH] at o;refine tt ?_;refine nb o fun C9 H o=>tt ?_;refine sw o fun H o=>?_
 have o : A9 H0 H ((id,s.obj)::(C9,.cells 12 (EZ c d m).cells 0)::(m.1.1,.cells 1 (m.1.2.map iI) 0)::(m.2.1,.cells 1 (m.2.2.map iI) 0)::[(GD,.cells 12 Ey 0)]):=o.swap;refine tt ?_;refine AH o.tl (by simp [EZ,AV.cells]) ?_
 have e11 : (EZ c d m).cells.getD 11 nv=.buf m.2.1 m.2.2.length:=rfl;refine tw e11 ?_;refine Qd (fun σ H=>∃ (e : Ax) (m : FB) (s : Src),σ=[(2,some (.ref GD 0)),(3,some (.ref C9 0))]∧s.Ok∧A9 H0 H (WZ C9 e d m [(GD,.cells 12 Ey 0),(id,s.obj)])) ?_ ?_
 ·refine tt ?_;refine (AY B 30).go hs o fun r s H _ ⟨v,e,_⟩ hs o=>?_;subst e;refine tt ?_;apply bk <;> intro h1
  ·refine tt ?_;refine AO o.tl (by simp [EZ,AV.cells]) ?_
   have e5 : ((EZ c d m).cells.drop 0).take 5=c.cells:=rfl;refine tw e5 ?_;refine (JP B 20000 (by omega) c Pe).go hs o fun r s H _ ⟨c2,e⟩ hs o=>?_;subst e;refine tt ?_;refine AS o.swap (by simp [EZ,AV.cells]) (by (try simp only [go_sem]); (try simp)) (by first | (simp only [go_sem]; done) | ((try simp only [go_sem]); simp [AV.one,Ay])) fun H o=>tt ?_
   have ec : wr (EZ c d m).cells 0 [iI c2.AF,iL c2.AB,iL c2.to,iL c2.Ac,B5 c2.comp]=(EZ c2 d m).cells:=by simp [EZ,AV.cells,wr]
   rw [ec] at o;exact AX ⟨c2,m,s,rfl,hs,by unfold WZ; exact o.pm⟩
  refine tt ?_;apply bk <;> intro h2
  ·refine tt ?_;apply bk <;> intro h3
   ·have BH:=A6 h3
    have w:=Oi (k:=d.AB.length) (by omega)
    have g3:=o.get (C9,_) (.tail _ (.head _))
    have e6 : (EZ c d m).cells.getD 6 nv=iL d.AB:=rfl;refine tt ?_;refine ⟨⟨_,_,g3⟩,Aj g3 (by simp [EZ,AV.cells]) ?_⟩;refine tw e11 ?_;refine ⟨⟨_,_,g3⟩,Aj g3 (by simp [EZ,AV.cells]) ?_⟩;refine t2 e6 w ?_
    refine (AY B _).IE hs o fun r s H _ ⟨u,e,u0,u1,_⟩ hs o hz=>⟨hz, ?_⟩;subst e
    have ul : u.toNat<m.2.2.length:=by have:=u1 (by omega); omega
    refine tt ?_;refine (AY B _).IE hs o fun r s H _ ⟨v2,e,_⟩ hs o hz=>⟨hz, ?_⟩;subst e;refine tt ?_
    have o : A9 H0 H ((m.2.1,.cells 1 (m.2.2.map iI) 0)::(C9,.cells 12 (EZ c d m).cells 0)::(m.1.1,.cells 1 (m.1.2.map iI) 0)::[(GD,.cells 12 Ey 0),(id,s.obj)]):=o.pm;refine ⟨⟨u0,ul⟩,BT v2 o rfl ul fun H o=>?_⟩;refine tt ?_
    have ec : (EZ c d (m.1,(m.2.1,m.2.2.set u.toNat v2))).cells=(EZ c d m).cells:=by simp [EZ,AV.cells]
    exact AX ⟨c,(m.1,(m.2.1,m.2.2.set u.toNat v2)),s,rfl,hs,by unfold WZ; rw [ec]; exact o.pm⟩
   ·refine tt ?_;exact AX ⟨c,m,s,rfl,hs,by unfold WZ; exact o.pm⟩
  ·refine tt ?_;apply bk <;> intro h3
   ·have e10 : (EZ c d m).cells.getD 10 nv=.buf m.1.1 m.1.2.length:=rfl;refine tt ?_;refine AH o.tl (by simp [EZ,AV.cells]) ?_;refine tw e10 ?_
    have o : A9 H0 H ((m.1.1,.cells 1 (m.1.2.map iI) 0)::(C9,.cells 12 (EZ c d m).cells 0)::(m.2.1,.cells 1 (m.2.2.map iI) 0)::[(GD,.cells 12 Ey 0),(id,s.obj)]):=o.pm;refine Ae (0 : Int) o rfl rfl (by have:=ET; simp only [AN]; omega) fun Ac H o=>tt ?_;refine AS o.swap (by simp [EZ,AV.cells]) (by (try simp only [go_sem]); (try simp)) (by first | (simp only [go_sem]; done) | ((try simp only [go_sem]); simp [AV.one,Ay])) fun H o=>tt ?_
    have ec : wr (EZ c d m).cells 10 [.buf Ac (m.1.2++[0]).length]=(EZ c d ((Ac,m.1.2++[0]),m.2)).cells:=by simp [EZ,AV.cells,wr]
    rw [ec] at o;exact AX ⟨c,((Ac,m.1.2++[0]),m.2),s,rfl,hs,o⟩
   ·refine tt ?_;exact AX ⟨c,m,s,rfl,hs,by unfold WZ; exact o.pm⟩
 clear o hs
 rintro σ H ⟨e,m,s,rfl,hs,o⟩;unfold WZ at o;refine tt ?_;refine eH o fun H o=>AX ?_;refine tt ?_;refine AO o (by simp [FU.cells]) (tt ?_);refine AS (o.pull [_]) (by simp [Ey]) (by (try simp only [go_sem]); (try simp)) (by first | (simp only [go_sem]; done) | ((try simp only [go_sem]); simp [AV.one,Ay])) fun H o=>?_;unfold Ey at o;have o:=s2 o;refine tt ?_;rw [o.rc 12 0 (by simp)];refine tt ?_;exact ⟨H,.refl H,⟨⟨e,d,m.1.2,m.2.2⟩,rfl⟩,s,hs,o.FL (.cons _ (.cons _ (.refl _)))⟩
theorem O5 (B : Nat) : Rd B 227 [] eP:=by
 intro id s H0 H hs o;refine pX.go fun _=>?_;refine tt ?_;refine nb o fun GD H o=>tt ?_;refine (E1 B 3 6).go hs o.swap fun r s H _ ⟨c,e,Pe,hc⟩ hs o=>?_;subst e;refine tt ?_;refine (Nb B Pe hc 3 7 id s _ H0 H hs o).mono ?_;clear o hs s
 rintro r H ⟨d,s,p,⟨ji,hd⟩,⟨m,rfl,rfl,ET⟩,hs,o⟩;rw [VH] at o;refine tt ?_;refine nb o fun C9 H o=>tt ?_;refine sw o fun H o=>?_
 have o : A9 H0 H ((id,s.obj)::(C9,.cells 12 (EZ c d m).cells 0)::(m.1.1,.cells 1 (m.1.2.map iI) 0)::(m.2.1,.cells 1 (m.2.2.map iI) 0)::[(GD,.cells 12 Ey 0)]):=o.swap;refine tt ?_;refine (AY B 24).go hs o fun r s H _ ⟨v,e,_⟩ hs o=>?_;subst e;refine tt ?_;apply bk <;> intro h1
 ·refine tt ?_;refine (U6 B).go hs o fun r s H _ ⟨k,e⟩ hs o=>?_;subst e;refine tt ?_;refine AS (o.pull [_,_,_,_]) (by simp [Ey]) (by (try simp only [go_sem]); (try simp)) (by first | (simp only [go_sem]; done) | ((try simp only [go_sem]); simp [AV.one,Ay])) fun H o=>?_;unfold Ey at o;have o:=s2 o;refine tt ?_;rw [o.rc 12 0 (by simp)];refine tt ?_;exact B4 ⟨k,rfl⟩ hs o.swap
 ·refine tt ?_
  have o : A9 H0 H ((C9,.cells 12 (EZ c d m).cells 0)::(m.1.1,.cells 1 (m.1.2.map iI) 0)::(m.2.1,.cells 1 (m.2.2.map iI) 0)::[(GD,.cells 12 Ey 0),(id,s.obj)]):=o.pm;refine eH o fun H o=>AX ?_;refine tt ?_;refine AO o (by simp [FU.cells]) (tt ?_);refine AS (o.pull [_]) (by simp [Ey]) (by (try simp only [go_sem]); (try simp)) (by first | (simp only [go_sem]; done) | ((try simp only [go_sem]); simp [AV.one,Ay])) fun H o=>?_;unfold Ey at o;have o:=s2 o;refine tt ?_;rw [o.rc 12 0 (by simp)];refine tt ?_;exact ⟨H,.refl H,⟨⟨c,d,m.1.2,m.2.2⟩,rfl⟩,s,hs,o.FL (.cons _ (.cons _ (.refl _)))⟩
theorem P2 (B : Nat) {c : Ax} (hc : c.Shape) {a b : Int} (ha : c.DB a) (hb : c.DB b) : PB B 98 [.agg c.cells,iI a,iI b] (iI (ix (ix c.comp a) b)):=by
 refine ⟨fun H0=>c98.go fun _=>?_⟩
 have ci:=hc.oA ha
 have cj : (ix c.comp a).length=c.AB.length:=hc.nA ha
 have cj2 : 0≤b∧b.toNat<(ix c.comp a).length:=⟨hb.1,by rw [cj]; exact hb.2⟩;refine tt ?_;refine ⟨ci,cj2, ?_⟩;exact A5 rfl (.refl _)
theorem Vs (B : Nat) {c : Ax} (hc : c.Shape) {a b : Int} (ha : c.DB a) (hb : c.DB b) : PB B 91 [.ptr c.cells,iI a,iI b] (iI (ix (ix c.comp a) b)):=by
 refine ⟨fun H0=>c91.go fun _=>?_⟩
 have ci:=hc.oA ha
 have cj : (ix c.comp a).length=c.AB.length:=hc.nA ha
 have cj2 : 0≤b∧b.toNat<(ix c.comp a).length:=⟨hb.1,by rw [cj]; exact hb.2⟩;refine tt ?_;refine ⟨ci,cj2, ?_⟩;exact A5 rfl (.refl _)
theorem JQ (k : FU) (hk : k.AL.Shape) (y : Int) (x : Nat) : (Gi k y x).length≤40:=by
 have h6 : (HU k.AL y (ix k.ob x) k.AL.AB.length).length≤k.AL.AB.length:=K9 _ _ _;rw [GW] at h6
 have:=hk.m;rw [Gi,List.length_map]; omega
theorem FH (k : FU) (hk : k.AL.Shape) (y : Int) : ∀ n,(FG k y n).length≤40*n
 | 0=>by simp [FG]
 | n+1=>by
  have:=FH k hk y n
  have:=JQ k hk y n;rw [I9,List.length_append]; omega
theorem Hm (B : Nat) (k : FU) (hk : k.Is) (y : Int) : PB B 232 [.agg k.cells,iI y] (B5 (AK k y)):=by
 refine ⟨fun H0=>mu.go fun _=>?_⟩
 have so:=hk.sI.1.o
 have o : A9 H0 H0 []:=.nil _;refine tt ?_;refine Az iL o fun id H o=>tt ?_;refine AD [1,2] (G:=Nat × List (List Int)) (fun n g=>[(5,some (.buf g.1 g.2.length)),(6,some (.int .i64 (n : Int)))]) (fun n g H=>g.2=FG k y n∧A9 H0 H [(g.1,.cells 1 (g.2.map iL) 0)]) k.src.AF.toNat (id,[]) ⟨rfl,o⟩ rfl ?_;clear o
 rintro n ⟨id,out⟩ H hn ⟨B2,o⟩;dsimp only at B2 o
 have KU : out.length≤40*n:=by rw [B2]; exact FH k hk.tI.1 y n
 refine tt ?_;apply bk <;> intro h1
 ·have AU:=A6 h1
  have w:=ws n
  have xo:=hk.JD (x:=(n : Int)) ⟨by omega,AU⟩
  have xo1 : n<k.ob.length:=by have:=xo.1; omega
  refine tt ?_;refine ⟨xo1, ?_⟩;refine ⟨_,(Kl B k.AL hk.tI.1 _ _).run, ?_⟩
  obtain ⟨hm,Zp⟩ : ∃ L,Ir k.AL y (k.ob.getD n default)=L:=⟨_,rfl⟩
  have xJ : Gi k y n=hm.map fun h=>[(n : Int),h]:=by rw [← Zp]; rfl
  have ET : hm.length≤40:=by have:=JQ k hk.tI.1 y n; rw [xJ,List.length_map] at this; exact this
  rw [Zp];refine tt ?_;refine AD [1,2,6,7] (G:=Nat × List (List Int)) (fun j g=>[(5,some (.buf g.1 g.2.length)),(8,some (.int .i64 (j : Int)))]) (fun j g H=>g.2=out++(hm.take j).map (fun h=>[(n : Int),h])∧A9 H0 H [(g.1,.cells 1 (g.2.map iL) 0)]) hm.length (id,out) ⟨by simp,o⟩ rfl ?_;clear o
  rintro j ⟨id,out2⟩ H hj ⟨FZ,o⟩;dsimp only at FZ o;refine tt ?_;apply bk <;> intro h2
  ·have Aq:=A6 h2
   have w2:=ws j;refine tt ?_;refine ⟨Aq, ?_⟩;refine Ae (f:=iL) [(n : Int),hm.getD j default] o rfl rfl (by rw [FZ,List.length_append,List.length_map,List.length_take]; simp only [AN]; omega) fun id H o=>?_;refine tw w2 ?_;exact A4 (id,out2++[[(n : Int),hm.getD j default]]) Aq ⟨by rw [FZ,Ar _ Aq,List.map_append,List.append_assoc]; rfl,o⟩ rfl
  ·have Aq:=A7 h2
   have ej : hm.take j=hm:=List.take_of_length_le (by omega);refine tw w ?_;exact A4 (id,out2) (by omega) ⟨by rw [FZ,ej,← xJ,B2,I9],o⟩ rfl
 ·have AU:=A7 h1
  obtain rfl : n=k.src.AF.toNat:=by omega
  refine tt ?_;refine Am (f:=iL) o rfl fun H o=>tt ?_;exact A5 (by rw [B2]; rfl) o.sub
theorem Qv (B : Nat) (L : List (List Int)) (i : Nat) (hL : ∀ l,l∈L→i<l.length) (hl : L.length≤1000000) : PB B 280 [B5 L,iI i] (iL (L.map fun l=>l.getD i default)):=by
 refine ⟨fun H0=>qm.go fun _=>?_⟩
 have o : A9 H0 H0 []:=.nil _;refine tt ?_;refine Az iI o fun id H o=>tt ?_;refine AD [0,1] (G:=Nat × List Int) (fun n g=>[(5,some (.buf g.1 g.2.length)),(6,some (.int .i64 (n : Int)))]) (fun n g H=>g.2=(L.take n).map (fun l=>l.getD i default)∧A9 H0 H [(g.1,.cells 1 (g.2.map iI) 0)]) L.length (id,[]) ⟨by simp,o⟩ rfl ?_;clear o
 rintro n ⟨id,out⟩ H hn ⟨B2,o⟩;dsimp only at B2 o;refine tt ?_;apply bk <;> intro h1
 ·have AU:=A6 h1
  have w:=ws n
  have hb:=hL _ (AE.mpr ⟨n,AU,rfl⟩);refine tt ?_;refine ⟨AU,hb, ?_⟩;refine Ae ((L.getD n default).getD i default) o rfl rfl (by rw [B2,List.length_map,List.length_take]; simp only [AN]; omega) fun id H o=>?_;refine tw w ?_;exact A4 (id,out++[(L.getD n default).getD i default]) AU ⟨by rw [B2,Ar _ AU,List.map_append]; rfl,o⟩ rfl
 ·have AU:=A7 h1;refine tt ?_;refine Am o rfl fun H o=>tt ?_;exact A5 (by rw [B2,List.take_of_length_le (by omega)]) o.sub
theorem Fx (k : FU) (S : List (List Int)) (n : Nat) : Bc k S (n+1)=Bc k S n++(outs k.src ((S.getD n default).getD 0 default)).map (FC k S n):=by rw [Bc,List.range_succ,List.flatMap_append]; simp [Bc]
theorem Gd (k : FU) (hk : k.src.Shape) (S : List (List Int)) : ∀ n,(Bc k S n).length≤40*n
 | 0=>by simp [Bc]
 | n+1=>by
  have:=Gd k hk S n
  have h1 : (outs k.src ((S.getD n default).getD 0 default)).length≤k.src.AB.length:=by rw [IY]; exact IA _ _
  have:=hk.m;rw [Fx,List.length_append,List.length_map]; omega
theorem T8 (B : Nat) (k : FU) (hk : k.Is) (y : Int) : PB B 281 [.agg k.cells,B5 (AK k y)] (B5 (DS k y)):=by
 refine ⟨fun H0=>qj.go fun _=>?_⟩
 have so:=hk.sI.1.o
 have sm:=hk.sI.1.m
 have Im : (AK k y).length≤40*k.src.AF.toNat:=FH k hk.tI.1 y _
 have o : A9 H0 H0 []:=.nil _;refine tt ?_;refine Az iL o fun id H o=>tt ?_;refine AD [1,2] (G:=Nat × List (List Int)) (fun n g=>[(5,some (.buf g.1 g.2.length)),(6,some (.int .i64 (n : Int)))]) (fun n g H=>g.2=Bc k (AK k y) n∧A9 H0 H [(g.1,.cells 1 (g.2.map iL) 0)]) (AK k y).length (id,[]) ⟨rfl,o⟩ rfl ?_;clear o
 rintro n ⟨id,out⟩ H hn ⟨B2,o⟩;dsimp only at B2 o
 have KU : out.length≤40*n:=by rw [B2]; exact Gd k hk.sI.1 _ n
 refine tt ?_;apply bk <;> intro h1
 ·have AU:=A6 h1
  have w:=ws n
  have sk:=FW (k:=k) (y:=y) AU
  have sl:=sk.len
  obtain ⟨s,hs⟩ : ∃ s,(AK k y).getD n default=s:=⟨_,rfl⟩;rw [hs] at sk sl;refine tt ?_;refine AD [1,2,6] (G:=Nat × List (List Int)) (fun a g=>[(5,some (.buf g.1 g.2.length)),(7,some (.int .i64 (a : Int)))]) (fun a g H=>g.2=out++(GI (fun i=>decide (k.src.AB.getD i default=s.getD 0 default)) a).map (FC k (AK k y) n)∧A9 H0 H [(g.1,.cells 1 (g.2.map iL) 0)]) k.src.AB.length (id,out) ⟨by simp,o⟩ rfl ?_;clear o
  rintro a ⟨id,out2⟩ H ha ⟨FZ,o⟩;dsimp only at FZ o;refine tt ?_;apply bk <;> intro h2
  ·have Aq:=A6 h2
   have w2:=ws a
   have Ke : k.src.DB a:=⟨by omega,Aq⟩;refine tt ?_;refine ⟨Aq,AU, ?_⟩;rw [hs];refine ⟨by omega, ?_⟩
   by_cases e : k.src.AB.getD a default=s.getD 0 default
   ·rw [decide_eq_true (show k.src.AB.getD a default=ix s 0 from e)]
    have tI:=hk.sI.1.v9 Ke
    have aI:=hk.Md (a:=(a : Int)) Ke
    have aI1 : a<k.ar.length:=by have:=aI.1; omega
    have en:=hk.H4 (a:=(a : Int)) Ke;refine tt ?_;refine ⟨tI.2,AU, ?_⟩;rw [hs];refine ⟨by omega,aI1, ?_⟩;refine ⟨_,(P2 B hk.tI.1 sk.h ⟨aI.2.1,aI.2.2⟩).run,tt ?_⟩;refine ⟨_,(F8 B (AK k y) (BV k s (a : Int))).run,tt ?_⟩;refine Ae (f:=iL) (FC k (AK k y) n (a : Int)) o (by rw [FC,hs]; rfl) rfl (by rw [FZ,List.length_append,List.length_map]; have:=IA (fun i=>decide (k.src.AB.getD i default=s.getD 0 default)) a; simp only [AN]; omega) fun id H o=>?_;refine tw w2 ?_;exact A4 (id,out2++[FC k (AK k y) n (a : Int)]) Aq ⟨by rw [FZ,YP (decide_eq_true e),List.map_append,List.append_assoc]; rfl,o⟩ rfl
   ·rw [decide_eq_false (show ¬ k.src.AB.getD a default=ix s 0 from e)];refine tw w2 ?_;exact A4 (id,out2) Aq ⟨by rw [FZ,UI (decide_eq_false e)],o⟩ rfl
  ·have Aq:=A7 h2
   obtain rfl : a=k.src.AB.length:=by omega
   refine tw w ?_;exact A4 (id,out2) AU ⟨by rw [FZ,B2,Fx,hs,IY],o⟩ rfl
 ·have AU:=A7 h1
  obtain rfl : n=(AK k y).length:=by omega
  refine tt ?_;refine Am (f:=iL) o rfl fun H o=>tt ?_;exact A5 (by rw [B2]; rfl) o.sub
end Go.Proofs.Shf
namespace Go.Shf
open Go.AW
section
variable {k : FU} {f : SF} {y : Int}
theorem kH {j : Nat} (h : j<(DS k y).length) : ∃ i a,i<(AK k y).length∧k.src.DB a∧ix k.src.AB a=((AK k y).getD i default).getD 0 default∧(DS k y).getD j default=FC k (AK k y) i a:=K4.mp (AE.mpr ⟨j,h,rfl⟩)
theorem ZB : (Ek k f y).length=(DS k y).length:=by simp [Ek]
theorem VU {j : Nat} (h : j<(DS k y).length) : (Ek k f y).getD j default=EE f (Cy k f y) ((DS k y).getD j default):=BC _ h
end
end Go.Shf
namespace Go.Proofs.Shf
open Go.AW Go.Proofs Go.Shf
theorem Up (B : Nat) {k : FU} {f : SF} (hk : k.Is) (hf : f.Is) (sh : f.shape=k.src) {y : Int} (hs : (AK k y).length≤64) :
  PB B 279 [.agg f.cells,iL ((AK k y).map fun l=>l.getD 0 default),B5 (DS k y)] (B5 ((Ap k f y).take 17)):=by
 refine ⟨fun H0=>vQ.go fun _=>?_⟩
 have GC:=Q4 hk hf sh (y:=y)
 have WA : (DS k y).length≤40*(AK k y).length:=Gd k hk.sI.1 _ _
 have Tb:=hf.1.sl
 have Nk:=hf.1.al;rw [sh] at Tb Nk
 obtain ⟨O,hO⟩ : ∃ O,((AK k y).map fun l=>l.getD 0 default)=O:=⟨_,rfl⟩
 have hOl : O.length=(AK k y).length:=by rw [← hO]; simp
 have xG : ∀ i,i<O.length→O.getD i default=((AK k y).getD i default).getD 0 default:=fun i hi=>by rw [← hO]; exact BC _ (by omega)
 rw [hO]
 have o : A9 H0 H0 []:=.nil _;refine tt ?_;refine AP o fun C9 H o=>tt ?_;refine Kt TX o fun B1 H o=>?_
 have o : A9 H0 H [(B1,.cells 4 (flat (([] : List Lk).map TX)) 0),(C9,.cells 1 (((Cy k f y).take 0).map iI) 0)]:=o;refine tt ?_
 refine AD [1,2,3,8] (G:=Nat) (fun n b=>[(7,some (.buf b n)),(9,some (.int .i64 (n : Int)))])
  (fun n b H=>A9 H0 H [(b,.cells 1 (((Cy k f y).take n).map iI) 0),(B1,.cells 4 (flat (([] : List Lk).map TX)) 0)]) O.length C9 o.swap rfl ?_
 clear o
 rintro n b H hn o
 replace o : A9 H0 H [(b,.cells 1 (((Cy k f y).take n).map iI) 0),(B1,.cells 4 (flat (([] : List Lk).map TX)) 0)]:=o
 have kZ:=Dp (k:=k) (f:=f) (y:=y);refine tt ?_;apply bk <;> intro h1
 ·have AU:=A6 h1
  have w:=ws n
  have sk:=(FW (k:=k) (y:=y) (i:=n) (by omega)).x;rw [← xG n AU] at sk
  have hx : 0≤O.getD n default∧(O.getD n default).toNat<f.A1.length:=⟨sk.1,by have:=sk.1; have:=sk.2; omega⟩
  have hl : ((Cy k f y).take n).length=n:=by rw [List.length_take]; omega
  have et:=Ar (Cy k f y) (k:=n) (by omega);rw [Ho (by omega),← xG n AU] at et;refine tt ?_;refine ⟨AU,hx, ?_⟩;refine Ae (ix f.A1 (O.getD n default)) o rfl hl.symm (by rw [hl]; simp only [AN]; omega) fun id H o=>?_;rw [← et] at o
  have Ce : ∀ z : Int,(((Cy k f y).take n)++[z]).length=n+1:=fun z=>by simp [hl]
  refine t2 w Ce ?_
  exact A4 id AU o rfl
 have AU:=A7 h1
 obtain rfl : n=O.length:=by omega
 have M0 : (Cy k f y).take O.length=Cy k f y:=List.take_of_length_le (by omega);rw [M0] at o;clear h1;refine tt ?_;refine Am (f:=iI) o (by omega) fun H o=>tt ?_
 have o : A9 H0 H [(B1,.cells 4 (flat (((Ek k f y).take 0).map TX)) 0)]:=o;refine AD [2,3,7] (G:=Nat) (fun n b=>[(8,some (.buf b n)),(10,some (.int .i64 (n : Int)))]) (fun j b4 H=>A9 H0 H [(b4,.cells 4 (flat (((Ek k f y).take j).map TX)) 0)]) (DS k y).length B1 o rfl ?_;clear o
 rintro j b4 H hj o
 replace o : A9 H0 H [(b4,.cells 4 (flat (((Ek k f y).take j).map TX)) 0)]:=o
 have TY:=ZB (k:=k) (f:=f) (y:=y);refine tt ?_;apply bk <;> intro h1
 ·have AU:=A6 h1
  have w:=ws j
  obtain ⟨i,a,hi,ha,e,er⟩:=kH (k:=k) (y:=y) AU
  have ti:=Kz hk hi ha e
  have xE:=GC.ok.right _ (AE.mpr ⟨j,by omega,rfl⟩ : (Ek k f y).getD j default∈Ek k f y)
  have et:=Ar (Ek k f y) (k:=j) (by omega);rw [VU AU,er] at et;rw [VU AU,er] at xE
  have hl : ((Ek k f y).take j).length=j:=by rw [List.length_take]; omega
  obtain ⟨J,hJ⟩ : ∃ J,indexOf (AK k y) (BV k ((AK k y).getD i default) a)=J:=⟨_,rfl⟩
  have Bf : FC k (AK k y) i a=[(i : Int),a,J]:=by rw [FC,hJ]
  rw [Bf] at er et xE;rw [hJ] at ti
  have aX : 0≤a∧a.toNat<f.AJ.length:=⟨ha.1,by rw [Nk]; exact ha.2⟩
  have hJ2 : 0≤J∧J.toNat<(Cy k f y).length:=⟨ti.1.1,by rw [kZ]; exact ti.1.2⟩
  have hJz : 0≤ix (Cy k f y) J∧ix (Cy k f y) J≤4096:=GC.ok.sz _ (BL hJ2.2)
  obtain ⟨z,hz⟩ : ∃ z : Nat,ix (Cy k f y) J=z:=⟨_,(Int.toNat_of_nonneg hJz.1).symm⟩
  have q0 : (0 : Int)≤0∧Int.toNat 0<((DS k y).getD j default).length:=by rw [er]; exact ⟨by decide,by simp⟩
  have q1 : (0 : Int)≤1∧Int.toNat 1<((DS k y).getD j default).length:=by rw [er]; exact ⟨by decide,by simp⟩
  have q2 : (0 : Int)≤2∧Int.toNat 2<((DS k y).getD j default).length:=by rw [er]; exact ⟨by decide,by simp⟩
  have v1 : 0≤ix ((DS k y).getD j default) 1∧(ix ((DS k y).getD j default) 1).toNat<f.AJ.length:=by rw [er]; exact aX
  have v2 : 0≤ix ((DS k y).getD j default) 2∧(ix ((DS k y).getD j default) 2).toNat<(Cy k f y).length:=by rw [er]; exact hJ2
  have yo : BG (ix (Cy k f y) J)=(List.range z).map Int.ofNat:=by rw [hz]; rfl
  refine tt ?_
  (repeat (refine ⟨by first | exact AU | exact q0 | exact q1 | exact q2 | exact v1 | exact v2, ?_⟩))
  rw [er]
  have e0 : ix [(i : Int),a,J] 0=i:=rfl
  have e1 : ix [(i : Int),a,J] 1=a:=rfl
  have e2 : ix [(i : Int),a,J] 2=J:=rfl;rw [e2,hz];refine ⟨_,(Sp B z (by omega)).run, ?_⟩;try simp only [go_sem,↓reduceIte,reduceEqDiff,reduceAdd,reduceMul,reduceLeDiff,reduceLT,e0,e1,e2]
  refine GS (f:=TX) (EE f (Cy k f y) [(i : Int),a,J]) o (by show _=TX ⟨(i : Int),J,ix f.AJ a,BG (ix (Cy k f y) J)⟩; rw [yo]; rfl) hl.symm (by rw [hl]; simp only [AN]; omega) fun id H o=>?_;rw [← et] at o
  have Ce : ∀ z : Lk,((Ek k f y).take j++[z]).length=j+1:=fun z=>by simp [hl]
  refine t2 w Ce ?_
  exact A4 id AU o rfl
 have AU:=A7 h1
 have haa : (Ek k f y).take j=Ek k f y:=List.take_of_length_le (by omega);rw [haa] at o;clear h1;refine tt ?_;refine Qr (f:=TX) o (by omega) fun H o=>tt ?_;refine (S7 B (Cy k f y) (Ek k f y) 17 (by omega) (by omega) GC.ok (by omega) (by omega)).go fun _=>tt ?_;exact A5 rfl o.sub
theorem Sd (B : Nat) {k : FU} {f : SF} (hk : k.Is) (hf : f.Is) (sh : f.shape=k.src) {y : Int} (hs : (AK k y).length≤64) : PB B 233 [.agg k.cells,.agg f.cells,iI y] (B5 ((Ap k f y).take 17)):=by
 refine ⟨fun H0=>qz.go fun _=>tt ?_⟩;refine (Hm B k hk y).go fun _=>tt ?_;refine ⟨_,(Qv B (AK k y) 0 (fun l hl=>by rw [(Ci hl).len]; omega) (by omega)).run,tt ?_⟩;refine ⟨_,(T8 B k hk y).run,tt ?_⟩;refine ⟨_,(Up B hk hf sh hs).run,tt ?_⟩;exact A5 rfl (.refl _)
def rC (d : Ax) (X5 X6 X7 X8 : AV) (b : Bool) : List AV:=[iI d.AF,iL d.AB,iL d.to,iL d.Ac,B5 d.comp,X5,X6,X7,X8,.bool b]
theorem uF {d : Ax} {X5 X6 X7 X8 Y : AV} {b : Bool} : wr (rC d X5 X6 X7 X8 b) 5 [Y]=rC d Y X6 X7 X8 b:=rfl
theorem vX {d : Ax} {X5 X6 X7 X8 Y : AV} {b : Bool} : wr (rC d X5 X6 X7 X8 b) 6 [Y]=rC d X5 Y X7 X8 b:=rfl
theorem H6 {d : Ax} {X5 X6 X7 X8 : AV} {b : Bool} (h5 : X5.one=true) (h6 : X6.one=true) (h7 : X7.one=true) (h8 : X8.one=true) : ∀ c,c∈rC d X5 X6 X7 X8 b→c.one=true:=by
 intro c hc;simp only [rC,List.mem_cons,List.not_mem_nil,or_false] at hc
 rcases hc with rfl | rfl | rfl | rfl | rfl | rfl | rfl | rfl | rfl | rfl <;> first | rfl | assumption
def HW : List AV:=[.int .i64 0,.A0,.A0,.A0,.A0,.A0,.A0,.A0,.A0,.bool false]
theorem UM {F : Env→AA→Prop} {σ : Env} {H0 H : AA} {l : Ob} {Ba : Nat} {d : Ax} {X5 X6 X7 X8 : AV} {b : Bool} {p7 p8 : Ob} {S L : List (List (List Int))} (h7 : Lp B5 p7 X7 S) (h8 : Lp B5 p8 X8 L)
  (o : A9 H0 H ((Ba,.cells 10 (rC d X5 X6 X7 X8 b) 0)::(p7++(p8++l)))) (hk : ∀ H',A9 H0 H' ((Ba,.cells 10 (rC d X5 X6 (BE S) (BE L) b) 0)::l)→EX F σ H') : EX F σ H :=
 FK (f:=B5) 7 (CP.mk (p:=p7) (o.perm (by have:=List.perm_middle (a:=(Ba,AG.cells 10 (rC d X5 X6 X7 X8 b) 0)) (l₁:=p7) (l₂:=p8++l); exact this.symm)) h7) rfl fun H o =>
  FK (f:=B5) 8 (CP.mk (p:=p8) (o.perm (by exact (List.perm_middle).symm)) h8) rfl fun H o=>hk H o
theorem Ts {F : Env→AA→Prop} {σ : Env} {H0 H : AA} {l : Ob} {Ba b5 n5 : Nat} {d : Ax} {X6 X7 X8 : AV} {b : Bool} {p6 : Ob} {Z : List Int} {A : List (List Int)} (h6 : Lp iL p6 X6 A)
  (o : A9 H0 H ((Ba,.cells 10 (rC d (.buf b5 n5) X6 X7 X8 b) 0)::(b5,.cells 1 (Z.map iI) 0)::(p6++l))) (hn : n5=Z.length) (hk : ∀ H',A9 H0 H' ((Ba,.cells 10 (rC d (iL Z) (B5 A) X7 X8 b) 0)::l)→EX F σ H') : EX F σ H :=
 B6 (f:=iI) 5 o rfl hn fun H o =>
  FK (f:=iL) 6 (CP.mk (p:=p6) (o.perm (by exact (List.perm_middle).symm)) h6) rfl fun H o=>hk H o
noncomputable def CD (k : FU) (f : SF) (n : Nat) : List Int:=(List.range n).map fun y : Nat=>((Ap k f y).length : Int)
def BR (k : FU) (n : Nat) : List (List (List Int)):=(List.range n).map fun y : Nat=>AK k y
noncomputable def Bi (k : FU) (f : SF) (n : Nat) : List (List (List Int)):=(List.range n).map fun y : Nat=>Ap k f y
noncomputable def Gy (k : FU) (f : SF) (n : Nat) : List (List Int):=(List.range n).map fun b : Nat=>Ff k f b
theorem OX (k : FU) (f : SF) (n : Nat) : CD k f (n+1)=CD k f n++[((Ap k f n).length : Int)]:=by simp [CD,List.range_succ]
theorem Ws (k : FU) (n : Nat) : BR k (n+1)=BR k n++[AK k n]:=by simp [BR,List.range_succ]
theorem WD (k : FU) (f : SF) (n : Nat) : Bi k f (n+1)=Bi k f n++[Ap k f n]:=by simp [Bi,List.range_succ]
theorem P9 (k : FU) (f : SF) (n : Nat) : Gy k f (n+1)=Gy k f n++[Ff k f n]:=by simp [Gy,List.range_succ]
def kM (k : FU) (f : SF) (r : AV) : Prop:=(G8 k f→r=.agg (rC k.AL (iL (Bl k f).A1) (B5 (Bl k f).AJ) (BE (BR k k.AL.AF.toNat)) (BE (Bi k f k.AL.AF.toNat)) true)) ∧
 (¬ G8 k f→∃ Z A S L,r=.agg (rC k.AL (iL Z) (B5 A) (BE S) (BE L) false))
theorem Hs (B : Nat) {k : FU} {f : SF} (hk : k.Is) (hf : f.Is) (sh : f.shape=k.src) : Dt B 143 [.agg k.cells,.agg f.cells] (kM k f):=by
 intro H0;refine qG.go fun _=>?_
 have so:=hk.tI.1.o
 have sm:=hk.tI.1.m
 have o : A9 H0 H0 []:=.nil _;refine tt ?_;refine nb o fun B1 H o=>tt ?_;refine Ai o fun Bv H o=>tt ?_;refine sw o fun H o=>tt ?_
 have o : A9 H0 H [(Bv,.cells 5 k.AL.cells 0),(B1,.cells 10 HW 0)]:=o;refine AO o (by simp [Ax.cells]) (tt ?_);refine (DI B k.AL).go fun _=>tt ?_;refine AP o fun b5 H o=>tt ?_;refine AP o fun b6 H o=>tt ?_;refine nb o fun Ba H o=>tt ?_;refine sw o fun H o=>?_
 have o : A9 H0 H ((Ba,.cells 10 (rC k.AL (.buf b5 0) (.buf b6 0) .A0 .A0 true) 0)::(b6,.cells 1 (([] : List (List Int)).map iL) 0)::(b5,.cells 1 ((CD k f 0).map iI) 0)::[(Bv,.cells 5 k.AL.cells 0),(B1,.cells 10 HW 0)]):=o;refine tt ?_
 refine AD [2,3,4,5,6] (G:=Nat × (AV × Ob) × (AV × Ob)) (fun n _=>[(7,some (.int .i64 (n : Int)))])
  (fun n g H=>(∀ y : Nat,y<n→(AK k y).length≤64∧(Ap k f y).length≤16)∧Lp B5 g.2.1.2 g.2.1.1 (BR k n)∧Lp B5 g.2.2.2 g.2.2.1 (Bi k f n) ∧
   A9 H0 H ((Ba,.cells 10 (rC k.AL (.buf g.1 n) (.buf b6 0) g.2.1.1 g.2.2.1 true) 0)::(Bv,.cells 5 k.AL.cells 0)::(g.1,.cells 1 ((CD k f n).map iI) 0)::(g.2.1.2++(g.2.2.2++[(b6,.cells 1 (([] : List (List Int)).map iL) 0),(B1,.cells 10 HW 0)]))))
  k.AL.AF.toNat (b5,(.A0,[]),(.A0,[])) ⟨fun y hy=>by omega,.inl ⟨rfl,rfl,rfl⟩,.inl ⟨rfl,rfl,rfl⟩,o.pm⟩ rfl ?_
 clear o
 rintro n ⟨b5,⟨X7,p7⟩,⟨X8,p8⟩⟩ H hn ⟨KX,h7,h8,o⟩;dsimp only at h7 h8 o
 have CW : (CD k f n).length=n:=by simp [CD]
 refine tt ?_;refine AH o.tl (by simp [Ax.cells]) (tt ?_);apply bk <;> intro h1
 rotate_left
 ·have AU:=A7 h1
  obtain rfl : n=k.AL.AF.toNat:=by omega
  have fit : G8 k f:=fun y hy=>by
   have:=KX y.toNat (by have:=hy.1; have:=hy.2; omega)
   rwa [Int.toNat_of_nonneg hy.1] at this
  obtain ⟨N,hN⟩ : ∃ N,k.AL.AF.toNat=N:=⟨_,rfl⟩;rw [hN] at o h7 h8 CW;clear h1 KX hn;refine tt ?_;refine Ca 5 (o.swap) rfl fun H o=>?_;refine UM h7 h8 (o.perm (show List.Perm _ ((Ba,.cells 10 (rC k.AL (.buf b5 N) (.buf b6 0) X7 X8 true) 0)::(p7++(p8++((b5,.cells 1 ((CD k f N).map iI) 0)::[(b6,.cells 1 (([] : List (List Int)).map iL) 0),(B1,.cells 10 HW 0)])))) from (NU fun x=>by (try dsimp only); simp only [List.append_eq,List.count_append,List.count_cons,List.count_nil,List.map_nil,List.length_nil,List.length_append,List.length_cons,List.length_set,Nat.zero_add,List.nil_append,iI,iL]; omega))) fun H o=>AX ?_
  have hS : ∀ y,k.AL.ES y→(0≤y∧y.toNat<(BR k N).length)∧(BR k N).getD y.toNat default=AK k y:=fun y hy=>by
   have h1:=hy.1
   have h2 : y.toNat<N:=by have:=hy.2; omega
   refine ⟨⟨h1,by simpa [BR] using h2⟩, ?_⟩;rw [BR,Ab _ _ h2,Int.toNat_of_nonneg h1]
  have hL : ∀ y,k.AL.ES y→(0≤y∧y.toNat<(Bi k f N).length)∧(Bi k f N).getD y.toNat default=Ap k f y:=fun y hy=>by
   have h1:=hy.1
   have h2 : y.toNat<N:=by have:=hy.2; omega
   refine ⟨⟨h1,by simpa [Bi] using h2⟩, ?_⟩;rw [Bi,Ab _ _ h2,Int.toNat_of_nonneg h1]
  clear h7 h8;refine tt ?_;refine AD [4,5,6] (G:=AV × Ob) (fun b _=>[(9,some (.int .i64 (b : Int)))]) (fun b g H=>Lp iL g.2 g.1 (Gy k f b)∧A9 H0 H ((Ba,.cells 10 (rC k.AL (.buf b5 N) g.1 (BE (BR k N)) (BE (Bi k f N)) true) 0)::(b5,.cells 1 ((CD k f N).map iI) 0)::(g.2++[(B1,.cells 10 HW 0)]))) k.AL.AB.length (.buf b6 0,[(b6,.cells 1 (([] : List (List Int)).map iL) 0)]) ⟨.inr ⟨b6,rfl,rfl⟩,o⟩ rfl ?_;clear o
  rintro b ⟨X6,p6⟩ H hb ⟨h6,o⟩;dsimp only at h6 o
  have f7 : (rC k.AL (.buf b5 N) X6 (BE (BR k N)) (BE (Bi k f N)) true).getD 7 nv=BE (BR k N):=rfl
  have f8 : (rC k.AL (.buf b5 N) X6 (BE (BR k N)) (BE (Bi k f N)) true).getD 8 nv=BE (Bi k f N):=rfl
  have Tc : (Gy k f b).length=b:=by simp [Gy]
  refine tt ?_;apply bk <;> intro h1
  rotate_left
  ·have AU:=A7 h1
   obtain rfl : b=k.AL.AB.length:=by omega
   refine tt ?_;refine Ts h6 o CW.symm fun H o=>AX ?_;refine tt ?_;refine AO o (by simp [rC]) ?_;rw [show ((rC k.AL (iL (CD k f N)) (B5 (Gy k f k.AL.AB.length)) (BE (BR k N)) (BE (Bi k f N)) true).drop 0).take 10=rC k.AL (iL (CD k f N)) (B5 (Gy k f k.AL.AB.length)) (BE (BR k N)) (BE (Bi k f N)) true from rfl];refine tt ?_;refine AS (o.pull [_]) (by simp [HW]) rfl (H6 rfl rfl rfl rfl) fun H o=>?_;rw [show wr HW 0 (rC k.AL (iL (CD k f N)) (B5 (Gy k f k.AL.AB.length)) (BE (BR k N)) (BE (Bi k f N)) true)=rC k.AL (iL (CD k f N)) (B5 (Gy k f k.AL.AB.length)) (BE (BR k N)) (BE (Bi k f N)) true from rfl] at o;refine tt ?_;rw [o.rc 10 0 (by simp [rC])];refine tt ?_;refine B0 ⟨fun _=>?_,fun hh=>absurd fit hh⟩ o.sub;subst hN
   rfl
  have AU:=A6 h1
  have w:=ws b
  have OM : k.AL.DB b:=⟨by omega,AU⟩
  have tI:=hk.tI.1.v9 OM
  have fo:=hk.tI.1.pO OM
  have to:=hk.tI.1.qR OM
  have Sf:=hS _ fo
  have St:=hS _ to
  have Lf:=hL _ fo
  have Lt:=hL _ to
  have tI2 : b<k.AL.to.length:=by have:=tI.2; simpa using this
  have l9:=(fit _ fo).2
  have Td:=(fit _ to).1;refine tt ?_;refine ⟨AU,tI2,tt ?_⟩;refine AP o fun b12 H o=>?_
  have o : A9 H0 H ((b12,.cells 1 ((((Ap k f (ix k.AL.AB b)).take 0).map fun t=>indexOf (Ap k f (ix k.AL.to b)) (Fc k t b)).map iI) 0)::(Ba,.cells 10 (rC k.AL (.buf b5 N) X6 (BE (BR k N)) (BE (Bi k f N)) true) 0)::(b5,.cells 1 ((CD k f N).map iI) 0)::(p6++[(B1,.cells 10 HW 0)])):=o;refine tt ?_
  refine AD [4,5,6,9,10,11] (G:=Nat) (fun i b12=>[(12,some (.buf b12 i)),(13,some (.int .i64 (i : Int)))])
   (fun i b12 H=>A9 H0 H ((b12,.cells 1 ((((Ap k f (ix k.AL.AB b)).take i).map fun t=>indexOf (Ap k f (ix k.AL.to b)) (Fc k t b)).map iI) 0)::(Ba,.cells 10 (rC k.AL (.buf b5 N) X6 (BE (BR k N)) (BE (Bi k f N)) true) 0)::(b5,.cells 1 ((CD k f N).map iI) 0)::(p6++[(B1,.cells 10 HW 0)]))) (Ap k f (ix k.AL.AB b)).length b12 o rfl ?_
  clear o
  rintro i b12 H hi o
  replace o : A9 H0 H ((b12,.cells 1 ((((Ap k f (ix k.AL.AB b)).take i).map fun t=>indexOf (Ap k f (ix k.AL.to b)) (Fc k t b)).map iI) 0)::(Ba,.cells 10 (rC k.AL (.buf b5 N) X6 (BE (BR k N)) (BE (Bi k f N)) true) 0)::(b5,.cells 1 ((CD k f N).map iI) 0)::(p6++[(B1,.cells 10 HW 0)])):=o
  have KU : ((((Ap k f (ix k.AL.AB b)).take i).map fun t=>indexOf (Ap k f (ix k.AL.to b)) (Fc k t b))).length=i:=by rw [List.length_map,List.length_take]; omega
  refine tt ?_;refine AH o.tl (by simp [rC]) ?_;rw [f8];refine tt ?_;refine ⟨Lf.1, ?_⟩
  have eLf : ix (Bi k f N) (k.AL.AB.getD b default)=Ap k f (ix k.AL.AB b):=Lf.2
  have eLt : ix (Bi k f N) (k.AL.to.getD b default)=Ap k f (ix k.AL.to b):=Lt.2
  have eSf : ix (BR k N) (k.AL.AB.getD b default)=AK k (ix k.AL.AB b):=Sf.2
  have eSt : ix (BR k N) (k.AL.to.getD b default)=AK k (ix k.AL.to b):=St.2;rw [eLf];apply bk <;> intro h2
  rotate_left
  ·have Aq:=A7 h2
   have ei : (Ap k f (ix k.AL.AB b)).take i=Ap k f (ix k.AL.AB b):=List.take_of_length_le (by omega);rw [ei] at o KU;refine tt ?_;refine Am (f:=iI) o KU.symm fun H o=>tt ?_;refine AH o (by simp [rC]) ?_
   have f6 : (rC k.AL (.buf b5 N) X6 (BE (BR k N)) (BE (Bi k f N)) true).getD 6 nv=X6:=rfl;refine tw f6 ?_;refine (CP.mk (p:=p6) (l:=(Ba,.cells 10 (rC k.AL (.buf b5 N) X6 (BE (BR k N)) (BE (Bi k f N)) true) 0)::(b5,.cells 1 ((CD k f N).map iI) 0)::[(B1,.cells 10 HW 0)]) (o.pm) h6).app (Ff k f b) rfl (by simp only [AN]; omega) fun i6 H o=>tt ?_;refine AS o.swap (by simp [rC]) (by (try simp only [go_sem]); (try simp)) (by first | (simp only [go_sem]; done) | ((try simp only [go_sem]); simp [AV.one,Ay])) fun H o=>?_;rw [vX,← P9] at o;refine tw w ?_;refine A4 (.buf i6 (Gy k f (b+1)).length,[(i6,.cells 1 ((Gy k f (b+1)).map iL) 0)]) AU ⟨.inr ⟨i6,rfl,rfl⟩, ?_⟩ rfl;exact o.perm (show List.Perm _ ((Ba,.cells 10 (rC k.AL (.buf b5 N) (.buf i6 (Gy k f (b+1)).length) (BE (BR k N)) (BE (Bi k f N)) true) 0)::(b5,.cells 1 ((CD k f N).map iI) 0)::([(i6,.cells 1 ((Gy k f (b+1)).map iL) 0)]++[(B1,.cells 10 HW 0)])) from (NU fun x=>by (try dsimp only); simp only [List.append_eq,List.count_append,List.count_cons,List.count_nil,List.map_nil,List.length_nil,List.length_append,List.length_cons,List.length_set,Nat.zero_add,List.nil_append,iI,iL]; omega))
  have Aq:=A6 h2
  have w2:=ws i
  obtain ⟨t,ht⟩ : ∃ t,(Ap k f (ix k.AL.AB b)).getD i default=t:=⟨_,rfl⟩
  have Jc : t.length=(AK k (ix k.AL.AB b)).length:=GH hk hf sh (by rw [← ht]; exact AE.mpr ⟨i,Aq,rfl⟩);refine tt ?_;refine AP o fun b14 H o=>?_
  have o : A9 H0 H ((b14,.cells 1 ((((AK k (ix k.AL.to b)).take 0).map fun s=>ix t (indexOf (AK k (ix k.AL.AB b)) (BP k b s))).map iI) 0)::(b12,.cells 1 ((((Ap k f (ix k.AL.AB b)).take i).map fun t=>indexOf (Ap k f (ix k.AL.to b)) (Fc k t b)).map iI) 0)::(Ba,.cells 10 (rC k.AL (.buf b5 N) X6 (BE (BR k N)) (BE (Bi k f N)) true) 0)::(b5,.cells 1 ((CD k f N).map iI) 0)::(p6++[(B1,.cells 10 HW 0)])):=o;refine tt ?_
  refine AD [4,5,6,9,10,11,12,13] (G:=Nat) (fun j b14=>[(14,some (.buf b14 j)),(15,some (.int .i64 (j : Int)))])
   (fun j b14 H=>A9 H0 H ((b14,.cells 1 ((((AK k (ix k.AL.to b)).take j).map fun s=>ix t (indexOf (AK k (ix k.AL.AB b)) (BP k b s))).map iI) 0)::(b12,.cells 1 ((((Ap k f (ix k.AL.AB b)).take i).map fun t=>indexOf (Ap k f (ix k.AL.to b)) (Fc k t b)).map iI) 0)::(Ba,.cells 10 (rC k.AL (.buf b5 N) X6 (BE (BR k N)) (BE (Bi k f N)) true) 0)::(b5,.cells 1 ((CD k f N).map iI) 0)::(p6++[(B1,.cells 10 HW 0)]))) (AK k (ix k.AL.to b)).length b14 o rfl ?_
  clear o
  rintro j b14 H hj o
  replace o : A9 H0 H ((b14,.cells 1 ((((AK k (ix k.AL.to b)).take j).map fun s=>ix t (indexOf (AK k (ix k.AL.AB b)) (BP k b s))).map iI) 0)::(b12,.cells 1 ((((Ap k f (ix k.AL.AB b)).take i).map fun t=>indexOf (Ap k f (ix k.AL.to b)) (Fc k t b)).map iI) 0)::(Ba,.cells 10 (rC k.AL (.buf b5 N) X6 (BE (BR k N)) (BE (Bi k f N)) true) 0)::(b5,.cells 1 ((CD k f N).map iI) 0)::(p6++[(B1,.cells 10 HW 0)])):=o
  have Fb : (((AK k (ix k.AL.to b)).take j).map fun s=>ix t (indexOf (AK k (ix k.AL.AB b)) (BP k b s))).length=j:=by rw [List.length_map,List.length_take]; omega
  refine tt ?_;refine AH o.tl.tl (by simp [rC]) ?_;rw [f7];refine tt ?_;refine ⟨St.1, ?_⟩;rw [eSt];apply bk <;> intro h3
  rotate_left
  ·have BH:=A7 h3
   have ej : (AK k (ix k.AL.to b)).take j=AK k (ix k.AL.to b):=List.take_of_length_le (by omega);rw [ej] at o Fb;refine tt ?_;refine Am (f:=iI) o Fb.symm fun H o=>tt ?_;refine AH o.tl (by simp [rC]) ?_;rw [f8];refine tt ?_;refine ⟨Lt.1, ?_⟩;rw [eLt];refine tt ?_;refine (F8 B (Ap k f (ix k.AL.to b)) (Fc k t b)).go fun _=>tt ?_;refine Ae (indexOf (Ap k f (ix k.AL.to b)) (Fc k t b)) o rfl KU.symm (by rw [KU]; simp only [AN]; omega) fun b12 H o=>?_
   have Ce : ∀ z : Int,((((Ap k f (ix k.AL.AB b)).take i).map fun t=>indexOf (Ap k f (ix k.AL.to b)) (Fc k t b))++[z]).length=i+1:=fun z=>by simp [KU]; omega
   rw [Ce];refine tw w2 ?_
   have et : (((Ap k f (ix k.AL.AB b)).take (i+1)).map fun t=>indexOf (Ap k f (ix k.AL.to b)) (Fc k t b))=(((Ap k f (ix k.AL.AB b)).take i).map fun t=>indexOf (Ap k f (ix k.AL.to b)) (Fc k t b))++[indexOf (Ap k f (ix k.AL.to b)) (Fc k t b)]:=by rw [Ar _ Aq,List.map_append,ht]; rfl
   rw [← et] at o;exact A4 b12 Aq o rfl
  have BH:=A6 h3
  have w3:=ws j
  obtain ⟨s,hs⟩ : ∃ s,(AK k (ix k.AL.to b)).getD j default=s:=⟨_,rfl⟩
  have sk : DN k (ix k.AL.to b) s:=by rw [← hs]; exact FW BH
  have bi:=Yn hk OM sk;refine tt ?_;refine AH o.tl.tl (by simp [rC]) ?_;rw [f7];refine tt ?_;refine ⟨St.1, ?_⟩;rw [eSt];refine tt ?_;refine ⟨BH, ?_⟩;rw [show (AK k (k.AL.to.getD b default)).getD j default=s from hs]
  have g6:=o.tl.tl.h0;refine tt ?_;refine ⟨⟨_,_,g6⟩,Aj g6 (by simp [rC]) ?_⟩;rw [f8];refine tt ?_;refine ⟨Lf.1, ?_⟩;rw [eLf];refine tt ?_;refine ⟨Aq, ?_⟩;rw [show (Ap k f (k.AL.AB.getD b default)).getD i default=t from ht];refine tt ?_;refine ⟨⟨_,_,g6⟩,Aj g6 (by simp [rC]) ?_⟩;rw [f7];refine tt ?_;refine ⟨Sf.1, ?_⟩;rw [eSf]
  have sl:=sk.len
  have sl0 : (0 : Int)≤0∧Int.toNat 0<s.length:=⟨by decide,by rw [sl]; decide⟩
  have sl1 : (0 : Int)≤1∧Int.toNat 1<s.length:=⟨by decide,by rw [sl]; decide⟩;refine tt ?_;refine ⟨sl0,tt ?_⟩;refine ⟨sl1,tt ?_⟩;refine ⟨_,(P2 B hk.tI.1 OM sk.h).run,tt ?_⟩;refine ⟨_,(F8 B (AK k (ix k.AL.AB b)) (BP k b s)).run,tt ?_⟩;refine ⟨⟨bi.1,by rw [Jc]; exact bi.2⟩,tt ?_⟩;refine Ae (ix t (indexOf (AK k (ix k.AL.AB b)) (BP k b s))) o rfl Fb.symm (by rw [Fb]; simp only [AN]; omega) fun b14 H o=>?_
  have jf : ∀ z : Int,((((AK k (ix k.AL.to b)).take j).map fun s=>ix t (indexOf (AK k (ix k.AL.AB b)) (BP k b s)))++[z]).length=j+1:=fun z=>by simp [Fb]; omega
  rw [jf];refine tw w3 ?_
  have et : (((AK k (ix k.AL.to b)).take (j+1)).map fun s=>ix t (indexOf (AK k (ix k.AL.AB b)) (BP k b s)))=(((AK k (ix k.AL.to b)).take j).map fun s=>ix t (indexOf (AK k (ix k.AL.AB b)) (BP k b s)))++[ix t (indexOf (AK k (ix k.AL.AB b)) (BP k b s))]:=by rw [Ar _ BH,List.map_append,hs]; rfl
  rw [← et] at o;exact A4 b14 BH o rfl
 have AU:=A6 h1
 have w:=ws n
 have L9 : k.AL.ES n:=⟨by omega,AU⟩;refine tt ?_;refine (Hm B k hk n).go fun _=>tt ?_;apply bk <;> intro h2
 ·have Aq:=A6 h2
  have Ea : ¬ G8 k f:=fun hh=>by have:=(hh n L9).1; omega
  refine tt ?_;refine AS o (by simp [rC]) (by (try simp only [go_sem]); (try simp)) (by first | (simp only [go_sem]; done) | ((try simp only [go_sem]); simp [AV.one,Ay])) fun H o=>?_
  have ew : wr (rC k.AL (.buf b5 n) (.buf b6 0) X7 X8 true) 9 [.bool false]=rC k.AL (.buf b5 n) (.buf b6 0) X7 X8 false:=rfl;rw [ew] at o;refine tt ?_;refine Ts (p6:=[(b6,.cells 1 (([] : List (List Int)).map iL) 0)]) (A:=[]) (Z:=CD k f n) (.inr ⟨b6,rfl,rfl⟩) (o.perm (show List.Perm _ ((Ba,.cells 10 (rC k.AL (.buf b5 n) (.buf b6 0) X7 X8 false) 0)::(b5,.cells 1 ((CD k f n).map iI) 0)::([(b6,.cells 1 (([] : List (List Int)).map iL) 0)]++(p7++(p8++[(Bv,.cells 5 k.AL.cells 0),(B1,.cells 10 HW 0)])))) from (NU fun x=>by (try dsimp only); simp only [List.append_eq,List.count_append,List.count_cons,List.count_nil,List.map_nil,List.length_nil,List.length_append,List.length_cons,List.length_set,Nat.zero_add,List.nil_append,iI,iL]; omega))) CW.symm fun H o=>?_;refine UM h7 h8 o fun H o=>AX ?_;refine tt ?_;refine AO o (by simp [rC]) ?_;rw [show ((rC k.AL (iL (CD k f n)) (B5 []) (BE (BR k n)) (BE (Bi k f n)) false).drop 0).take 10=rC k.AL (iL (CD k f n)) (B5 []) (BE (BR k n)) (BE (Bi k f n)) false from rfl];refine tt ?_;refine AS (o.pull [_,_]) (by simp [HW]) rfl (H6 rfl rfl rfl rfl) fun H o=>?_;rw [show wr HW 0 (rC k.AL (iL (CD k f n)) (B5 []) (BE (BR k n)) (BE (Bi k f n)) false)=rC k.AL (iL (CD k f n)) (B5 []) (BE (BR k n)) (BE (Bi k f n)) false from rfl] at o;refine tt ?_;rw [o.rc 10 0 (by simp [rC])];refine tt ?_;exact B0 ⟨fun hh=>absurd hh Ea,fun _=>⟨_,_,_,_,rfl⟩⟩ o.sub
 have Aq:=A7 h2;refine tt ?_;refine (Sd B hk hf sh (by omega)).go fun _=>?_
 obtain ⟨m,hm⟩ : ∃ m,((Ap k f n).take 17).length=m:=⟨_,rfl⟩
 have yU:=hm;rw [List.length_take] at yU;refine tw hm ?_;apply bk <;> intro h3
 ·have BH:=A6 h3
  have Ea : ¬ G8 k f:=fun hh=>by have:=(hh n L9).2; omega
  refine tt ?_;refine AS o (by simp [rC]) (by (try simp only [go_sem]); (try simp)) (by first | (simp only [go_sem]; done) | ((try simp only [go_sem]); simp [AV.one,Ay])) fun H o=>?_
  have ew : wr (rC k.AL (.buf b5 n) (.buf b6 0) X7 X8 true) 9 [.bool false]=rC k.AL (.buf b5 n) (.buf b6 0) X7 X8 false:=rfl;rw [ew] at o;refine tt ?_;refine Ts (p6:=[(b6,.cells 1 (([] : List (List Int)).map iL) 0)]) (A:=[]) (Z:=CD k f n) (.inr ⟨b6,rfl,rfl⟩) (o.perm (show List.Perm _ ((Ba,.cells 10 (rC k.AL (.buf b5 n) (.buf b6 0) X7 X8 false) 0)::(b5,.cells 1 ((CD k f n).map iI) 0)::([(b6,.cells 1 (([] : List (List Int)).map iL) 0)]++(p7++(p8++[(Bv,.cells 5 k.AL.cells 0),(B1,.cells 10 HW 0)])))) from (NU fun x=>by (try dsimp only); simp only [List.append_eq,List.count_append,List.count_cons,List.count_nil,List.map_nil,List.length_nil,List.length_append,List.length_cons,List.length_set,Nat.zero_add,List.nil_append,iI,iL]; omega))) CW.symm fun H o=>?_;refine UM h7 h8 o fun H o=>AX ?_;refine tt ?_;refine AO o (by simp [rC]) ?_;rw [show ((rC k.AL (iL (CD k f n)) (B5 []) (BE (BR k n)) (BE (Bi k f n)) false).drop 0).take 10=rC k.AL (iL (CD k f n)) (B5 []) (BE (BR k n)) (BE (Bi k f n)) false from rfl];refine tt ?_;refine AS (o.pull [_,_]) (by simp [HW]) rfl (H6 rfl rfl rfl rfl) fun H o=>?_;rw [show wr HW 0 (rC k.AL (iL (CD k f n)) (B5 []) (BE (BR k n)) (BE (Bi k f n)) false)=rC k.AL (iL (CD k f n)) (B5 []) (BE (BR k n)) (BE (Bi k f n)) false from rfl] at o;refine tt ?_;rw [o.rc 10 0 (by simp [rC])];refine tt ?_;exact B0 ⟨fun hh=>absurd hh Ea,fun _=>⟨_,_,_,_,rfl⟩⟩ o.sub
 have BH:=A7 h3
 have hl : (Ap k f n).length≤16:=by omega
 rw [List.take_of_length_le (by omega)]
 have g6:=o.h0
 have e7 : (rC k.AL (.buf b5 n) (.buf b6 0) X7 X8 true).getD 7 nv=X7:=rfl;refine tt ?_;refine ⟨⟨_,_,g6⟩,Aj g6 (by simp [rC]) ?_⟩;refine tw e7 ?_;refine ⟨_,(Hm B k hk n).run,tt ?_⟩
 have h7l : (BR k n).length=n:=by simp [BR]
 have h8l : (Bi k f n).length=n:=by simp [Bi]
 refine (CP.mk (p:=p7) (l:=(Ba,.cells 10 (rC k.AL (.buf b5 n) (.buf b6 0) X7 X8 true) 0)::(Bv,.cells 5 k.AL.cells 0)::(b5,.cells 1 ((CD k f n).map iI) 0)::(p8++[(b6,.cells 1 (([] : List (List Int)).map iL) 0),(B1,.cells 10 HW 0)])) (o.pm) h7).app (AK k n) rfl (by simp only [AN]; omega) fun i7 H o=>tt ?_;refine AS o.swap (by simp [rC]) (by (try simp only [go_sem]); (try simp)) (by first | (simp only [go_sem]; done) | ((try simp only [go_sem]); simp [AV.one,Ay])) fun H o=>?_
 have ew : wr (rC k.AL (.buf b5 n) (.buf b6 0) X7 X8 true) 7 [.buf i7 (BR k n++[AK k n]).length]=rC k.AL (.buf b5 n) (.buf b6 0) (.buf i7 (BR k n++[AK k n]).length) X8 true:=rfl;rw [ew,← Ws] at o;refine tt ?_;refine AH o (by simp [rC]) ?_
 have e8 : (rC k.AL (.buf b5 n) (.buf b6 0) (.buf i7 (BR k (n+1)).length) X8 true).getD 8 nv=X8:=rfl;refine tw e8 ?_;refine (CP.mk (p:=p8) (l:=(Ba,.cells 10 (rC k.AL (.buf b5 n) (.buf b6 0) (.buf i7 (BR k (n+1)).length) X8 true) 0)::(i7,.cells 1 ((BR k (n+1)).map B5) 0)::(Bv,.cells 5 k.AL.cells 0)::(b5,.cells 1 ((CD k f n).map iI) 0)::[(b6,.cells 1 (([] : List (List Int)).map iL) 0),(B1,.cells 10 HW 0)]) (o.pm) h8).app (Ap k f n) rfl (by simp only [AN]; omega) fun i8 H o=>tt ?_;refine AS o.swap (by simp [rC]) (by (try simp only [go_sem]); (try simp)) (by first | (simp only [go_sem]; done) | ((try simp only [go_sem]); simp [AV.one,Ay])) fun H o=>?_
 have ew : wr (rC k.AL (.buf b5 n) (.buf b6 0) (.buf i7 (BR k (n+1)).length) X8 true) 8 [.buf i8 (Bi k f n++[Ap k f n]).length]=rC k.AL (.buf b5 n) (.buf b6 0) (.buf i7 (BR k (n+1)).length) (.buf i8 (Bi k f n++[Ap k f n]).length) true:=rfl;rw [ew,← WD] at o;refine tt ?_;refine AH o (by simp [rC]) ?_
 have e5 : (rC k.AL (.buf b5 n) (.buf b6 0) (.buf i7 (BR k (n+1)).length) (.buf i8 (Bi k f (n+1)).length) true).getD 5 nv=.buf b5 n:=rfl;refine tw e5 ?_;refine Ae ((Ap k f n).length : Int) (show A9 H0 H ((b5,.cells 1 ((CD k f n).map iI) 0)::(Ba,.cells 10 (rC k.AL (.buf b5 n) (.buf b6 0) (.buf i7 (BR k (n+1)).length) (.buf i8 (Bi k f (n+1)).length) true) 0)::(i8,.cells 1 ((Bi k f (n+1)).map B5) 0)::(i7,.cells 1 ((BR k (n+1)).map B5) 0)::(Bv,.cells 5 k.AL.cells 0)::[(b6,.cells 1 (([] : List (List Int)).map iL) 0),(B1,.cells 10 HW 0)]) from o.pm) rfl CW.symm (by simp only [AN]; omega) fun b5 H o=>tt ?_;refine AS o.swap (by simp [rC]) (by (try simp only [go_sem]); (try simp)) (by first | (simp only [go_sem]; done) | ((try simp only [go_sem]); simp [AV.one,Ay])) fun H o=>?_
 have hz2 : (CD k f n++[((Ap k f n).length : Int)]).length=n+1:=by simp [CW]
 rw [uF,hz2,← OX] at o;refine tw w ?_;refine A4 (b5,(.buf i7 (BR k (n+1)).length,[(i7,.cells 1 ((BR k (n+1)).map B5) 0)]),(.buf i8 (Bi k f (n+1)).length,[(i8,.cells 1 ((Bi k f (n+1)).map B5) 0)])) (by omega) ⟨fun y hy=>?_,.inr ⟨i7,rfl,rfl⟩,.inr ⟨i8,rfl,rfl⟩, ?_⟩ rfl
 ·rcases Nat.lt_succ_iff_lt_or_eq.mp hy with h | rfl
  ·exact KX y h
  ·exact ⟨by omega,hl⟩
 ·exact o.perm (show List.Perm _ ((Ba,.cells 10 (rC k.AL (.buf b5 (n+1)) (.buf b6 0) (.buf i7 (BR k (n+1)).length) (.buf i8 (Bi k f (n+1)).length) true) 0)::(Bv,.cells 5 k.AL.cells 0)::(b5,.cells 1 ((CD k f (n+1)).map iI) 0)::([(i7,.cells 1 ((BR k (n+1)).map B5) 0)]++([(i8,.cells 1 ((Bi k f (n+1)).map B5) 0)]++[(b6,.cells 1 (([] : List (List Int)).map iL) 0),(B1,.cells 10 HW 0)]))) from (NU fun x=>by (try dsimp only); simp only [List.append_eq,List.count_append,List.count_cons,List.count_nil,List.map_nil,List.length_nil,List.length_append,List.length_cons,List.length_set,Nat.zero_add,List.nil_append,iI,iL]; omega))
theorem GU (B : Nat) (k : FU) : PB B 153 [.agg k.cells] (.bool (dec k.Is)):=by
 refine ⟨fun H0=>rS.go fun _=>?_⟩
 have o : A9 H0 H0 []:=.nil _;refine tt ?_;refine Qd (fun σ H=>σ=[(1,some (.ptr k.cells)),(3,some (.ptr k.src.cells)),(4,some (.ptr k.AL.cells))]∧H0.sub H) ?_ ?_
 ·refine tt ?_;refine ⟨?_, ?_⟩
  ·refine Ai o fun Ba H o=>tt ?_;refine Ai o fun CT H o=>tt ?_;refine sw o.swap fun H o=>tt ?_;refine sw o.swap fun H o=>tt ?_;refine Ca 4 o rfl fun H o=>?_;refine Ca 3 o rfl fun H o=>?_;exact Vg [1,3,4] ⟨rfl,o.sub⟩
  ·refine Ai o fun Ba H o=>tt ?_;refine Ai o fun CT H o=>tt ?_;refine sw o fun H o=>tt ?_;refine sw o.swap fun H o=>tt ?_;refine Ca 4 o rfl fun H o=>?_;refine Ca 3 o rfl fun H o=>?_;exact Vg [1,3,4] ⟨rfl,o.sub⟩
 clear o
 rintro σ H1 ⟨rfl,os⟩
 have no : ∀ {P : Prop},¬ P→AV.bool false=AV.bool (dec P):=fun h=>congrArg AV.bool (Ad h).symm;refine tt ?_;refine (Jk B k.src).go fun _=>?_
 by_cases hs : k.src.Is
 rotate_left
 ·rw [Ad hs];refine tt ?_;exact A5 (no fun q=>hs q.sI) os
 rw [Av hs];refine tt ?_;refine (Jk B k.AL).go fun _=>?_
 by_cases ht : k.AL.Is
 rotate_left
 ·rw [Ad ht];refine tt ?_;exact A5 (no fun q=>ht q.tI) os
 rw [Av ht];refine tt ?_
 by_cases ho : (k.ob.length : Int)=k.src.AF
 rotate_left
 ·rw [decide_eq_false ho];refine tt ?_;exact A5 (no fun q=>ho q.fit.ol) os
 rw [decide_eq_true ho];refine tt ?_
 by_cases ha : k.ar.length=k.src.AB.length
 rotate_left
 ·rw [decide_eq_false ha];refine tt ?_;exact A5 (no fun q=>ha q.fit.al) os
 rw [decide_eq_true ha];refine tt ?_;refine (Ep B k.ob k.AL.AF).go fun _=>?_
 by_cases Ee : ∀ y,y∈k.ob→0≤y∧y<k.AL.AF
 rotate_left
 ·rw [Ad Ee];refine tt ?_;exact A5 (no fun q=>Ee q.fit.gS) os
 rw [Av Ee];refine tt ?_;refine (Ep B k.ar (k.AL.AB.length : Int)).go fun _=>?_
 by_cases xW : ∀ y,y∈k.ar→0≤y∧y<(k.AL.AB.length : Int)
 rotate_left
 ·rw [Ad xW];refine tt ?_;exact A5 (no fun q=>xW q.fit.arr) os
 rw [Av xW]
 have fit : k.Fit:=⟨ho,ha,Ee,xW⟩
 have sm:=hs.1.m
 have so:=hs.1.o
 have sil:=hs.1.il
 have til:=ht.1.il
 have stl:=hs.1.L5
 have ttl:=ht.1.L5
 have O6 : ∀ a : Nat,a<k.src.AB.length→a<k.ar.length∧0≤k.ar.getD a default∧(k.ar.getD a default).toNat<k.AL.AB.length:=fun a h=>by
  have hl : a<k.ar.length:=by omega
  have:=xW _ (AE.mpr ⟨a,hl,rfl⟩);exact ⟨hl,this.1,by omega⟩
 have obI : ∀ x : Int,k.src.ES x→(0≤x∧x.toNat<k.ob.length)∧0≤ix k.ob x∧(ix k.ob x).toNat<k.AL.Ac.length:=fun x h=>by
  have hl : x.toNat<k.ob.length:=by have:=h.1; have:=h.2; omega
  have:=Ee _ (BL hl);exact ⟨⟨h.1,hl⟩,this.1,by omega⟩
 refine tt ?_;refine AD [1,3,4] (G:=Unit) (fun a _=>[(5,some (.int .i64 (a : Int)))]) (fun a _ H=>H=H1∧∀ i : Nat,i<a→ix k.AL.AB (k.ar.getD i default)=ix k.ob (k.src.AB.getD i default)∧ix k.AL.to (k.ar.getD i default)=ix k.ob (k.src.to.getD i default)) k.src.AB.length () ⟨rfl,by simp⟩ rfl ?_
 rintro a _ H hak ⟨rfl,Au⟩;refine tt ?_;apply bk <;> intro h1
 ·have AU:=A6 h1
  have w:=ws a
  have Ke : k.src.DB a:=⟨by omega,AU⟩
  have ai:=O6 a AU
  have of:=(obI _ (hs.1.pO Ke)).1
  have ot:=(obI _ (hs.1.qR Ke)).1
  have of : 0≤k.src.AB.getD a default∧(k.src.AB.getD a default).toNat<k.ob.length:=of
  have ot : 0≤k.src.to.getD a default∧(k.src.to.getD a default).toNat<k.ob.length:=ot
  have tI : a<k.src.to.length:=by omega
  have a1 : 0≤k.ar.getD a default∧(k.ar.getD a default).toNat<k.AL.AB.length:=ai.2
  have a2 : 0≤k.ar.getD a default∧(k.ar.getD a default).toNat<k.AL.to.length:=⟨ai.2.1,by have:=ai.2.2; omega⟩;refine tt ?_
  (repeat (refine ⟨by first | exact ai.1 | exact a1 | exact AU | exact of, ?_⟩))
  by_cases e1 : ix k.AL.AB (k.ar.getD a default)=ix k.ob (k.src.AB.getD a default)
  rotate_left
  ·rw [decide_eq_false e1];refine tt ?_;exact A5 (no fun q=>e1 (q.laws.ends a AU).1) os
  rw [decide_eq_true e1];refine tt ?_
  (repeat (refine ⟨by first | exact ai.1 | exact a2 | exact tI | exact ot, ?_⟩))
  by_cases e2 : ix k.AL.to (k.ar.getD a default)=ix k.ob (k.src.to.getD a default)
  rotate_left
  ·rw [decide_eq_false e2];refine tt ?_;exact A5 (no fun q=>e2 (q.laws.ends a AU).2) os
  rw [decide_eq_true e2];refine tw w ?_
  exact A4 () AU ⟨rfl,fun i hi=>by
   rcases Nat.lt_succ_iff_lt_or_eq.mp hi with h | rfl
   ·exact Au i h
   ·exact ⟨e1,e2⟩⟩ rfl
 have AU:=A7 h1
 have ends : ∀ a : Nat,a<k.src.AB.length→ix k.AL.AB (k.ar.getD a default)=ix k.ob (k.src.AB.getD a default)∧ix k.AL.to (k.ar.getD a default)=ix k.ob (k.src.to.getD a default):=fun i hi=>Au i (by omega);clear h1 Au AU hak;refine tt ?_;refine AD [1,3,4] (G:=Unit) (fun x _=>[(6,some (.int .i64 (x : Int)))]) (fun x _ H2=>H2=H∧∀ i : Nat,i<x→ix k.ar (k.src.Ac.getD i default)=ix k.AL.Ac (k.ob.getD i default)) k.src.AF.toNat () ⟨rfl,by simp⟩ rfl ?_
 rintro x _ H hxk ⟨rfl,Au⟩;refine tt ?_;apply bk <;> intro h1
 ·have AU:=A6 h1
  have w:=ws x
  have W8 : k.src.ES x:=⟨by omega,AU⟩
  have ox:=obI _ W8
  have ox1 : x<k.ob.length:=by have:=ox.1.2; simpa using this
  have ox2 : 0≤k.ob.getD x default∧(k.ob.getD x default).toNat<k.AL.Ac.length:=ox.2
  have xi : x<k.src.Ac.length:=by omega
  have ia:=(hs.1.HJ W8).1
  have ia2 : 0≤k.src.Ac.getD x default∧(k.src.Ac.getD x default).toNat<k.ar.length:=⟨ia.1,by rw [ha]; exact ia.2⟩;refine tt ?_
  (repeat (refine ⟨by first | exact xi | exact ia2 | exact ox1 | exact ox2, ?_⟩))
  by_cases e : ix k.ar (k.src.Ac.getD x default)=ix k.AL.Ac (k.ob.getD x default)
  rotate_left
  ·rw [decide_eq_false e];refine tt ?_;exact A5 (no fun q=>e (q.laws.Ac x xi)) os
  rw [decide_eq_true e];refine tw w ?_
  exact A4 () (by omega) ⟨rfl,fun i hi=>by
   rcases Nat.lt_succ_iff_lt_or_eq.mp hi with h | rfl
   ·exact Au i h
   ·exact e⟩ rfl
 have AU:=A7 h1
 have Ac : ∀ i : Nat,i<k.src.Ac.length→ix k.ar (k.src.Ac.getD i default)=ix k.AL.Ac (k.ob.getD i default):=fun i hi=>Au i (by omega);clear h1 Au AU hxk;refine tt ?_;refine AD [1,3,4] (G:=Unit) (fun a _=>[(7,some (.int .i64 (a : Int)))]) (fun a _ H2=>H2=H∧∀ i j : Nat,i<a→j<k.src.AB.length→k.src.to.getD i default=k.src.AB.getD j default→ix k.ar ((k.src.comp.getD i default).getD j default)=ix (ix k.AL.comp (k.ar.getD i default)) (k.ar.getD j default)) k.src.AB.length () ⟨rfl,fun i j h=>by omega⟩ rfl ?_
 rintro a _ H hak ⟨rfl,Au⟩;refine tt ?_;apply bk <;> intro h1
 ·have AU:=A6 h1
  have w:=ws a
  have Ke : k.src.DB a:=⟨by omega,AU⟩
  have ai:=O6 a AU
  have tI : a<k.src.to.length:=by omega
  have ci : a<k.src.comp.length:=by have:=(hs.1.oA Ke).2; simpa using this
  have cj : (k.src.comp.getD a default).length=k.src.AB.length:=hs.1.nA Ke
  have ui : k.AL.DB (k.ar.getD a default):=ai.2
  have di:=ht.1.oA ui
  have dj : (ix k.AL.comp (k.ar.getD a default)).length=k.AL.AB.length:=ht.1.nA ui;refine tt ?_;refine AD [1,3,4,7] (G:=Unit) (fun b _=>[(8,some (.int .i64 (b : Int)))]) (fun b _ H2=>H2=H∧∀ j : Nat,j<b→k.src.to.getD a default=k.src.AB.getD j default→ix k.ar ((k.src.comp.getD a default).getD j default)=ix (ix k.AL.comp (k.ar.getD a default)) (k.ar.getD j default)) k.src.AB.length () ⟨rfl,fun j h=>by omega⟩ rfl ?_
  rintro b _ H hbk ⟨rfl,FY⟩;refine tt ?_;apply bk <;> intro h2
  ·have Aq:=A6 h2
   have w2:=ws b
   have OM : k.src.DB b:=⟨by omega,Aq⟩
   have bi:=O6 b Aq
   have b1 : 0≤k.ar.getD b default∧(k.ar.getD b default).toNat<(ix k.AL.comp (k.ar.getD a default)).length:=⟨bi.2.1,by rw [dj]; exact bi.2.2⟩
   have cj2 : b<(k.src.comp.getD a default).length:=by rw [cj]; exact Aq
   refine tt ?_;refine ⟨tI,Aq, ?_⟩
   by_cases e : k.src.to.getD a default=k.src.AB.getD b default
   rotate_left
   ·rw [decide_eq_false e];refine tw w2 ?_
    exact A4 () Aq ⟨rfl,fun j hj he=>by
     rcases Nat.lt_succ_iff_lt_or_eq.mp hj with h | rfl
     ·exact FY j h he
     ·exact absurd he e⟩ rfl
   rw [decide_eq_true e]
   have hc:=(hs.1.FR Ke OM e).1
   have gR : 0≤(k.src.comp.getD a default).getD b default∧((k.src.comp.getD a default).getD b default).toNat<k.ar.length:=⟨hc.1,by rw [ha]; exact hc.2⟩;refine tt ?_
   (repeat (refine ⟨by first | exact ci | exact cj2 | exact gR | exact ai.1 | exact di | exact bi.1 | exact b1, ?_⟩))
   by_cases e2 : ix k.ar ((k.src.comp.getD a default).getD b default)=ix (ix k.AL.comp (k.ar.getD a default)) (k.ar.getD b default)
   rotate_left
   ·rw [decide_eq_false e2];refine tt ?_;exact A5 (no fun q=>e2 (q.laws.comp a b AU Aq e)) os
   rw [decide_eq_true e2];refine tw w2 ?_
   exact A4 () Aq ⟨rfl,fun j hj he=>by
    rcases Nat.lt_succ_iff_lt_or_eq.mp hj with h | rfl
    ·exact FY j h he
    ·exact e2⟩ rfl
  ·have Aq:=A7 h2;refine tw w ?_
   exact A4 () AU ⟨rfl,fun i j hi hj he=>by
    rcases Nat.lt_succ_iff_lt_or_eq.mp hi with h | rfl
    ·exact Au i j h hj he
    ·exact FY j (by omega) he⟩ rfl
 ·have AU:=A7 h1;refine tt ?_;exact A5 (congrArg AV.bool (Av ⟨hs,ht,fit,ends,Ac,fun i j hi hj he=>Au i j (by omega) hj he⟩).symm) os
def aC (c : Ax) (X5 X6 : AV) : List AV:=[iI c.AF,iL c.AB,iL c.to,iL c.Ac,B5 c.comp,X5,X6]
def Fe : List AV:=[.int .i64 0,.A0,.A0,.A0,.A0,.A0,.A0]
theorem Jz (B : Nat) {k : FU} {g : SF} (hk : k.Is) (gs : (g.A1.length : Int)=k.AL.AF) (ga : g.AJ.length=k.AL.AB.length) : PB B 142 [.agg k.cells,.agg g.cells] (.agg (Ag k g).cells):=by
 refine ⟨fun H0=>wL.go fun _=>?_⟩
 have so:=hk.sI.1.o
 have sm:=hk.sI.1.m
 have ol:=hk.fit.ol
 have al:=hk.fit.al
 have o : A9 H0 H0 []:=.nil _;refine tt ?_;refine nb o fun B1 H o=>tt ?_;refine (DI B k.src).go fun _=>tt ?_;refine AP o fun b5 H o=>tt ?_;refine AP o fun b6 H o=>tt ?_;refine nb o fun Bv H o=>tt ?_;refine sw o fun H o=>?_
 have o : A9 H0 H [(Bv,.cells 7 (aC k.src (.buf b5 0) (.buf b6 0)) 0),(b6,.cells 1 (([] : List (List Int)).map iL) 0),(b5,.cells 1 (((k.ob.take 0).map (ix g.A1)).map iI) 0),(B1,.cells 7 Fe 0)]:=o;refine tt ?_;refine AD [2,3,4,5] (G:=Nat) (fun n _=>[(6,some (.int .i64 (n : Int)))]) (fun n b5 H=>A9 H0 H [(Bv,.cells 7 (aC k.src (.buf b5 n) (.buf b6 0)) 0),(b6,.cells 1 (([] : List (List Int)).map iL) 0),(b5,.cells 1 (((k.ob.take n).map (ix g.A1)).map iI) 0),(B1,.cells 7 Fe 0)]) k.ob.length b5 o rfl ?_;clear o
 rintro n b5 H hn o
 replace o : A9 H0 H [(Bv,.cells 7 (aC k.src (.buf b5 n) (.buf b6 0)) 0),(b6,.cells 1 (([] : List (List Int)).map iL) 0),(b5,.cells 1 (((k.ob.take n).map (ix g.A1)).map iI) 0),(B1,.cells 7 Fe 0)]:=o;refine tt ?_;apply bk <;> intro h1
 ·have AU:=A6 h1
  have w:=ws n
  have hy:=hk.fit.gS _ (AE.mpr ⟨n,AU,rfl⟩)
  have V3 : 0≤k.ob.getD n default∧(k.ob.getD n default).toNat<g.A1.length:=⟨hy.1,by omega⟩
  have hl : ((k.ob.take n).map (ix g.A1)).length=n:=by rw [List.length_map,List.length_take]; omega
  have g5:=o.h0
  have e5 : (aC k.src (.buf b5 n) (.buf b6 0)).getD 5 nv=.buf b5 n:=rfl;refine tt ?_;refine ⟨⟨_,_,g5⟩,Aj g5 (by simp [aC]) ?_⟩;refine tw e5 ?_;refine ⟨AU,V3, ?_⟩;refine Ae (ix g.A1 (k.ob.getD n default)) (show A9 H0 H ((b5,.cells 1 (((k.ob.take n).map (ix g.A1)).map iI) 0)::(Bv,.cells 7 (aC k.src (.buf b5 n) (.buf b6 0)) 0)::[(b6,.cells 1 (([] : List (List Int)).map iL) 0),(B1,.cells 7 Fe 0)]) from o.pm) rfl hl.symm (by rw [hl]; simp only [AN]; omega) fun b5 H o=>?_
  have et : ((k.ob.take (n+1)).map (ix g.A1))=((k.ob.take n).map (ix g.A1))++[ix g.A1 (k.ob.getD n default)]:=by rw [Ar _ AU,List.map_append]; rfl
  have Ce : ((k.ob.take (n+1)).map (ix g.A1)).length=n+1:=by rw [List.length_map,List.length_take]; omega
  rw [← et] at o ⊢;rw [Ce];refine tt ?_;refine AS o.swap (by simp [aC]) (by (try simp only [go_sem]); (try simp)) (by first | (simp only [go_sem]; done) | ((try simp only [go_sem]); simp [AV.one,Ay])) fun H o=>?_;rw [show wr (aC k.src (.buf _ n) (.buf b6 0)) 5 [.buf b5 (n+1)]=aC k.src (.buf b5 (n+1)) (.buf b6 0) from rfl] at o;refine tw w ?_;exact A4 b5 AU (o.perm (show List.Perm _ [(Bv,.cells 7 (aC k.src (.buf b5 (n+1)) (.buf b6 0)) 0),(b6,.cells 1 (([] : List (List Int)).map iL) 0),(b5,.cells 1 (((k.ob.take (n+1)).map (ix g.A1)).map iI) 0),(B1,.cells 7 Fe 0)] from (NU fun x=>by (try dsimp only); simp only [List.append_eq,List.count_append,List.count_cons,List.count_nil,List.map_nil,List.length_nil,List.length_append,List.length_cons,List.length_set,Nat.zero_add,List.nil_append,iI,iL]; omega))) rfl
 have AU:=A7 h1
 obtain rfl : n=k.ob.length:=by omega
 have ht : k.ob.take k.ob.length=k.ob:=List.take_length;rw [ht] at o;clear h1
 have o : A9 H0 H [(Bv,.cells 7 (aC k.src (.buf b5 k.ob.length) (.buf b6 0)) 0),(b6,.cells 1 (((k.ar.take 0).map (ix g.AJ)).map iL) 0),(b5,.cells 1 ((k.ob.map (ix g.A1)).map iI) 0),(B1,.cells 7 Fe 0)]:=o;refine tt ?_;refine AD [2,3,4,5] (G:=Nat) (fun n _=>[(7,some (.int .i64 (n : Int)))]) (fun n b6 H=>A9 H0 H [(Bv,.cells 7 (aC k.src (.buf b5 k.ob.length) (.buf b6 n)) 0),(b6,.cells 1 (((k.ar.take n).map (ix g.AJ)).map iL) 0),(b5,.cells 1 ((k.ob.map (ix g.A1)).map iI) 0),(B1,.cells 7 Fe 0)]) k.ar.length b6 o rfl ?_;clear o
 rintro n b6 H hn o
 replace o : A9 H0 H [(Bv,.cells 7 (aC k.src (.buf b5 k.ob.length) (.buf b6 n)) 0),(b6,.cells 1 (((k.ar.take n).map (ix g.AJ)).map iL) 0),(b5,.cells 1 ((k.ob.map (ix g.A1)).map iI) 0),(B1,.cells 7 Fe 0)]:=o;refine tt ?_;apply bk <;> intro h1
 ·have AU:=A6 h1
  have w:=ws n
  have hy:=hk.fit.arr _ (AE.mpr ⟨n,AU,rfl⟩)
  have V3 : 0≤k.ar.getD n default∧(k.ar.getD n default).toNat<g.AJ.length:=⟨hy.1,by omega⟩
  have hl : ((k.ar.take n).map (ix g.AJ)).length=n:=by rw [List.length_map,List.length_take]; omega
  have g5:=o.h0
  have e6 : (aC k.src (.buf b5 k.ob.length) (.buf b6 n)).getD 6 nv=.buf b6 n:=rfl;refine tt ?_;refine ⟨⟨_,_,g5⟩,Aj g5 (by simp [aC]) ?_⟩;refine tw e6 ?_;refine ⟨AU,V3, ?_⟩;refine ⟨_,(CX B _).run,tt ?_⟩;refine Ae (f:=iL) (ix g.AJ (k.ar.getD n default)) o.swap rfl hl.symm (by rw [hl]; simp only [AN]; omega) fun b6 H o=>?_
  have et : ((k.ar.take (n+1)).map (ix g.AJ))=((k.ar.take n).map (ix g.AJ))++[ix g.AJ (k.ar.getD n default)]:=by rw [Ar _ AU,List.map_append]; rfl
  have Ce : ((k.ar.take (n+1)).map (ix g.AJ)).length=n+1:=by rw [List.length_map,List.length_take]; omega
  rw [← et] at o ⊢;rw [Ce];refine tt ?_;refine AS o.swap (by simp [aC]) (by (try simp only [go_sem]); (try simp)) (by first | (simp only [go_sem]; done) | ((try simp only [go_sem]); simp [AV.one,Ay])) fun H o=>?_;rw [show wr (aC k.src (.buf b5 k.ob.length) (.buf _ n)) 6 [.buf b6 (n+1)]=aC k.src (.buf b5 k.ob.length) (.buf b6 (n+1)) from rfl] at o;refine tw w ?_;exact A4 b6 AU o rfl
 have AU:=A7 h1
 obtain rfl : n=k.ar.length:=by omega
 have ht : k.ar.take k.ar.length=k.ar:=List.take_length;rw [ht] at o;refine tt ?_;refine B6 (f:=iL) 6 o rfl (by simp) fun H o=>?_;refine B6 (f:=iI) 5 o rfl (by simp) fun H o=>AX ?_
 have o : A9 H0 H [(Bv,.cells 7 (Ag k g).cells 0),(B1,.cells 7 Fe 0)]:=o;refine tt ?_;refine AO o (by simp [SF.cells]) (tt ?_);refine AS o.swap (by simp [Fe]) (by (try simp only [go_sem]); (try simp)) (by first | (simp only [go_sem]; done) | ((try simp only [go_sem]); simp [AV.one,Ay])) fun H o=>?_;unfold Fe at o;have o:=s2 o;refine tt ?_;rw [o.rc 7 0 (by simp)];refine tt ?_;exact A5 rfl o.sub
theorem Dd (B : Nat) {k : FU} {g : SF} (hk : k.Is) (hg : g.Is) (e : k.AL=g.shape) : PB B 142 [.agg k.cells,.agg g.cells] (.agg (Ag k g).cells):=Jz B hk (by rw [e]; exact hg.1.sl) (by rw [e]; exact hg.1.al)
theorem Mw (A : List Int) (i : Nat) : A.set i (A.getD i default)=A:=by
 apply List.ext_getElem?
 intro j
 by_cases e : i=j
 ·subst e
  by_cases h : i<A.length
  ·simp [Go.AW.gE,h]
  ·rw [List.getElem?_eq_none (by simp; omega),List.getElem?_eq_none (by omega)]
 ·rw [List.getElem?_set_ne e]
theorem Ut (B : Nat) (l : List Int) (hl : l.length≤100000) : PB B 265 [iL l] (iL (Dr l)):=by
 refine ⟨fun H0=>fF.go fun _=>?_⟩
 have o : A9 H0 H0 []:=.nil _;refine tt ?_;refine Az iI o fun C9 H o=>tt ?_;refine Az iI o fun B1 H o=>tt ?_
 refine AD [0] (G:=(Nat × List Int) × (Nat × List Int)) (fun k g=>[(3,some (.buf g.1.1 g.1.2.length)),(4,some (.buf g.2.1 g.2.2.length)),(5,some (.int .i64 (k : Int)))])
  (fun k g H=>(g.1.2=Dr (l.take k)∧g.2.2=DO (l.take k))∧A9 H0 H [(g.2.1,.cells 1 (g.2.2.map iI) 0),(g.1.1,.cells 1 (g.1.2.map iI) 0)]) l.length ((C9,[]),(B1,[])) ⟨⟨rfl,rfl⟩,o⟩ rfl ?_
 clear o
 rintro k ⟨⟨C9,out⟩,⟨B1,seen⟩⟩ H hk ⟨⟨B2,aB⟩,o⟩;dsimp only at o B2 aB
 have KU : out.length=k:=by rw [B2,Nc,List.length_take]; omega
 have Im : seen.length≤k:=by rw [aB]; exact Nat.le_trans (Kq _ _ rfl) (by rw [List.length_take]; omega)
 refine tt ?_;apply bk <;> intro h1
 ·refine tt ?_
  have AU:=dd h1
  have w1:=ws k
  have dY:=F7 (l.take k) (l.getD k default)
  have R1:=SV (l.take k) (l.getD k default);rw [← take_one l AU,← aB] at dY;rw [← take_one l AU,← B2] at R1;refine ⟨AU,PA 0 rfl o rfl (.int _ _) (Hf ..).run ?_⟩
  have hb:=FI seen (l.getD k default)
  have hm:=Fu seen (l.getD k default);refine tt ?_;apply bk <;> intro h2
  ·refine tt ?_
   have Aq:=dd h2
   have lY : l.getD k default ∉ seen:=fun h=>by have:=hm.mpr h; omega
   rw [if_neg lY] at dY;rw [dY,Pn lY] at R1;refine ⟨AU, ?_⟩;refine Ae (l.getD k default) o rfl rfl (by simp only [AN]; omega) fun B1 H o=>tt ?_;refine Ae ((seen.length : Nat) : Int) o.swap rfl rfl (by simp only [AN]; omega) fun C9 H o=>?_;refine tw w1 ?_;exact A4 ((_,_),(_,_)) (by omega) ⟨⟨R1.symm,dY.symm⟩,o.swap⟩ rfl
  ·refine tt ?_
   have Aq:=dd h2
   have hi : l.getD k default∈seen:=hm.mp (by omega);rw [if_pos hi] at dY;rw [dY] at R1;refine Ae (indexOf seen (l.getD k default)) o.swap rfl rfl (by simp only [AN]; omega) fun C9 H o=>?_;refine tw w1 ?_;exact A4 ((_,_),(_,_)) (by omega) ⟨⟨R1.symm,dY.symm⟩,o.swap⟩ rfl
 ·refine tt ?_
  have AU:=dd h1
  obtain rfl : k=l.length:=by omega
  refine Am o.swap rfl fun H o=>tt ?_;exact A5 (by rw [B2,List.take_length]) o.sub
theorem Rw (B : Nat) (n : Nat) (hn : n≤100000) (ps : List (List Int)) (hp : ∀ q,q∈ps→2≤q.length∧(0≤q.getD 0 default∧(q.getD 0 default).toNat<n)∧(0≤q.getD 1 default∧(q.getD 1 default).toNat<n)) :
  PB B 203 [iI n,B5 ps] (iL (HI n ps)):=by
 refine ⟨fun H0=>fE.go fun ⟨_,hf,_⟩=>?_⟩
 have hl:=AZ hf;simp only [AN] at hl
 have o : A9 H0 H0 []:=.nil _;refine tt ?_;refine Az iI o fun id H o=>tt ?_;refine AD [0,1] (G:=Nat × List Int) (fun k g=>[(5,some (.buf g.1 g.2.length)),(6,some (.int .i64 (k : Int)))]) (fun k g H=>g.2=(List.range k).map Int.ofNat∧A9 H0 H [(g.1,.cells 1 (g.2.map iI) 0)]) n (id,[]) ⟨rfl,o⟩ rfl ?_;clear o
 rintro k ⟨id,A⟩ H hk ⟨hA,o⟩;dsimp only at hA o
 have L7 : A.length=k:=by rw [hA]; simp
 refine tt ?_;apply bk <;> intro h1
 ·refine tt ?_
  have AU:=dd h1
  have w1:=ws k;refine Ae (k : Int) o rfl rfl (by simp only [AN]; omega) fun id H o=>?_;refine tw w1 ?_;exact A4 (_,_) (by omega) ⟨by rw [hA,List.range_succ]; simp,o⟩ rfl
 ·refine tt ?_
  have AU:=dd h1
  obtain rfl : k=n:=by omega
  refine AD [1,5] (fun q _=>[(7,some (.int .i64 (q : Int)))]) (fun q A H=>A=Jm k (ps.take q)∧A9 H0 H [(id,.cells 1 (A.map iI) 0)]) ps.length A ⟨hA,o⟩ rfl ?_;clear o
  rintro q A2 H hq ⟨Xq,o⟩
  have Ce : A2.length=k:=by rw [Xq,KK]
  refine tt ?_;apply bk <;> intro h2
  ·refine tt ?_
   have Aq:=dd h2
   have w2:=ws q
   have mA:=hp _ (AE.mpr ⟨q,Aq,rfl⟩)
   have e0 : ix (ps.getD q default) 0=(ps.getD q default).getD 0 default:=rfl
   have e1 : ix (ps.getD q default) 1=(ps.getD q default).getD 1 default:=rfl
   have Ed:=WO k ps Aq;rw [← Xq,e0,e1] at Ed;refine ⟨Aq,⟨by omega,Nat.lt_of_lt_of_le (by decide) mA.1⟩,⟨by rw [e0]; omega,by rw [e0]; omega⟩,CI o (by rw [e0]; omega) ?_⟩;refine tt ?_;refine ⟨Aq,⟨by omega,Nat.lt_of_lt_of_le (by decide) mA.1⟩,⟨by rw [e1]; omega,by rw [e1]; omega⟩,CI o (by rw [e1]; omega) ?_⟩;refine tt ?_;rw [e0,e1]
   have ea : A2.getD ((ps.getD q default).getD 0 default).toNat default=ix A2 ((ps.getD q default).getD 0 default):=rfl
   have eb : A2.getD ((ps.getD q default).getD 1 default).toNat default=ix A2 ((ps.getD q default).getD 1 default):=rfl;rw [ea,eb]
   generalize ix A2 ((ps.getD q default).getD 0 default)=va at Ed ⊢
   generalize ix A2 ((ps.getD q default).getD 1 default)=vb at Ed ⊢;refine AD [1,5,7,8,9] (fun i _=>[(10,some (.int .i64 (i : Int)))]) (fun i A H=>A=Ck A2 va vb i∧A9 H0 H [(id,.cells 1 (A.map iI) 0)]) k A2 ⟨(Ql _ _ _).symm,o⟩ rfl ?_;clear o
   rintro i A3 H hi ⟨dN,o⟩
   have jf : A3.length=k:=by rw [dN,Rg _ _ _ (by omega)]; exact Ce
   rw [L7];refine tt ?_;apply bk <;> intro h3
   ·refine tw h3 ?_
    have BH:=dd h3
    have w3:=ws i
    have hg:=TC A2 va vb (i:=i) (by omega)
    have hs:=Qn A2 va vb (i:=i) (by omega);rw [← dN] at hg hs;apply bk <;> intro h4
    ·refine tt ?_
     have D9:=dd h4;refine ⟨BH,CI o (by omega) ?_⟩;refine tt ?_;apply bk <;> intro h5
     ·refine tt ?_
      have JB:=dd h5;refine ⟨BH,BT _ o rfl (by omega) fun H o=>?_⟩;refine tw w3 ?_;exact A4 _ (by omega) ⟨by rw [hs,if_pos (by rw [← hg]; exact JB)],o⟩ rfl
     ·refine tw w3 ?_
      have JB:=dd h5;refine A4 A3 (by omega) ⟨?_,o⟩ rfl;rw [hs,if_neg (by rw [← hg]; exact JB),← hg,Mw]
    ·refine tw w2 ?_
     have D9:=dd h4;refine A4 A3 (by omega) ⟨?_,o⟩ rfl;subst D9
     have : ∀ i,Ck A2 va va i=A2:=fun i=>by rw [Ck,Mi,List.take_append_drop]
     rw [dN,this,Ed,Mi]
   ·refine t2 h3 w2 ?_
    have BH:=dd h3;refine A4 A3 (by omega) ⟨?_,o⟩ rfl
    have iq : i=A2.length:=by omega
    rw [dN,iq,RJ,Ed]
  ·refine tt ?_
   have Aq:=dd h2
   obtain rfl : q=ps.length:=by omega
   rw [List.take_length] at Xq;rw [L7];refine Am o Ce.symm fun H o=>tt ?_;refine (Ut B A2 (by omega)).go fun _=>tt ?_;exact A5 (by rw [HI,Xq]) o.sub
theorem Qc (B : Nat) (p : List Int) (H0 H : AA) (l : List (Nat × AG)) (o : A9 H0 H l) : CB B 283 [iL p] H (O2 iL H0 l (·=El p)):=by
 refine vN.go fun ⟨hf,_⟩=>?_
 have hl:=AZ hf;simp only [AN] at hl;refine tt ?_;refine Az iL o fun id H o=>tt ?_
 refine AD [0] (G:=Nat × List (List Int)) (fun k g=>[(3,some (.buf g.1 g.2.length)),(4,some (.int .i64 (k : Int)))])
  (fun k g H=>g.2=(List.range k).map (fun i : Nat=>[indexOf p (p.getD i default),(i : Int)])∧A9 H0 H ((g.1,.cells 1 (g.2.map iL) 0)::l)) p.length (id,[]) ⟨rfl,o⟩ rfl ?_
 clear o
 rintro k ⟨id,out⟩ H hk ⟨B2,o⟩;dsimp only at B2 o
 have KU : out.length=k:=by rw [B2]; simp
 refine tt ?_;apply bk <;> intro h1
 ·refine tt ?_
  have AU:=dd h1
  have w1:=ws k;refine ⟨AU,(Hf ..).go fun _=>?_⟩;refine tt ?_;refine Ae [indexOf p (p.getD k default),(k : Int)] o rfl rfl (by simp only [AN]; omega) fun id H o=>?_;refine tw w1 ?_;exact A4 (_,_) (by omega) ⟨by rw [B2,List.range_succ]; simp,o⟩ rfl
 ·refine tt ?_
  have AU:=dd h1
  obtain rfl : k=p.length:=by omega
  exact K3 o rfl (by rw [B2]; rfl)
end Go.Proofs.Shf
