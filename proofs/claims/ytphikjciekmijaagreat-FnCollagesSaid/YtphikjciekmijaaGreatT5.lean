/- Contracts, part 5. -/
import Derived.Test.YtphikjciekmijaaGreatT4
set_option linter.unusedVariables false
set_option linter.unusedSimpArgs false
set_option linter.unusedSectionVars false
set_option maxRecDepth 100000
open Nat (reduceEqDiff reduceAdd reduceMul reduceLeDiff reduceLT)
namespace Go.Shf
open Go.AW
abbrev FB:=(Nat × List Int) × (Nat × List Int)
@[go_sem] def EZ (c d : Ax) (m : FB) : AV:=.agg [iI c.AF,iL c.AB,iL c.to,iL c.Ac,B5 c.comp,iI d.AF,iL d.AB,iL d.to,iL d.Ac,B5 d.comp,.buf m.1.1 m.1.2.length,.buf m.2.1 m.2.2.length]
instance (c d : Ax) : Lq 12 (EZ c d):=⟨by omega,fun _=>rfl,fun _=>rfl,fun a k hk=>by
 simp only [EZ,AV.cells,List.mem_cons,List.not_mem_nil,or_false] at hk
 rcases hk with rfl | rfl | rfl | rfl | rfl | rfl | rfl | rfl | rfl | rfl | rfl | rfl <;> rfl⟩
def Ic (ms : List FB) : List (Nat × AG):=ms.flatMap fun m=>[(m.1.1,.cells 1 (m.1.2.map iI) 0),(m.2.1,.cells 1 (m.2.2.map iI) 0)]
theorem cP (ms : List FB) (m : FB) : Ic (ms++[m])=Ic ms++[(m.1.1,.cells 1 (m.1.2.map iI) 0),(m.2.1,.cells 1 (m.2.2.map iI) 0)]:=by simp [Ic]
end Go.Shf
namespace Go.Proofs.Shf
open Go.AW Go.Proofs Go.Shf
theorem Qa (B : Nat) (l : List Int) : ID Tryz.prog B 168 [iL l] fun p X=>∃ id,X=.buf id l.length∧p=[(id,.cells 1 (l.map iI) 0)] :=
 ⟨fun H=>(FM B l H H [] (.nil H)).mono fun r H' ⟨id,A,e,o,q⟩=>by
  subst e q;exact ⟨_,⟨id,rfl,rfl⟩,o⟩⟩
theorem NS (B : Nat) (c d : Ax) (ob ar : List Int) : ID Tryz.prog B 295 [.agg c.cells,.agg d.cells,iL ob,iL ar] fun p X=>∃ i j,X=EZ c d ((i,ob),(j,ar))∧p=[(i,.cells 1 (ob.map iI) 0),(j,.cells 1 (ar.map iI) 0)]:=by
 refine ⟨fun H0=>tX.go fun _=>?_⟩
 have o : A9 H0 H0 []:=.nil _;refine tt ?_;refine nb o fun Cm H o=>tt ?_;refine ⟨_,(DI B c).run,_,(DI B d).run,tt ?_⟩;refine ((Qa B ob).run H).mono ?_
 rintro r H ⟨p,⟨i,rfl,rfl⟩,o2⟩;refine ⟨o2.sub, ?_⟩
 have o:=o.trans o2;refine tt ?_;refine ((Qa B ar).run H).mono ?_
 rintro r H ⟨p,⟨j,rfl,rfl⟩,o2⟩;refine ⟨o2.sub, ?_⟩
 have o:=o.trans o2;refine tt ?_
 have o : A9 H0 H ((Cm,.cells 12 [.int .i64 0,.A0,.A0,.A0,.A0,.int .i64 0,.A0,.A0,.A0,.A0,.A0,.A0] 0)::[(i,.cells 1 (ob.map iI) 0),(j,.cells 1 (ar.map iI) 0)]):=o.pm;refine sw o fun H o=>tt ?_;rw [o.rc 12 0 (by simp)];refine tt ?_;exact ⟨H,.refl H,_,⟨i,j,rfl,rfl⟩,o.tl⟩
def gg (c d : Ax) (ms : List FB) : Prop:=∀ m,m∈ms→iG c d m.1.2∧Fn c d m.1.2 m.2.2
def SrT (c d : Ax) (H0 : AA) (l : Ob) : Ak:=fun r H'=>∃ (Eo : Nat) (ms : List FB),r=.buf Eo ms.length∧(ms.length≤201∧gg c d ms)∧A9 H0 H' ((Eo,.cells 12 (flat (ms.map (EZ c d))) 0)::(Ic ms++l))
theorem St (n : Nat) : List.replicate n (-1 : Int)++[-1]=List.replicate (n+1) (-1):=by rw [List.replicate_succ']
theorem NR (B : Nat) {c d : Ax} (hc : c.Shape) (hd : d.Shape) (l : Ob) (H0 : AA) : ∀ (n : Nat) (ob : List Int) (Io Eo : Nat) (ms : List FB) (H : AA),c.AF.toNat - ob.length=n→ob.length≤c.AF.toNat →
  (∀ x : Nat,x<ob.length→d.ES (ob.getD x default))→ms.length≤200→gg c d ms→A9 H0 H ((Io,.cells 1 (ob.map iI) 0)::(Eo,.cells 12 (flat (ms.map (EZ c d))) 0)::(Ic ms++l)) →
  CB B 303 [.agg c.cells,.agg d.cells,.buf Io ob.length,.buf Eo ms.length] H (SrT c d H0 l):=by
 intro n
 induction n using Nat.strongRecOn with
 | _ n ih =>
 intro ob Io Eo ms H hn KU Ee OQ V0 o;refine pV.go fun _=>?_
 have sm:=hc.m
 have so:=hc.o
 have dO:=hd.o;refine tt ?_;refine Am (f:=iI) o rfl fun H o=>tt ?_;refine (Rs B c d hc hd ob).go fun r _ ⟨b,e⟩=>?_;subst e
 cases b
 ·refine tt ?_;exact ⟨H,.refl _,Eo,ms,rfl,⟨by omega,V0⟩,o⟩
 refine tt ?_
 by_cases HO : (ob.length : Int)=c.AF
 ·rw [decide_eq_true HO]
  have tO : iG c d ob:=⟨HO,fun x hx=>by have:=Ee x.toNat (by have:=hx.1; have:=hx.2; omega); exact this⟩;refine tt ?_;refine AP o fun ON H o=>?_
  have o : A9 H0 H ((ON,.cells 1 ((List.replicate 0 (-1 : Int)).map iI) 0)::(Eo,.cells 12 (flat (ms.map (EZ c d))) 0)::(Ic ms++l)):=o;refine tt ?_;refine AD [2,3,4,5] (G:=Nat) (fun k b=>[(9,some (.buf b k)),(10,some (.int .i64 (k : Int)))]) (fun k b H=>A9 H0 H ((b,.cells 1 ((List.replicate k (-1 : Int)).map iI) 0)::(Eo,.cells 12 (flat (ms.map (EZ c d))) 0)::(Ic ms++l))) c.AB.length ON o rfl ?_;clear o
  rintro k b H hk o
  replace o : A9 H0 H ((b,.cells 1 ((List.replicate k (-1 : Int)).map iI) 0)::(Eo,.cells 12 (flat (ms.map (EZ c d))) 0)::(Ic ms++l)):=o;refine tt ?_;apply bk <;> intro h1
  ·have AU:=A6 h1
   have w:=ws k
   have WA : (List.replicate k (-1 : Int)).length=k:=by simp
   refine tt ?_;refine Ae (-1 : Int) o rfl WA.symm (by rw [WA]; simp only [AN]; omega) fun id H o=>?_;rw [St] at o
   have Ce : (List.replicate k (-1 : Int)++[-1]).length=k+1:=by simp
   refine t2 w Ce ?_
   exact A4 id AU o rfl
  have AU:=A7 h1
  obtain rfl : k=c.AB.length:=by omega
  clear h1;refine tt ?_;refine AD [2,3,4,5,9] (G:=List Int) (fun x _=>[(11,some (.int .i64 (x : Int)))]) (fun x st H=>Wl c d ob st∧A9 H0 H ((b,.cells 1 (st.map iI) 0)::(Eo,.cells 12 (flat (ms.map (EZ c d))) 0)::(Ic ms++l))) ob.length (List.replicate c.AB.length (-1)) ⟨.blank,o⟩ rfl ?_;clear o
  rintro x st H hx ⟨ts,o⟩
  replace ts : Wl c d ob st:=ts
  replace o : A9 H0 H ((b,.cells 1 (st.map iI) 0)::(Eo,.cells 12 (flat (ms.map (EZ c d))) 0)::(Ic ms++l)):=o;refine tt ?_;apply bk <;> intro h1
  ·have AU:=A6 h1
   have w:=ws x
   have W8 : c.ES x:=⟨by omega,by omega⟩
   have L9:=Ee x AU
   have ii:=(hc.mZ W8).2
   have jj:=hd.mZ L9
   have ia:=(hc.uT W8).1
   have te : TV c d ob (ix c.Ac x) (ix d.Ac (ix ob x)):=TV.Ac hc hd W8 L9
   have t2:=ts.set ia te
   have ia1 : (c.Ac.getD x default).toNat<c.AB.length:=ia.2
   have ia0 : 0≤c.Ac.getD x default:=ia.1;refine tt ?_
   (repeat (refine ⟨by first | exact ii | exact AU | exact jj, ?_⟩))
   refine ⟨⟨ia0,ia1⟩,BT (ix d.Ac (ix ob x)) o rfl (by rw [ts.len]; exact ia1) fun H o=>?_⟩;refine tw w ?_;exact A4 (st.set (ix c.Ac x).toNat (ix d.Ac (ix ob x))) AU ⟨t2,o⟩ rfl
  have AU:=A7 h1;clear h1;refine tt ?_;refine AP o fun xa H o=>tt ?_;refine (NT B hc hd tO ((Eo,.cells 12 (flat (ms.map (EZ c d))) 0)::(Ic ms++l)) H0 _ 0 st b xa [] H rfl (by omega) ts (fun i hi=>by omega) (by simp) (fun a h=>by simp at h) o.swap).mono ?_;clear o
  rintro r H ⟨E9,out,rfl,⟨B2,TT⟩,o⟩;refine tt ?_;refine Am (f:=iL) o rfl fun H o=>tt ?_;refine AD [2,4,5,12] (G:=Nat × List FB) (fun i g=>[(3,some (.buf g.1 g.2.length)),(13,some (.int .i64 (i : Int)))]) (fun i g H=>(g.2.length≤201∧gg c d g.2)∧A9 H0 H ((g.1,.cells 12 (flat (g.2.map (EZ c d))) 0)::(Ic g.2++l))) out.length (Eo,ms) ⟨⟨by simp only; omega,V0⟩,o⟩ rfl ?_;clear o
  rintro i ⟨Eo,ms⟩ H hi ⟨⟨OQ,V0⟩,o⟩;dsimp only at OQ V0 o;refine tt ?_
  by_cases h2 : i<out.length
  rotate_left
  ·rw [decide_eq_false h2];refine tt ?_;exact ⟨H,.refl _,Eo,ms,rfl,⟨OQ,V0⟩,o⟩
  rw [decide_eq_true h2]
  have w2:=ws i;refine tt ?_
  by_cases h3 : (ms.length : Int)≤200
  rotate_left
  ·rw [decide_eq_false h3];refine tt ?_;exact ⟨H,.refl _,Eo,ms,rfl,⟨OQ,V0⟩,o⟩
  rw [decide_eq_true h3];refine tt ?_;refine ⟨h2, ?_⟩;refine ((NS B c d ob (out.getD i default)).run H).mono ?_
  rintro r H ⟨p,⟨u,v,rfl,rfl⟩,o2⟩;refine ⟨o2.sub, ?_⟩
  have o:=o.trans o2;refine tt ?_;refine GS (f:=EZ c d) (((u,ob),(v,out.getD i default)) : FB) (show A9 H0 H ((Eo,.cells 12 (flat (ms.map (EZ c d))) 0)::([(u,.cells 1 (ob.map iI) 0),(v,.cells 1 ((out.getD i default).map iI) 0)]++(Ic ms++l))) from o.pm) rfl rfl (by simp only [AN]; omega) fun Eo H o=>?_
  have o : A9 H0 H ((Eo,.cells 12 (flat ((ms++[((u,ob),(v,out.getD i default))]).map (EZ c d))) 0)::(Ic (ms++[((u,ob),(v,out.getD i default))])++l)):=by
   rw [cP]; exact o.pm
  refine tw w2 ?_
  exact A4 (Eo,ms++[((u,ob),(v,out.getD i default))]) h2 ⟨⟨by simp; omega,fun m hm=>by
   rcases List.mem_append.mp hm with h | h
   ·exact V0 m h
   ·obtain rfl:=List.mem_singleton.mp h;exact ⟨tO,TT _ (AE.mpr ⟨i,h2,rfl⟩)⟩⟩,o⟩ rfl
 rw [decide_eq_false HO];refine tt ?_;refine AD [2,4,5] (G:=Nat × List FB) (fun y g=>[(3,some (.buf g.1 g.2.length)),(14,some (.int .i64 (y : Int)))]) (fun y g H=>(g.2.length≤201∧gg c d g.2)∧A9 H0 H ((g.1,.cells 12 (flat (g.2.map (EZ c d))) 0)::(Ic g.2++l))) d.AF.toNat (Eo,ms) ⟨⟨by simp only; omega,V0⟩,o⟩ rfl ?_;clear o
 rintro y ⟨Eo,ms⟩ H hy ⟨⟨OQ,V0⟩,o⟩;dsimp only at OQ V0 o;refine tt ?_
 by_cases h2 : (y : Int)<d.AF
 rotate_left
 ·rw [decide_eq_false h2];refine tt ?_;exact ⟨H,.refl _,Eo,ms,rfl,⟨OQ,V0⟩,o⟩
 rw [decide_eq_true h2]
 have w2:=ws y;refine tt ?_
 by_cases h3 : (ms.length : Int)≤200
 rotate_left
 ·rw [decide_eq_false h3];refine tt ?_;exact ⟨H,.refl _,Eo,ms,rfl,⟨OQ,V0⟩,o⟩
 rw [decide_eq_true h3];refine tt ?_;refine ((Qa B ob).run H).mono ?_
 rintro r H ⟨p,⟨u,rfl,rfl⟩,o2⟩;refine ⟨o2.sub, ?_⟩
 have o:=o.trans o2;refine tt ?_;refine Ae (y : Int) (show A9 H0 H ((u,.cells 1 (ob.map iI) 0)::(Eo,.cells 12 (flat (ms.map (EZ c d))) 0)::(Ic ms++l)) from o) rfl rfl (by simp only [AN]; omega) fun u H o=>tt ?_;refine (ih (c.AF.toNat - (ob++[(y : Int)]).length) (by simp; omega) (ob++[(y : Int)]) u Eo ms H rfl (by simp; omega) (fun x hx=>?_) (by omega) V0 o).mono ?_
 ·by_cases h : x<ob.length
  ·have:=Ee x h
   simpa [Go.AW.gE,List.getElem?_append_left h] using this
  ·obtain rfl : x=ob.length:=by simp at hx; omega
   have : d.ES y:=⟨by omega,h2⟩
   simpa [Go.AW.gE] using this
 clear o
 rintro r H ⟨Eo,ms,rfl,OQ,o⟩;refine tw w2 ?_;exact A4 (Eo,ms) (by omega) ⟨OQ,o⟩ rfl
theorem UE (B : Nat) {c d : Ax} (hc : c.Shape) (hd : d.Shape) (H0 : AA) : CB B 293 [.agg c.cells,.agg d.cells] H0 (SrT c d H0 []):=by
 refine vR.go fun _=>?_
 have o : A9 H0 H0 []:=.nil _;refine tt ?_;refine AP o fun CT H o=>tt ?_;refine Kt (EZ c d) o fun Cm H o=>tt ?_;refine (NR B hc hd [] H0 _ [] CT Cm [] H rfl (by simp) (fun x hx=>by simp at hx) (by simp) (fun m hm=>by simp at hm) o.swap).mono ?_
 rintro r H ⟨Eo,ms,rfl,OQ,o⟩;refine tt ?_;exact ⟨H,.refl _,Eo,ms,rfl,OQ,o⟩
end Go.Proofs.Shf
namespace Go.AW
open Go.Shf
@[go_sem] theorem gb {P : Program} {B : Nat} {d : Option Nat} {F : Env→AA→Prop} {σ : Env} {H : AA} (n : Nat) (x : X) (lo hi : Option X) : EB P B d (.p8 n x lo hi) F σ H=pE d F σ H (JH n (val σ x) (lo.map (val σ)) (hi.map (val σ))):=rfl
theorem Q9 {F : Env→AA→Prop} {σ : Env} {H0 H : AA} {l : Ob} {id fr : Nat} {x : Int} {a b i d : Nat} {A C I : List Int} {D : List (List Int)}
  (o : A9 H0 H ((id,.cells 5 [iI x,.buf a A.length,.buf b C.length,.buf i I.length,.buf d D.length] fr)::(a,.cells 1 (A.map iI) 0)::(b,.cells 1 (C.map iI) 0)::(i,.cells 1 (I.map iI) 0)::(d,.cells 1 (D.map iL) 0)::l))
  (hk : ∀ H',A9 H0 H' ((id,.cells 5 (Ax.cells ⟨x,A,C,I,D⟩) fr)::l)→EX F σ H') : EX F σ H:=by
 refine B6 1 o rfl rfl fun H o=>?_;have o:=s1 o;refine B6 2 o rfl rfl fun H o=>?_;have o:=s1 o;refine B6 3 o rfl rfl fun H o=>?_;have o:=s1 o;refine B6 4 o rfl rfl fun H o=>?_;have o:=s1 o;exact hk H o
theorem EY {F : Env→AA→Prop} {σ : Env} {H0 H : AA} {l : Ob} {id fr : Nat} {x : Int} {a b i d : Nat} {A C I : List Int} {Xs : List AV} {As : List (List Int)} {ob : Ob} (h : ED iI Xs As ob)
  (o : A9 H0 H ((id,.cells 5 [iI x,.buf a A.length,.buf b C.length,.buf i I.length,.buf d Xs.length] fr)::(a,.cells 1 (A.map iI) 0)::(b,.cells 1 (C.map iI) 0)::(i,.cells 1 (I.map iI) 0)::(d,.cells 1 Xs 0)::(ob++l)))
  (hk : ∀ H',A9 H0 H' ((id,.cells 5 (Ax.cells ⟨x,A,C,I,As⟩) fr)::l)→EX F σ H') : EX F σ H:=by
 have hl:=h.len
 have od : A9 H0 H ((d,.cells 1 Xs 0)::(ob++((id,.cells 5 [iI x,.buf a A.length,.buf b C.length,.buf i I.length,.buf d Xs.length] fr)::(a,.cells 1 (A.map iI) 0)::(b,.cells 1 (C.map iI) 0)::(i,.cells 1 (I.map iI) 0)::l))):=o.pm;refine EA h [] H od fun H o=>?_;simp only [List.nil_append] at o;rw [hl] at o
 have o : A9 H0 H ((id,.cells 5 [iI x,.buf a A.length,.buf b C.length,.buf i I.length,.buf d As.length] fr)::(a,.cells 1 (A.map iI) 0)::(b,.cells 1 (C.map iI) 0)::(i,.cells 1 (I.map iI) 0)::(d,.cells 1 (As.map iL) 0)::l):=o.pm;exact Q9 o hk
theorem ED.row {α : Type} [Inhabited α] {f : α→AV} [One f] {Xs : List AV} {As : List (List α)} {ob : Ob} (h : ED f Xs As ob) {i : Nat} (hi : i<Xs.length) (hp : 0<(As.getD i []).length) :
  ∃ Bt,Xs.getD i nv=.buf Bt (As.getD i []).length∧∀ {H0 H : AA} {l : Ob} {id : Nat} {K : Ak} (o : A9 H0 H ((id,.cells 1 Xs 0)::(ob++l))) (y : Nat) (hy : y<(As.getD i []).length) (v : α) {c : AV} (hc : c=f v)
   (hk : ∀ H' ob',ED f Xs (As.set i ((As.getD i []).set y v)) ob'→A9 H0 H' ((id,.cells 1 Xs 0)::(ob'++l))→K nv H'),Ka (H.get Bt) Bt y 1 [c] K H:=by
 obtain ⟨p,r,h1,h2,h3⟩:=h.split i hi
 rcases h2 with ⟨_,_,e⟩ | ⟨Bt,rfl,e⟩
 ·rw [e] at hp; simp at hp
 ·refine ⟨Bt,e,fun {H0 H l id K} o y hy v {c} hc hk=>?_⟩
  have o1 : A9 H0 H ((Bt,.cells 1 ((As.getD i []).map f) 0)::(id,.cells 1 Xs 0)::(r++l)):=by
   refine o.perm (((List.Perm.append_right l h1).cons _).trans ?_);simp only [List.cons_append,List.nil_append];exact .swap _ _ _
  refine BT v o1 hc hy fun H' o2=>?_
  obtain ⟨o',k1,k2⟩:=h3 (.buf Bt ((As.getD i []).set y v).length) ((As.getD i []).set y v) [(Bt,.cells 1 (((As.getD i []).set y v).map f) 0)] (.inr ⟨Bt,rfl,rfl⟩)
  have e2 : Xs.set i (.buf Bt ((As.getD i []).set y v).length)=Xs:=by
   rw [List.length_set,← e];apply List.ext_getElem?
   intro j
   by_cases hj : i=j
   ·subst hj; rw [List.getElem?_set_self hi]; simp [Go.AW.gE,hi]
   ·rw [List.getElem?_set_ne hj]
  rw [e2] at k1;refine hk H' o' k1 (o2.perm ((List.Perm.swap _ _ _).trans (.cons _ ?_)))
  have:=List.Perm.append_right l k2.symm
  simpa using this
end Go.AW
namespace Go.Proofs.Shf
open Go.AW Go.Proofs Go.Shf
def b8 (r : AV) : Prop:=∃ c : Ax,r=.agg c.cells
theorem jQ (x : Int) (A C I : List Int) (D : List (List Int)) : b8 (.agg [iI x,iL A,iL C,iL I,B5 D]):=⟨⟨x,A,C,I,D⟩,rfl⟩
@[go_sem] def SR (C9 : Nat) (x : Int) (a : Nat) (A : List Int) (b : Nat) (C : List Int) (i : Nat) (I : List Int) (d : Nat) (Xs : List AV) (l : Ob) : Ob :=
 (C9,.cells 5 [iI x,.buf a A.length,.buf b C.length,.buf i I.length,.buf d Xs.length] 0)::(a,.cells 1 (A.map iI) 0)::(b,.cells 1 (C.map iI) 0)::(i,.cells 1 (I.map iI) 0)::(d,.cells 1 Xs 0)::l
theorem JP (B N : Nat) (hN : N≤65536) (c : Ax) (hc : c.Sh N) : Rd B 214 [.agg c.cells] b8:=by
 intro id s H0 H hs o;refine qJ.go fun _=>?_
 obtain ⟨cob,cil,cml,ctl,ccl,crow⟩:=hc;refine tt ?_;refine Ai o fun C9 H o=>tt ?_;refine Ai o fun B1 H o=>tt ?_;refine AO o.tl (by simp) (tt ?_);refine ID.go' (NL B c) o fun X1 p1 H ⟨a,b,i,d,Xs,ob,e1,hX,e2⟩ o _=>?_;subst e1 e2
 have Iw:=hX.len;refine tt ?_
 have o : A9 H0 H ((C9,AG.cells 5 [iI c.AF,iL c.AB,iL c.to,iL c.Ac,B5 c.comp] 0)::(a,.cells 1 (c.AB.map iI) 0)::(b,.cells 1 (c.to.map iI) 0)::(i,.cells 1 (c.Ac.map iI) 0)::(d,.cells 1 Xs 0)::(ob++[(id,s.obj),(B1,AG.cells 5 [.int .i64 0,.A0,.A0,.A0,.A0] 0)])):=o.pm;refine sw o fun H o=>tt ?_;refine AH o (by simp) (tt ?_)
 have DA : ∀ {H : AA} {s : Src} {Xs : List AV} {ob : Ob} {a b i : Nat} {A C I : List Int} {x : Int},A9 H0 H (SR C9 x a A b C i I d Xs (ob++[(id,s.obj),(B1,AG.cells 5 [.int .i64 0,.A0,.A0,.A0,.A0] 0)])) →
   A9 H0 H ((id,s.obj)::SR C9 x a A b C i I d Xs (ob++[(B1,AG.cells 5 [.int .i64 0,.A0,.A0,.A0,.A0] 0)])):=by
  intro H s Xs ob a b i A C I x o;unfold SR at o ⊢;exact o.pm
 have o:=DA (by unfold SR; exact o);unfold SR at o;refine (AY B c.AB.length).go hs o fun r s H _ ⟨f,e,hf0,R2,OU⟩ hs o=>?_;subst e
 obtain ⟨f,rfl⟩:=Int.eq_ofNat_of_zero_le hf0;refine tt ?_;refine (AY B 8).go hs o fun r s H _ ⟨v,e,_⟩ hs o=>?_;subst e;refine tt ?_;apply bk <;> intro q0
 focus
  refine tt ?_;refine AH o.tl (by simp) (tt ?_);refine (N0 B [IntKind.i64.wrap (c.AF+1),-1,9] (by simp)).go hs o fun r s H _ ⟨v,e,_⟩ hs o=>?_;subst e;refine tt ?_;refine sw o.swap fun H o=>tt ?_
  have o : A9 H0 H ((C9,.cells 5 [iI (v),.buf a (c.AB).length,.buf b (c.to).length,.buf i (c.Ac).length,.buf d (Xs).length] 0)::(a,.cells 1 ((c.AB).map iI) 0)::(b,.cells 1 ((c.to).map iI) 0)::(i,.cells 1 ((c.Ac).map iI) 0)::(d,.cells 1 (Xs) 0)::(ob++[(id,s.obj),(B1,AG.cells 5 [.int .i64 0,.A0,.A0,.A0,.A0] 0)])):=o.pm;refine EY hX o fun H o=>?_
 rotate_left 1;refine tt ?_;apply bk <;> intro q1
 focus
  refine tt ?_;refine AH o.tl (by simp) (tt ?_);refine BB _ (o.pull [_,_]) rfl rfl (by simp only [AN]; omega) fun a H A2 _ Xq o=>tt ?_;refine sw (o.pull [_,_]) fun H o=>tt ?_
  have o : A9 H0 H ((C9,.cells 5 [iI (c.AF),.buf a (A2).length,.buf b (c.to).length,.buf i (c.Ac).length,.buf d (Xs).length] 0)::(a,.cells 1 ((A2).map iI) 0)::(b,.cells 1 ((c.to).map iI) 0)::(i,.cells 1 ((c.Ac).map iI) 0)::(d,.cells 1 (Xs) 0)::(ob++[(id,s.obj),(B1,AG.cells 5 [.int .i64 0,.A0,.A0,.A0,.A0] 0)])):=o.pm;refine EY hX o fun H o=>?_
 rotate_left 1;refine tt ?_;apply bk <;> intro q2
 focus
  refine tt ?_;refine AH o.tl (by simp) (tt ?_);apply bk <;> intro g1
  focus
   have CO:=A6 g1;refine tt ?_;refine ⟨⟨_,_,o.tl.h0⟩,AH o.tl (by simp) ?_⟩;refine tt ?_;refine (AY B _).IE hs o fun r s H _ ⟨v,e,_⟩ hs o hz=>⟨hz, ?_⟩;subst e;refine tt ?_;refine ⟨by omega, ?_⟩;refine BT v (o.pull [_,_,_,_]) rfl (by omega) fun H o=>tt ?_
   have o : A9 H0 H ((C9,.cells 5 [iI (c.AF),.buf a (c.AB).length,.buf b (c.to).length,.buf i (c.Ac.set (Int.toNat 0) v).length,.buf d (Xs).length] 0)::(a,.cells 1 ((c.AB).map iI) 0)::(b,.cells 1 ((c.to).map iI) 0)::(i,.cells 1 ((c.Ac.set (Int.toNat 0) v).map iI) 0)::(d,.cells 1 (Xs) 0)::(ob++[(id,s.obj),(B1,AG.cells 5 [.int .i64 0,.A0,.A0,.A0,.A0] 0)])):=o.pm;refine EY hX o fun H o=>?_
  rotate_left 1;refine tt ?_
  have o : A9 H0 H ((C9,.cells 5 [iI (c.AF),.buf a (c.AB).length,.buf b (c.to).length,.buf i (c.Ac).length,.buf d (Xs).length] 0)::(a,.cells 1 ((c.AB).map iI) 0)::(b,.cells 1 ((c.to).map iI) 0)::(i,.cells 1 ((c.Ac).map iI) 0)::(d,.cells 1 (Xs) 0)::(ob++[(id,s.obj),(B1,AG.cells 5 [.int .i64 0,.A0,.A0,.A0,.A0] 0)])):=o.pm;refine EY hX o fun H o=>?_
 rotate_left 2;refine tt ?_;apply bk <;> intro q3
 focus
  refine tw q3 ?_;apply bk <;> intro g1
  focus
   have CO:=A6 g1
   have R2:=R2 (by omega)
   have Bf:=crow f (by omega);refine tt ?_;refine ⟨⟨_,_,o.tl.h0⟩,AH o.tl (by simp) ?_⟩;refine tt ?_;refine ⟨by omega, ?_⟩
   have od:=o.pull [_,_,_,_,_];simp only [List.cons_append,List.nil_append] at od;refine ⟨⟨_,_,od.h0⟩,AH od (by omega) ?_⟩
   obtain ⟨Bt,Ta,Td⟩:=hX.row (i:=f) (by omega) (by have : (c.comp.getD f []).length=c.AB.length:=Bf; omega);rw [Ta];refine tt ?_;refine (AY B _).IE hs o fun r s H _ ⟨v,e,Xl,C0,_⟩ hs o hz=>⟨hz, ?_⟩;subst e
   have C0:=C0 (by omega);refine tt ?_;refine (AY B _).IE hs o fun r s H _ ⟨v2,e,_⟩ hs o hz=>⟨hz, ?_⟩;subst e
   have WA : (c.comp.getD f []).length=c.AB.length:=Bf;refine tt ?_;refine ⟨by omega, ?_⟩
   have od : A9 H0 H ((d,AG.cells 1 Xs 0)::(ob++((id,s.obj)::(C9,.cells 5 [iI c.AF,.buf a c.AB.length,.buf b c.to.length,.buf i c.Ac.length,.buf d Xs.length] 0)::(a,.cells 1 (c.AB.map iI) 0)::(b,.cells 1 (c.to.map iI) 0)::(i,.cells 1 (c.Ac.map iI) 0)::[(B1,AG.cells 5 [.int .i64 0,.A0,.A0,.A0,.A0] 0)]))):=o.pm;refine Td od v.toNat (by omega) _ rfl fun H ob2 Uw o=>tt ?_
   have o : A9 H0 H ((C9,.cells 5 [iI (c.AF),.buf a (c.AB).length,.buf b (c.to).length,.buf i (c.Ac).length,.buf d (Xs).length] 0)::(a,.cells 1 ((c.AB).map iI) 0)::(b,.cells 1 ((c.to).map iI) 0)::(i,.cells 1 ((c.Ac).map iI) 0)::(d,.cells 1 (Xs) 0)::(ob2++[(id,s.obj),(B1,AG.cells 5 [.int .i64 0,.A0,.A0,.A0,.A0] 0)])):=o.pm;refine EY Uw o fun H o=>?_
  rotate_left 1;refine tt ?_
  have o : A9 H0 H ((C9,.cells 5 [iI (c.AF),.buf a (c.AB).length,.buf b (c.to).length,.buf i (c.Ac).length,.buf d (Xs).length] 0)::(a,.cells 1 ((c.AB).map iI) 0)::(b,.cells 1 ((c.to).map iI) 0)::(i,.cells 1 ((c.Ac).map iI) 0)::(d,.cells 1 (Xs) 0)::(ob++[(id,s.obj),(B1,AG.cells 5 [.int .i64 0,.A0,.A0,.A0,.A0] 0)])):=o.pm;refine EY hX o fun H o=>?_
 rotate_left 2;refine tt ?_;apply bk <;> intro q4
 focus
  refine tw q4 ?_;apply bk <;> intro g1
  focus
   have CO:=A6 g1
   have R2:=R2 (by omega)
   have Bf:=crow f (by omega);refine tt ?_;refine ⟨⟨_,_,o.tl.h0⟩,AH o.tl (by simp) ?_⟩;refine tt ?_;refine ⟨by omega, ?_⟩
   have od:=o.pull [_,_,_,_,_];simp only [List.cons_append,List.nil_append] at od;refine ⟨⟨_,_,od.h0⟩,AH od (by omega) ?_⟩
   obtain ⟨Bt,Ta,Td⟩:=hX.row (i:=f) (by omega) (by have : (c.comp.getD f []).length=c.AB.length:=Bf; omega);rw [Ta];refine tt ?_;refine (AY B _).IE hs o fun r s H _ ⟨v,e,Xl,C0,_⟩ hs o hz=>⟨hz, ?_⟩;subst e
   have C0:=C0 (by omega);refine tt ?_;refine (AY B _).IE hs o fun r s H _ ⟨v2,e,_⟩ hs o hz=>⟨hz, ?_⟩;subst e
   have WA : (c.comp.getD f []).length=c.AB.length:=Bf;refine tt ?_;refine ⟨by omega, ?_⟩
   have od : A9 H0 H ((d,AG.cells 1 Xs 0)::(ob++((id,s.obj)::(C9,.cells 5 [iI c.AF,.buf a c.AB.length,.buf b c.to.length,.buf i c.Ac.length,.buf d Xs.length] 0)::(a,.cells 1 (c.AB.map iI) 0)::(b,.cells 1 (c.to.map iI) 0)::(i,.cells 1 (c.Ac.map iI) 0)::[(B1,AG.cells 5 [.int .i64 0,.A0,.A0,.A0,.A0] 0)]))):=o.pm;refine Td od v.toNat (by omega) _ rfl fun H ob2 Uw o=>tt ?_
   have o : A9 H0 H ((C9,.cells 5 [iI (c.AF),.buf a (c.AB).length,.buf b (c.to).length,.buf i (c.Ac).length,.buf d (Xs).length] 0)::(a,.cells 1 ((c.AB).map iI) 0)::(b,.cells 1 ((c.to).map iI) 0)::(i,.cells 1 ((c.Ac).map iI) 0)::(d,.cells 1 (Xs) 0)::(ob2++[(id,s.obj),(B1,AG.cells 5 [.int .i64 0,.A0,.A0,.A0,.A0] 0)])):=o.pm;refine EY Uw o fun H o=>?_
  rotate_left 1;refine tt ?_
  have o : A9 H0 H ((C9,.cells 5 [iI (c.AF),.buf a (c.AB).length,.buf b (c.to).length,.buf i (c.Ac).length,.buf d (Xs).length] 0)::(a,.cells 1 ((c.AB).map iI) 0)::(b,.cells 1 ((c.to).map iI) 0)::(i,.cells 1 ((c.Ac).map iI) 0)::(d,.cells 1 (Xs) 0)::(ob++[(id,s.obj),(B1,AG.cells 5 [.int .i64 0,.A0,.A0,.A0,.A0] 0)])):=o.pm;refine EY hX o fun H o=>?_
 rotate_left 2;refine tt ?_;apply bk <;> intro q5
 focus
  refine tw q5 ?_;apply bk <;> intro g1
  focus
   have CO:=A6 g1
   have R2:=R2 (by omega)
   have Bf:=crow f (by omega);refine tt ?_;refine ⟨⟨_,_,o.tl.h0⟩,AH o.tl (by simp) ?_⟩;refine tt ?_;refine ⟨by omega, ?_⟩
   have od:=o.pull [_,_,_,_,_];simp only [List.cons_append,List.nil_append] at od;refine ⟨⟨_,_,od.h0⟩,AH od (by omega) ?_⟩
   obtain ⟨Bt,Ta,Td⟩:=hX.row (i:=f) (by omega) (by have : (c.comp.getD f []).length=c.AB.length:=Bf; omega);rw [Ta];refine tt ?_;refine (AY B _).IE hs o fun r s H _ ⟨v,e,Xl,C0,_⟩ hs o hz=>⟨hz, ?_⟩;subst e
   have C0:=C0 (by omega);refine tt ?_;refine (AY B _).IE hs o fun r s H _ ⟨v2,e,_⟩ hs o hz=>⟨hz, ?_⟩;subst e
   have WA : (c.comp.getD f []).length=c.AB.length:=Bf;refine tt ?_;refine ⟨by omega, ?_⟩
   have od : A9 H0 H ((d,AG.cells 1 Xs 0)::(ob++((id,s.obj)::(C9,.cells 5 [iI c.AF,.buf a c.AB.length,.buf b c.to.length,.buf i c.Ac.length,.buf d Xs.length] 0)::(a,.cells 1 (c.AB.map iI) 0)::(b,.cells 1 (c.to.map iI) 0)::(i,.cells 1 (c.Ac.map iI) 0)::[(B1,AG.cells 5 [.int .i64 0,.A0,.A0,.A0,.A0] 0)]))):=o.pm;refine Td od v.toNat (by omega) _ rfl fun H ob2 Uw o=>tt ?_
   have o : A9 H0 H ((C9,.cells 5 [iI (c.AF),.buf a (c.AB).length,.buf b (c.to).length,.buf i (c.Ac).length,.buf d (Xs).length] 0)::(a,.cells 1 ((c.AB).map iI) 0)::(b,.cells 1 ((c.to).map iI) 0)::(i,.cells 1 ((c.Ac).map iI) 0)::(d,.cells 1 (Xs) 0)::(ob2++[(id,s.obj),(B1,AG.cells 5 [.int .i64 0,.A0,.A0,.A0,.A0] 0)])):=o.pm;refine EY Uw o fun H o=>?_
  rotate_left 1;refine tt ?_
  have o : A9 H0 H ((C9,.cells 5 [iI (c.AF),.buf a (c.AB).length,.buf b (c.to).length,.buf i (c.Ac).length,.buf d (Xs).length] 0)::(a,.cells 1 ((c.AB).map iI) 0)::(b,.cells 1 ((c.to).map iI) 0)::(i,.cells 1 ((c.Ac).map iI) 0)::(d,.cells 1 (Xs) 0)::(ob++[(id,s.obj),(B1,AG.cells 5 [.int .i64 0,.A0,.A0,.A0,.A0] 0)])):=o.pm;refine EY hX o fun H o=>?_
 rotate_left 2;refine tw q5 ?_;apply bk <;> intro q6
 focus
  refine tt ?_;apply bk <;> intro g1
  focus
   have CO:=A6 g1
   have R2:=R2 (by omega);refine tt ?_;refine ⟨⟨_,_,o.tl.h0⟩,AH o.tl (by simp) ?_⟩;refine tt ?_;refine ⟨⟨_,_,o.tl.h0⟩,AH o.tl (by simp) ?_⟩;refine tt ?_;refine (AY B _).IE hs o fun r s H _ ⟨v,e,_⟩ hs o hz=>⟨hz, ?_⟩;subst e;refine tt ?_;refine ⟨by omega, ?_⟩;refine BT v (o.pull [_,_,_]) rfl (by omega) fun H o=>tt ?_
   have o : A9 H0 H ((C9,.cells 5 [iI (c.AF),.buf a (c.AB).length,.buf b (c.to.set f v).length,.buf i (c.Ac).length,.buf d (Xs).length] 0)::(a,.cells 1 ((c.AB).map iI) 0)::(b,.cells 1 ((c.to.set f v).map iI) 0)::(i,.cells 1 ((c.Ac).map iI) 0)::(d,.cells 1 (Xs) 0)::(ob++[(id,s.obj),(B1,AG.cells 5 [.int .i64 0,.A0,.A0,.A0,.A0] 0)])):=o.pm;refine EY hX o fun H o=>?_
  rotate_left 1;refine tt ?_
  have o : A9 H0 H ((C9,.cells 5 [iI (c.AF),.buf a (c.AB).length,.buf b (c.to).length,.buf i (c.Ac).length,.buf d (Xs).length] 0)::(a,.cells 1 ((c.AB).map iI) 0)::(b,.cells 1 ((c.to).map iI) 0)::(i,.cells 1 ((c.Ac).map iI) 0)::(d,.cells 1 (Xs) 0)::(ob++[(id,s.obj),(B1,AG.cells 5 [.int .i64 0,.A0,.A0,.A0,.A0] 0)])):=o.pm;refine EY hX o fun H o=>?_
 rotate_left 2;refine tt ?_
 have od : A9 H0 H ((d,AG.cells 1 Xs 0)::(ob++((id,s.obj)::(C9,.cells 5 [iI c.AF,.buf a c.AB.length,.buf b c.to.length,.buf i c.Ac.length,.buf d Xs.length] 0)::(a,.cells 1 (c.AB.map iI) 0)::(b,.cells 1 (c.to.map iI) 0)::(i,.cells 1 (c.Ac.map iI) 0)::[(B1,AG.cells 5 [.int .i64 0,.A0,.A0,.A0,.A0] 0)]))):=o.pm;refine EA hX [] H od fun H o=>AX ?_;simp only [List.nil_append] at o;refine tt ?_;apply bk <;> intro g1
 focus
  have CO:=A6 g1
  have R2:=R2 (by omega)
  have Bf:=crow f (by omega);refine tt ?_;refine ⟨⟨_,_,o.tl.tl.h0⟩,AH o.tl.tl (by simp) ?_⟩;refine tt ?_;refine ⟨⟨_,_,o.tl.tl.h0⟩,AH o.tl.tl (by simp) ?_⟩;refine tt ?_;refine ⟨by omega,⟨_,_,o.h0⟩,CI (f:=iL) o (by omega) ?_⟩;refine tt ?_;refine ⟨⟨by omega,by omega⟩,by omega, ?_⟩;refine BT (f:=iL) ((c.comp.getD f default).drop (Int.toNat 1)) o rfl (by omega) fun H o=>tt ?_
  have o : A9 H0 H ((C9,.cells 5 [iI c.AF,.buf a c.AB.length,.buf b c.to.length,.buf i c.Ac.length,.buf d (c.comp.set f ((c.comp.getD f default).drop (Int.toNat 1))).length] 0)::(a,.cells 1 (c.AB.map iI) 0)::(b,.cells 1 (c.to.map iI) 0)::(i,.cells 1 (c.Ac.map iI) 0)::(d,.cells 1 ((c.comp.set f ((c.comp.getD f default).drop (Int.toNat 1))).map iL) 0)::[(id,s.obj),(B1,AG.cells 5 [.int .i64 0,.A0,.A0,.A0,.A0] 0)]):=by
   rw [show Xs.length=c.comp.length from Iw] at o;exact o.pm
  refine Q9 o fun H o=>?_
 rotate_left 1;refine tt ?_
 have o : A9 H0 H ((C9,.cells 5 [iI c.AF,.buf a c.AB.length,.buf b c.to.length,.buf i c.Ac.length,.buf d (c.comp).length] 0)::(a,.cells 1 (c.AB.map iI) 0)::(b,.cells 1 (c.to.map iI) 0)::(i,.cells 1 (c.Ac.map iI) 0)::(d,.cells 1 ((c.comp).map iL) 0)::[(id,s.obj),(B1,AG.cells 5 [.int .i64 0,.A0,.A0,.A0,.A0] 0)]):=by
  have:=Iw;rw [show Xs.length=c.comp.length from Iw] at o;exact o.pm
 refine Q9 o fun H o=>?_
 all_goals
  refine AX ?_;refine tt ?_;refine AO o (by simp [Ax.cells]) ?_;try simp only [go_sem,↓reduceIte,reduceEqDiff,reduceAdd,reduceMul,reduceLeDiff,reduceLT,Ax.cells]
  refine sw (o.pull [_,_]) fun H o=>tt ?_
  have CG:=o.rc 5 0 (by simp);simp only [List.drop_zero] at CG;rw [CG];refine tt ?_;exact B4 (jQ _ _ _ _ _) hs (o.pull [_,_])
theorem VG : ∀ {ms : List FB} {m : FB},m∈ms→(Ic [m]).Sublist (Ic ms)
 | a::r,m,h=>by
  have e : Ic (a::r)=Ic [a]++Ic r:=by simp [Ic]
  rw [e]
  rcases List.mem_cons.mp h with rfl | h
  ·exact List.sublist_append_left _ _
  ·exact (VG h).trans (List.sublist_append_right _ _)
def iz (c d : Ax) (X : AV) (p : Ob) : Prop:=∃ m : FB,X=EZ c d m∧p=Ic [m]∧iG c d m.1.2∧Fn c d m.1.2 m.2.2
theorem Vk {n : Nat} {y x : Int} (h : 0≤x∧x<n) : ix (List.replicate n y) x=y:=by
 have : x.toNat<n:=by omega
 simp [ix,Go.AW.gE,List.getElem?_replicate,this]
def OL (n : Nat) : List Int:=(List.range n).map Int.ofNat
theorem Kz (n : Nat) : OL (n+1)=OL n++[(n : Int)]:=by simp [OL,List.range_succ]
theorem Wh (n : Nat) : (OL n).length=n:=by simp [OL]
theorem cY {n : Nat} {x : Int} (h : 0≤x∧x<n) : ix (OL n) x=x:=by
 rw [ix,OL,Ab _ _ (by omega)]; exact Int.toNat_of_nonneg h.1
theorem ZW {c d : Ax} (hc : c.Shape) (hd : d.Shape) {y : Int} (hy : d.ES y) : iG c d (List.replicate c.AF.toNat y)∧Fn c d (List.replicate c.AF.toNat y) (List.replicate c.AB.length (ix d.Ac y)):=by
 have so:=hc.o
 have k:=hd.HJ hy
 have e : ∀ x,c.ES x→ix (List.replicate c.AF.toNat y) x=y:=fun x hx=>Vk ⟨hx.1,by have:=hx.2; omega⟩
 have ea : ∀ a,c.DB a→ix (List.replicate c.AB.length (ix d.Ac y)) a=ix d.Ac y:=fun a ha=>Vk ⟨ha.1,by have:=ha.1; have:=ha.2; omega⟩;refine ⟨⟨by simp; omega,fun x hx=>by rw [e x hx]; exact hy⟩,⟨by simp,fun a ha=>.inr ?_⟩,fun i hi=>?_⟩
 ·rw [ea a ha];exact ⟨k.1,by rw [k.2.1,e _ (hc.pO ha)],by rw [k.2.2,e _ (hc.qR ha)]⟩
 ·have:=ea i ⟨by omega,by simpa using hi⟩;rw [AR] at this;rw [this]; exact k.1.1
theorem Pv {c : Ax} (hc : c.Shape) : iG c c (OL c.AF.toNat)∧Fn c c (OL c.AF.toNat) (OL c.AB.length):=by
 have so:=hc.o
 have e : ∀ x,c.ES x→ix (OL c.AF.toNat) x=x:=fun x hx=>cY ⟨hx.1,by have:=hx.2; omega⟩
 have ea : ∀ a,c.DB a→ix (OL c.AB.length) a=a:=fun a ha=>cY ⟨ha.1,by have:=ha.1; have:=ha.2; omega⟩;refine ⟨⟨by rw [Wh]; omega,fun x hx=>by rw [e x hx]; exact hx⟩,⟨Wh _,fun a ha=>.inr ?_⟩,fun i hi=>?_⟩
 ·rw [ea a ha];exact ⟨ha,by rw [e _ (hc.pO ha)],by rw [e _ (hc.qR ha)]⟩
 ·have:=ea i ⟨by omega,by simpa using hi⟩;rw [AR] at this;rw [this]; omega
theorem PE (B : Nat) {c d : Ax} (hc : c.Shape) (hd : d.Shape) {y : Int} (hy : d.ES y) : ID Tryz.prog B 294 [.agg c.cells,.agg d.cells,iI y] fun p X=>iz c d X p:=by
 refine ⟨fun H0=>sP.go fun _=>?_⟩
 have so:=hc.o
 have sm:=hc.m
 have jj:=hd.mZ hy
 have o : A9 H0 H0 []:=.nil _;refine tt ?_;refine nb o fun Ba H o=>tt ?_;refine AP o fun CT H o=>tt ?_;refine AP o fun Cm H o=>tt ?_
 refine AD [2,3,4,6,8] (G:=Nat × List Int) (fun k g=>[(7,some (.buf g.1 g.2.length)),(9,some (.int .i64 (k : Int)))])
  (fun k g H=>(g.2.length=k∧g.2=List.replicate k y)∧A9 H0 H [(g.1,.cells 1 (g.2.map iI) 0),(Cm,.cells 1 (([] : List Int).map iI) 0),(Ba,.cells 12 [.int .i64 0,.A0,.A0,.A0,.A0,.int .i64 0,.A0,.A0,.A0,.A0,.A0,.A0] 0)]) c.AF.toNat (CT,[]) ⟨⟨rfl,rfl⟩,o.swap⟩ rfl ?_
 clear o
 rintro k ⟨CT,out⟩ H hk ⟨⟨hl,hx⟩,o⟩;dsimp only at hx hl o;refine tt ?_;apply bk <;> intro h1
 ·have AU:=A6 h1
  have w:=ws k;refine tt ?_;refine Ae y o rfl rfl (by simp only [AN]; omega) fun id H o=>?_;refine tw w ?_;exact A4 (id,out++[y]) (by omega) ⟨⟨by simp [hl],by rw [hx,← List.replicate_succ']⟩,o⟩ rfl
 have AU:=A7 h1;clear h1;refine tt ?_
 refine AD [2,3,4,6,7] (G:=Nat × List Int) (fun k g=>[(8,some (.buf g.1 g.2.length)),(10,some (.int .i64 (k : Int)))])
  (fun k g H=>(g.2.length=k∧g.2=List.replicate k (ix d.Ac y))∧A9 H0 H [(g.1,.cells 1 (g.2.map iI) 0),(CT,.cells 1 (out.map iI) 0),(Ba,.cells 12 [.int .i64 0,.A0,.A0,.A0,.A0,.int .i64 0,.A0,.A0,.A0,.A0,.A0,.A0] 0)]) c.AB.length (Cm,[]) ⟨⟨rfl,rfl⟩,o.swap⟩ rfl ?_
 clear o
 rintro j ⟨Cm,ar⟩ H hj ⟨⟨Ce,Lv⟩,o⟩;dsimp only at Lv Ce o;refine tt ?_;apply bk <;> intro h1
 ·have AU:=A6 h1
  have w:=ws j;refine tt ?_;refine ⟨jj, ?_⟩;refine Ae (ix d.Ac y) o rfl rfl (by simp only [AN]; omega) fun id H o=>?_;refine tw w ?_;exact A4 (id,ar++[ix d.Ac y]) (by omega) ⟨⟨by simp [Ce],by rw [Lv,← List.replicate_succ']⟩,o⟩ rfl
 have Aq:=A7 h1
 have ty:=ZW hc hd hy
 obtain rfl : k=c.AF.toNat:=by omega
 obtain rfl : j=c.AB.length:=by omega
 rw [← hx,← Lv] at ty;clear h1;refine tt ?_;refine Am o rfl fun H o=>tt ?_;refine Am o rfl fun H o=>tt ?_;refine ((NS B c d out ar).run H).mono ?_
 rintro r H ⟨p,⟨u,v,rfl,rfl⟩,o2⟩
 have o:=o.trans o2;refine tt ?_;refine sw (o.pull [_,_]) fun H o=>tt ?_;rw [o.rc 12 0 (by simp)];refine tt ?_;exact ⟨H,.refl H,_,⟨((u,out),(v,ar)),rfl,rfl,ty⟩,o.tl⟩
theorem bQ (B : Nat) {c : Ax} (hc : c.Shape) : ID Tryz.prog B 273 [.agg c.cells] fun p X=>iz c c X p:=by
 refine ⟨fun H0=>tV.go fun _=>?_⟩
 have so:=hc.o
 have sm:=hc.m
 have o : A9 H0 H0 []:=.nil _;refine tt ?_;refine nb o fun Ba H o=>tt ?_;refine AP o fun CT H o=>tt ?_;refine AP o fun Cm H o=>tt ?_
 refine AD [1,2,4] (G:=Nat × List Int) (fun k g=>[(3,some (.buf g.1 g.2.length)),(5,some (.int .i64 (k : Int)))])
  (fun k g H=>(g.2.length=k∧g.2=OL k)∧A9 H0 H [(g.1,.cells 1 (g.2.map iI) 0),(Cm,.cells 1 (([] : List Int).map iI) 0),(Ba,.cells 12 [.int .i64 0,.A0,.A0,.A0,.A0,.int .i64 0,.A0,.A0,.A0,.A0,.A0,.A0] 0)]) c.AF.toNat (CT,[]) ⟨⟨rfl,rfl⟩,o.swap⟩ rfl ?_
 clear o
 rintro k ⟨CT,out⟩ H hk ⟨⟨hl,hx⟩,o⟩;dsimp only at hx hl o;refine tt ?_;apply bk <;> intro h1
 ·have AU:=A6 h1
  have w:=ws k;refine tt ?_;refine Ae (k : Int) o rfl rfl (by simp only [AN]; omega) fun id H o=>?_;refine tw w ?_;exact A4 (id,out++[(k : Int)]) (by omega) ⟨⟨by simp [hl],by rw [hx,← Kz]⟩,o⟩ rfl
 have AU:=A7 h1;clear h1;refine tt ?_
 refine AD [1,2,3] (G:=Nat × List Int) (fun k g=>[(4,some (.buf g.1 g.2.length)),(6,some (.int .i64 (k : Int)))])
  (fun k g H=>(g.2.length=k∧g.2=OL k)∧A9 H0 H [(g.1,.cells 1 (g.2.map iI) 0),(CT,.cells 1 (out.map iI) 0),(Ba,.cells 12 [.int .i64 0,.A0,.A0,.A0,.A0,.int .i64 0,.A0,.A0,.A0,.A0,.A0,.A0] 0)]) c.AB.length (Cm,[]) ⟨⟨rfl,rfl⟩,o.swap⟩ rfl ?_
 clear o
 rintro j ⟨Cm,ar⟩ H hj ⟨⟨Ce,Lv⟩,o⟩;dsimp only at Lv Ce o;refine tt ?_;apply bk <;> intro h1
 ·have AU:=A6 h1
  have w:=ws j;refine tt ?_;refine Ae (j : Int) o rfl rfl (by simp only [AN]; omega) fun id H o=>?_;refine tw w ?_;exact A4 (id,ar++[(j : Int)]) (by omega) ⟨⟨by simp [Ce],by rw [Lv,← Kz]⟩,o⟩ rfl
 have Aq:=A7 h1
 have ty:=Pv hc
 obtain rfl : k=c.AF.toNat:=by omega
 obtain rfl : j=c.AB.length:=by omega
 rw [← hx,← Lv] at ty;clear h1;refine tt ?_;refine Am o rfl fun H o=>tt ?_;refine Am o rfl fun H o=>tt ?_;refine ((NS B c c out ar).run H).mono ?_
 rintro r H ⟨p,⟨u,v,rfl,rfl⟩,o2⟩
 have o:=o.trans o2;refine tt ?_;refine sw (o.pull [_,_]) fun H o=>tt ?_;rw [o.rc 12 0 (by simp)];refine tt ?_;exact ⟨H,.refl H,_,⟨((u,out),(v,ar)),rfl,rfl,ty⟩,o.tl⟩
theorem ZX (B : Nat) (c d : Ax) (ob ar : List Int) : PB B 295 [.agg c.cells,.agg d.cells,iL ob,iL ar] (.agg (FU.cells ⟨c,d,ob,ar⟩)):=by
 refine ⟨fun H0=>rm.go fun _=>?_⟩
 have o : A9 H0 H0 []:=.nil _;refine tt ?_;refine nb o fun Cm H o=>tt ?_;refine ⟨_,(DI B c).run,_,(DI B d).run,_,(CX B ob).run,_,(CX B ar).run,tt ?_⟩;refine sw o fun H o=>tt ?_
 have hr:=o.rc 12 0 (by simp);simp only [List.drop_zero] at hr;rw [hr];exact A5 rfl o.sub
theorem Mf (B : Nat) {c : Ax} (hc : c.Shape) : PB B 273 [.agg c.cells] (.agg (FU.cells ⟨c,c,OL c.AF.toNat,OL c.AB.length⟩)):=by
 refine ⟨fun H0=>tV.go fun _=>?_⟩
 have so:=hc.o
 have sm:=hc.m
 have o : A9 H0 H0 []:=.nil _;refine tt ?_;refine nb o fun Ba H o=>tt ?_;refine AP o fun CT H o=>tt ?_;refine AP o fun Cm H o=>tt ?_
 refine AD [1,2,4] (G:=Nat × List Int) (fun k g=>[(3,some (.buf g.1 g.2.length)),(5,some (.int .i64 (k : Int)))])
  (fun k g H=>(g.2.length=k∧g.2=OL k)∧A9 H0 H [(g.1,.cells 1 (g.2.map iI) 0),(Cm,.cells 1 (([] : List Int).map iI) 0),(Ba,.cells 12 [.int .i64 0,.A0,.A0,.A0,.A0,.int .i64 0,.A0,.A0,.A0,.A0,.A0,.A0] 0)]) c.AF.toNat (CT,[]) ⟨⟨rfl,rfl⟩,o.swap⟩ rfl ?_
 clear o
 rintro k ⟨CT,out⟩ H hk ⟨⟨hl,hx⟩,o⟩;dsimp only at hx hl o;refine tt ?_;apply bk <;> intro h1
 ·have AU:=A6 h1
  have w:=ws k;refine tt ?_;refine Ae (k : Int) o rfl rfl (by simp only [AN]; omega) fun id H o=>?_;refine tw w ?_;exact A4 (id,out++[(k : Int)]) (by omega) ⟨⟨by simp [hl],by rw [hx,← Kz]⟩,o⟩ rfl
 have AU:=A7 h1;clear h1;refine tt ?_
 refine AD [1,2,3] (G:=Nat × List Int) (fun k g=>[(4,some (.buf g.1 g.2.length)),(6,some (.int .i64 (k : Int)))])
  (fun k g H=>(g.2.length=k∧g.2=OL k)∧A9 H0 H [(g.1,.cells 1 (g.2.map iI) 0),(CT,.cells 1 (out.map iI) 0),(Ba,.cells 12 [.int .i64 0,.A0,.A0,.A0,.A0,.int .i64 0,.A0,.A0,.A0,.A0,.A0,.A0] 0)]) c.AB.length (Cm,[]) ⟨⟨rfl,rfl⟩,o.swap⟩ rfl ?_
 clear o
 rintro j ⟨Cm,ar⟩ H hj ⟨⟨Ce,Lv⟩,o⟩;dsimp only at Lv Ce o;refine tt ?_;apply bk <;> intro h1
 ·have AU:=A6 h1
  have w:=ws j;refine tt ?_;refine Ae (j : Int) o rfl rfl (by simp only [AN]; omega) fun id H o=>?_;refine tw w ?_;exact A4 (id,ar++[(j : Int)]) (by omega) ⟨⟨by simp [Ce],by rw [Lv,← Kz]⟩,o⟩ rfl
 have Aq:=A7 h1;clear h1;refine tt ?_;refine Am o rfl fun H o=>tt ?_;refine Am o rfl fun H o=>tt ?_;refine (ZX B c c out ar).go fun _=>tt ?_;refine sw o fun H o=>tt ?_
 have hr:=o.rc 12 0 (by simp);simp only [List.drop_zero] at hr;rw [hr]
 have e1 : k=c.AF.toNat:=by omega
 have e2 : j=c.AB.length:=by omega
 exact A5 (by rw [hx,Lv,e1,e2]; rfl) o.sub
theorem b7 (B : Nat) (N : Nat) (hN : N≤4096) (c : Ax) (hg : c.Good N) : PB B 247 [.agg c.cells] (.agg (bt c).cells):=by
 refine ⟨fun H0=>s8.go fun hf=>?_⟩
 have hc:=hg.1
 have Ee:=hc.ob
 have ET:=hc.ml
 have Jc:=hc.tl
 have RG:=hc.cl
 have Bf:=hc.row;refine tt ?_;refine Ai (.nil _) fun GD H o=>tt ?_;refine ⟨_,(CX ..).run,tt ?_⟩;refine ⟨_,(CX ..).run,tt ?_⟩;refine ⟨_,(CX ..).run,tt ?_⟩;refine Ai o fun C9 H o=>tt ?_;refine sw o fun H o=>tt ?_
 refine AD [1,2,3] (G:=AV × Ob × List (List Int)) (fun k _=>[(4,some (.int .i64 (k : Int)))])
  (fun k g H=>zU iL g.2.1 g.1 g.2.2∧g.2.2=(List.range k).map (fun f=>(List.range c.AB.length).map fun g=>(c.comp.getD g default).getD f default)∧A9 H0 H (g.2.1++[(C9,AG.cells 5 [iI c.AF,iL c.to,iL c.AB,iL c.Ac,g.1] 0),(GD,AG.cells 5 [iI 0,.A0,.A0,.A0,.A0] 0)])) c.AB.length (.Dg,[],[])
  ⟨.inl ⟨rfl,rfl,rfl⟩,rfl,o⟩ rfl ?_
 clear o
 rintro k ⟨X,p,A⟩ H hk ⟨hX,hE,o⟩;dsimp only at hX hE
 have hA : A.length=k:=by rw [hE]; simp
 dsimp only at o;refine tt ?_;apply bk <;> intro h1
 ·have AU:=A6 h1;refine tt ?_;refine AP o fun Bt H o=>tt ?_
  refine AD [1,2,3,4] (G:=Nat × List Int) (fun j g=>[(5,some (.buf g.1 g.2.length)),(6,some (.int .i64 (j : Int)))])
   (fun j g H=>g.2=(List.range j).map (fun g=>(c.comp.getD g default).getD k default)∧A9 H0 H ((g.1,.cells 1 (g.2.map iI) 0)::(p++[(C9,AG.cells 5 [iI c.AF,iL c.to,iL c.AB,iL c.Ac,X] 0),(GD,AG.cells 5 [iI 0,.A0,.A0,.A0,.A0] 0)]))) c.AB.length (Bt,[]) ⟨rfl,o⟩ rfl ?_
  clear o
  rintro j ⟨Bt,row⟩ H hj ⟨Dv,o⟩;dsimp only at Dv
  have WA : row.length=j:=by rw [Dv]; simp
  dsimp only at o;refine tt ?_;apply bk <;> intro h2
  ·have Aq:=A6 h2
   have w:=ws j
   have xL:=Bf j Aq;refine tt ?_;refine ⟨by omega,by omega, ?_⟩;refine Ae _ o rfl rfl (by simp only [AN]; omega) fun Bt H o=>?_;refine tw w ?_;exact A4 (Bt,_) Aq ⟨by rw [Dv,List.range_succ,List.map_append]; simp [ix],o⟩ rfl
  ·have Aq:=A7 h2
   have Ng : j=c.AB.length:=by omega
   refine tt ?_;refine Am o rfl fun H o=>tt ?_;refine Aj (o.get (C9,AG.cells 5 [iI c.AF,iL c.to,iL c.AB,iL c.Ac,X] 0) (by simp)) (by simp) (tt ?_);refine (hX.o o).app row rfl (by simp only [AN]; omega) fun Bz H o=>tt ?_;refine sw o.swap fun H o=>?_
   have w:=ws k;refine tw w ?_
   exact A4 (_,[(Bz,.cells 1 ((A++[row]).map iL) 0)],A++[row]) AU ⟨.inr ⟨Bz,rfl,rfl⟩,by
    show A++[row]=_
    rw [hE,Dv,Ng,List.range_succ (n:=k),List.map_append]; simp,o.swap⟩ rfl
 ·have AU:=A7 h1;refine tt ?_;refine rK 4 hX o rfl fun H o=>AX ?_;have o:=s1 o;refine tt ?_;refine AO o (by simp) (tt ?_);refine sw o.swap fun H o=>tt ?_
  have CG:=o.rc 5 0 (by simp);simp only [List.drop_zero] at CG;rw [CG];refine tt ?_
  have dQ : k=c.AB.length:=by omega
  exact A5 (by rw [hE,dQ]; rfl) o.sub
end Go.Proofs.Shf
namespace Go.AW
open Go.Shf
theorem ED.eG {α : Type} [Inhabited α] {f : α→AV} [One f] {Xs : List AV} {As : List (List α)} {ob : Ob} (h : ED f Xs As ob) {i : Nat} (hi : i<Xs.length) (hp : 0<(As.getD i []).length) :
  ∃ Bt,Xs.getD i nv=.buf Bt (As.getD i []).length∧∀ {H0 H : AA} {l : Ob},A9 H0 H l→(∀ x,x∈ob→x∈l)→H.get Bt=some (.cells 1 ((As.getD i []).map f) 0):=by
 obtain ⟨p,r,h1,h2,h3⟩:=h.split i hi
 obtain ⟨Bt,e1,e2⟩:=h2.sub hp;refine ⟨Bt,e2,fun o hm=>?_⟩
 have hx : (Bt,AG.cells 1 ((As.getD i []).map f) 0)∈ob:=h1.mem_iff.mpr (by rw [e1]; simp);exact o.get _ (hm _ hx)
theorem qQ {H0 H : AA} {l : Ob} {K : Ak} {Y : AV} (o : A9 H0 H l) (h1 : Y.cells=[Y]) (h2 : Y.one=true)
  (hk : ∀ Bz H',A9 H0 H' ((Bz,.cells 1 [Y] 0)::l)→K (.buf Bz 1) H') : Co 1 (some .Dg) (some (.sl [Y])) K H:=by
 have DW : Cc 1 [Y]:=by
  intro e he;rw [List.mem_singleton] at he; subst he;rw [h1];exact ⟨rfl,fun c hc=>by rw [List.mem_singleton] at hc; subst hc; exact h2⟩
 simp only [Co,C5,YU];refine ⟨⟨by simp,by simp [AN],by simp [AN],DW⟩,fun id hn=>?_⟩
 have HB : flat [Y]=[Y]:=by simp [flat,h1]
 rw [HB];exact hk id _ (o.new hn (.cells 1 [Y] 0))
def TH (p : Ob) (X : AV) (S : List (List Int)) : Prop :=
 (X=.Dg∧p=[]∧S=[])∨∃ (id : Nat) (Xs : List AV) (ob : Ob),X=.buf id Xs.length∧p=(id,.cells 1 Xs 0)::ob∧ED iI Xs S ob
theorem TH.one {p : Ob} {X : AV} {S : List (List Int)} (h : TH p X S) : X.one=true:=by
 rcases h with ⟨rfl,_,_⟩ | ⟨_,_,_,rfl,_,_⟩ <;> rfl
theorem TH.app {p : Ob} {X : AV} {S : List (List Int)} {H0 H : AA} {l : Ob} {K : Ak} {b : Nat} {row : List Int} {n : Nat} (h : TH p X S) (o : A9 H0 H ((b,.cells 1 (row.map iI) 0)::(p++l))) (hn : n=row.length) (hm : S.length+1≤AN)
  (hk : ∀ id Xs ob H',ED iI Xs (S++[row]) ob→A9 H0 H' ((id,.cells 1 Xs 0)::(ob++l))→K (.buf id Xs.length) H') : Co 1 (some X) (some (.sl [.buf b n])) K H:=by
 subst hn
 rcases h with ⟨rfl,rfl,rfl⟩ | ⟨id,Xs,ob,rfl,rfl,hR⟩
 ·exact qQ o rfl rfl fun Bz H' o=>hk Bz [.buf b row.length] [(b,.cells 1 (row.map iI) 0)] H' (ED.cons (p:=[(b,.cells 1 (row.map iI) 0)]) (.inr ⟨b,rfl,rfl⟩) .nil) o
 ·have hl:=hR.len;refine VF (l:=(b,.cells 1 (row.map iI) 0)::(ob++l)) (o.swap) rfl rfl rfl (by omega) fun Bz H' o=>?_
  have:=hk Bz (Xs++[.buf b row.length]) (ob++[(b,.cells 1 (row.map iI) 0)]) H' (hR.eO (.inr ⟨b,rfl,rfl⟩)) (o.pm);rw [List.length_append,List.length_singleton] at this;exact this
theorem TH.buf {p : Ob} {X : AV} {S : List (List Int)} (h : TH p X S) (hS : 0<S.length) : ∃ (id : Nat) (Xs : List AV) (ob : Ob),X=.buf id Xs.length∧p=(id,.cells 1 Xs 0)::ob∧ED iI Xs S ob:=by
 rcases h with ⟨_,_,rfl⟩ | h
 ·simp at hS
 ·exact h
end Go.AW
namespace Go.Shf
open Go.AW
def Bi (b c : Ax) (X Y Z : AV) : List AV:=[iI b.AF,iL b.AB,iL b.to,iL b.Ac,B5 b.comp,iI c.AF,iL c.AB,iL c.to,iL c.Ac,B5 c.comp,X,Y,Z]
def TI (b c : Ax) (p : Ob) (X : AV) : Prop:=∃ (XS : AV) (S : List (List Int)) (Y Z : List (List (List Int))),X=.agg (Bi b c XS (BE Y) (BE Z))∧TH p XS S
end Go.Shf
namespace Go.Proofs.Shf
open Go.AW Go.Proofs Go.Shf
def MpK (f g : SF) (H0 : AA) : Ak:=fun r H'=>∃ (p : Ob) (X : AV) (cd : Int),r=.CQ [X,iI cd]∧((cd=0∧TI f.shape g.shape p X)∨(cd≠0∧(∃ cs : List AV,X=.agg cs∧cs.length=13∧∀ c,c∈cs→c.one=true)∧p=[]))∧A9 H0 H' p
theorem eP (B : Nat) {f g : SF} (hf : f.Is) (hg : g.Is) (H0 : AA) :
  CB B 10 [.agg f.cells,.agg g.cells] H0 (MpK f g H0):=by
 refine zY.go fun _=>?_
 have cf:=hf.1.is.1.o
 have cg:=hg.1.is.1.o
 have o : A9 H0 H0 []:=.nil _;refine tt ?_;refine nb o fun Je H o=>tt ?_;refine (Hz B f).run.use ?_;rw [Av hf];refine tt ?_;refine (Hz B g).run.use ?_;rw [Av hg];refine tt ?_
 have o : A9 H0 H [(Je,.cells 13 Af 0)]:=o;refine Qd (fun σ H=>σ=[(2,some (.ptr f.cells)),(3,some (.ptr g.cells)),(4,some (.ref Je 0)),(6,some (.ptr f.shape.cells)),(7,some (.ptr g.shape.cells))]∧A9 H0 H [(Je,.cells 13 Af 0)]) ?_ ?_
 ·refine tt ?_;refine ⟨?_, ?_⟩
  ·refine Ai o fun Ba H o=>tt ?_;refine Ai o fun CT H o=>tt ?_;refine sw o.swap fun H o=>tt ?_;refine sw o.swap fun H o=>tt ?_;refine Ca 7 o rfl fun H o=>?_;refine Ca 6 o rfl fun H o=>?_;exact Vg [2,3,4,6,7] ⟨rfl,o⟩
  ·refine Ai o fun Ba H o=>tt ?_;refine Ai o fun CT H o=>tt ?_;refine sw o fun H o=>tt ?_;refine sw o.swap fun H o=>tt ?_;refine Ca 7 o rfl fun H o=>?_;refine Ca 6 o rfl fun H o=>?_;exact Vg [2,3,4,6,7] ⟨rfl,o⟩
 rintro σ H ⟨rfl,o⟩;refine tt ?_;refine ⟨_,(DI B f.shape).run,_,(DI B g.shape).run,tt ?_⟩;refine nb o fun Bc H o=>tt ?_;refine sw o fun H o=>?_
 have o : A9 H0 H [(Bc,.cells 13 (CM f.shape g.shape .Dg .Dg .Dg) 0),(Je,.cells 13 Af 0)]:=o;refine tt ?_
 refine AD [2,3,4,6,7,8] (G:=AV × Ob) (fun k _=>[(9,some (.int .i64 (k : Int)))])
  (fun k g' H=>(∀ x y,0≤x∧x<(k : Int)→g.shape.ES y→pw (ix f.AK x) (ix g.AK y)≤64)∧TH g'.2 g'.1 ((C6 f g).AK.take k)∧A9 H0 H ((Bc,.cells 13 (CM f.shape g.shape g'.1 .Dg .Dg) 0)::(g'.2++[(Je,.cells 13 Af 0)]))) f.shape.AF.toNat (.Dg,[]) ⟨fun x y h=>by omega,.inl ⟨rfl,rfl,rfl⟩,o⟩ rfl ?_
 clear o
 rintro k ⟨X,q⟩ H hk ⟨tB,hX,o⟩
 replace hX : TH q X ((C6 f g).AK.take k):=hX
 replace o : A9 H0 H ((Bc,.cells 13 (CM f.shape g.shape X .Dg .Dg) 0)::(q++[(Je,.cells 13 Af 0)])):=o;refine tt ?_;apply bk <;> intro h1
 ·have AU:=A6 h1
  have w:=ws k
  have aT : 0≤(k : Int)∧(k : Int)<f.shape.AF:=⟨by omega,AU⟩;refine tt ?_;refine AP o fun Io H o=>?_
  have o : A9 H0 H ((Io,.cells 1 (((Fs f g k).take 0).map iI) 0)::(Bc,.cells 13 (CM f.shape g.shape X .Dg .Dg) 0)::(q++[(Je,.cells 13 Af 0)])):=o;refine tt ?_
  refine AD [2,3,4,6,7,8,9] (G:=Nat) (fun j b=>[(10,some (.buf b j)),(11,some (.int .i64 (j : Int)))])
   (fun j b H=>(∀ y,0≤y∧y<(j : Int)→pw (ix f.AK k) (ix g.AK y)≤64)∧A9 H0 H ((b,.cells 1 (((Fs f g k).take j).map iI) 0)::(Bc,.cells 13 (CM f.shape g.shape X .Dg .Dg) 0)::(q++[(Je,.cells 13 Af 0)]))) g.shape.AF.toNat Io ⟨fun y h=>by omega,o⟩ rfl ?_
  clear o
  rintro j b H hj ⟨Bf,o⟩
  replace o : A9 H0 H ((b,.cells 1 (((Fs f g k).take j).map iI) 0)::(Bc,.cells 13 (CM f.shape g.shape X .Dg .Dg) 0)::(q++[(Je,.cells 13 Af 0)])):=o;refine tt ?_;apply bk <;> intro h2
  ·have Aq:=A6 h2
   have w2:=ws j
   have FG : 0≤(j : Int)∧(j : Int)<g.shape.AF:=⟨by omega,Aq⟩
   have hl : ((Fs f g k).take j).length=j:=by rw [List.length_take,Cw]; omega
   have hz:=iD hg.1 FG
   have q65:=(RL B _ _ (iD hf.1 aT) hz).run
   have Td:=Qq hz.1 (ix f.AK k).toNat
   generalize D8 (ix g.AK j) (ix f.AK k).toNat=P at q65 Td
   have Td : (pw (ix f.AK k) (ix g.AK j)≤64→P=pw (ix f.AK k) (ix g.AK j))∧(64<pw (ix f.AK k) (ix g.AK j)→64<P):=Td;refine tt ?_;refine ⟨(Rq hf.1 aT).2,(Rq hg.1 FG).2,_,q65,tt ?_⟩;apply bk <;> intro h3
   ·have BH:=A6 h3
    have Ea : ¬ xS f g:=fun h=>by
     have q1 : pw (ix f.AK k) (ix g.AK j)≤64:=h k j aT FG
     have:=Td.1 q1; omega
    refine tt ?_
    have o : A9 H0 H ((Je,.cells 13 Af 0)::(((b,.cells 1 (((Fs f g k).take j).map iI) 0)::(Bc,.cells 13 (CM f.shape g.shape X .Dg .Dg) 0)::q)++[])):=o.pm;refine AS o (by simp [Af]) (by (try simp only [go_sem]); (try simp)) (by first | (simp only [go_sem]; done) | ((try simp only [go_sem]); simp [AV.one,Ay])) fun H o=>?_;unfold Af at o;have o:=s2 o;refine tt ?_;refine eY o fun H o=>AX ?_;refine tt ?_;rw [o.rc 13 0 (by simp [PF.cells])];refine tt ?_;exact ⟨H0,o.sub,[],_,3,rfl,.inr ⟨by decide,⟨_,rfl,rfl,by simp [Ay]; exact ⟨rfl,rfl⟩⟩,rfl⟩,.nil _⟩
   ·have BH:=A7 h3
    have hle : pw (ix f.AK k) (ix g.AK j)≤64:=by omega
    have hP:=Td.1 hle
    have es:=Fl (l:=Fs f g k) (k:=j) (by rw [Cw]; omega) (PM FG);rw [← hP] at es;refine tt ?_;refine Ae P o rfl hl.symm (by rw [hl]; simp only [AN]; omega) fun b2 H o=>?_;rw [← es] at o;refine tw w2 ?_;refine A4 b2 (by omega) ⟨fun y hy=>?_,o⟩ ?_
    ·by_cases e : y=j
     ·subst e; exact hle
     ·exact Bf y (by omega)
    ·rw [List.length_append,hl]; rfl
  ·have Aq:=A7 h2
   obtain rfl : j=g.shape.AF.toNat:=by omega
   rw [List.take_of_length_le (by rw [Cw]; omega)] at o;refine tt ?_;refine AH o.tl (by simp [CM]) (tt ?_);refine hX.app (l:=[(Bc,.cells 13 (CM f.shape g.shape X .Dg .Dg) 0),(Je,.cells 13 Af 0)]) (o.pm) (Cw f g k).symm (by rw [List.length_take]; simp only [AN]; omega) fun ids Xs2 ob2 H Uw o=>?_
   have es:=Fl (l:=(C6 f g).AK) (k:=k) (by rw [K1]; omega) (PT aT);rw [← es] at Uw
   have o : A9 H0 H ((Bc,.cells 13 (CM f.shape g.shape X .Dg .Dg) 0)::(((ids,.cells 1 Xs2 0)::ob2)++[(Je,.cells 13 Af 0)])):=o.pm;refine tt ?_;refine AS o (by simp [CM]) (by (try simp only [go_sem]); (try simp)) (by first | (simp only [go_sem]; done) | ((try simp only [go_sem]); simp [AV.one,Ay])) fun H o=>?_;unfold CM at o;have o:=s2 o;refine tw w ?_;refine A4 (.buf ids Xs2.length,(ids,.cells 1 Xs2 0)::ob2) (by omega) ⟨fun x y hx hy=>?_,.inr ⟨ids,Xs2,ob2,rfl,rfl,Uw⟩,o⟩ rfl
   by_cases e : x=k
   ·subst e
    have h1 : 0≤y∧y<g.shape.AF:=hy;exact Bf y (by omega)
   ·exact tB x y (by omega) hy
 ·have AU:=A7 h1
  obtain rfl : k=f.shape.AF.toNat:=by omega
  have few : xS f g:=fun x y hx hy=>tB x y (by have h1 : 0≤x∧x<f.shape.AF:=hx; omega) hy;rw [List.take_of_length_le (by rw [K1]; omega)] at hX;clear tB h1 AU hk
  have bl : (C6 f g).before.length=f.shape.AB.length:=by simp [C6]
  have hl : (C6 f g).behind.length=g.shape.AB.length:=by simp [C6]
  have am:=hf.1.is.1.m
  have bm:=hg.1.is.1.m
  have ftl:=hf.1.is.1.L5
  have gtl:=hg.1.is.1.L5;refine tt ?_
  refine AD [2,3,4,6,7,8] (G:=AV × Ob) (fun k _=>[(13,some (.int .i64 (k : Int)))])
   (fun k g' H=>zU B5 g'.2 g'.1 ((C6 f g).before.take k)∧A9 H0 H ((Bc,.cells 13 (CM f.shape g.shape X g'.1 .Dg) 0)::(g'.2++(q++[(Je,.cells 13 Af 0)])))) f.shape.AB.length (.Dg,[]) ⟨.inl ⟨rfl,rfl,rfl⟩,o⟩ rfl ?_
  clear o
  rintro k ⟨Y,p⟩ H hk ⟨hY,o⟩
  replace hY : zU B5 p Y ((C6 f g).before.take k):=hY
  replace o : A9 H0 H ((Bc,.cells 13 (CM f.shape g.shape X Y .Dg) 0)::(p++(q++[(Je,.cells 13 Af 0)]))):=o;refine tt ?_;apply bk <;> intro h1
  ·have AU:=A6 h1
   have w:=ws k
   have ha : f.shape.DB k:=⟨by omega,by simpa using AU⟩
   have oa:=cQ hf.1 ha;refine tt ?_;refine AP o fun Io H o=>?_
   have o : A9 H0 H ((Io,.cells 1 (((K8 f g k).take 0).map iL) 0)::(Bc,.cells 13 (CM f.shape g.shape X Y .Dg) 0)::(p++(q++[(Je,.cells 13 Af 0)]))):=o;refine tt ?_
   refine AD [2,3,4,6,7,8,13] (G:=Nat) (fun j b=>[(14,some (.buf b j)),(15,some (.int .i64 (j : Int)))])
    (fun j b H=>A9 H0 H ((b,.cells 1 (((K8 f g k).take j).map iL) 0)::(Bc,.cells 13 (CM f.shape g.shape X Y .Dg) 0)::(p++(q++[(Je,.cells 13 Af 0)])))) g.shape.AF.toNat Io o rfl ?_
   clear o
   rintro j b H hj o
   replace o : A9 H0 H ((b,.cells 1 (((K8 f g k).take j).map iL) 0)::(Bc,.cells 13 (CM f.shape g.shape X Y .Dg) 0)::(p++(q++[(Je,.cells 13 Af 0)]))):=o;refine tt ?_;apply bk <;> intro h2
   ·have Aq:=A6 h2
    have w2:=ws j
    have FG : 0≤(j : Int)∧(j : Int)<g.shape.AF:=⟨by omega,Aq⟩
    have hl : ((K8 f g k).take j).length=j:=by rw [List.length_take,Ja]; omega
    have z1:=iD hf.1 oa.1
    have z2:=iD hf.1 oa.2
    have z3:=iD hg.1 FG;refine tt ?_
    have p1:=few _ _ oa.2 FG
    have p2:=few _ _ oa.1 FG
    have Bf : (Fs f g (ix f.shape.to k)).getD j default=pw (ix f.AK (ix f.shape.to k)) (ix g.AK j):=by
     have:=PM (f:=f) (x:=ix f.shape.to k) FG;rw [AR] at this;exact this
    have n5 : (Kv f g k j).length=(pw (ix f.AK (ix f.shape.to k)) (ix g.AK j)).toNat:=by simp [Kv]
    have vF : ∀ e : Int,0≤e∧e<pw (ix f.AK (ix f.shape.to k)) (ix g.AK j)→ix (Kv f g k j) e=XC f g k j e:=fun e he=>kB he
    have je:=fun (e : Int) (he : 0≤e∧e<pw (ix f.AK (ix f.shape.to k)) (ix g.AK j))=>nL hf.1 hg.1 ha FG he
    have xi : ∀ e : Int,XC f g k j e=Hk (rp (ix f.AK (ix f.shape.AB k)) (ix g.AK j)) (iC (ix f.AJ k) (T8 (rp (ix f.AK (ix f.shape.to k)) (ix g.AK j)) e)):=fun e=>rfl
    have RD:=Il hf.1 ha
    have r1:=(VC B (ix f.AK (ix f.shape.to k)) (ix g.AK j) z2).run
    have r2:=(VC B (ix f.AK (ix f.shape.AB k)) (ix g.AK j) z1).run
    have eg2:=(Rq hg.1 FG).2
    have es1:=Rq hf.1 oa.1
    have es2:=Rq hf.1 oa.2
    have efr : k<f.shape.AB.length:=AU
    generalize hN : ix g.AK (j : Int)=N at *
    generalize hM : ix f.AK (ix f.shape.to (k : Int))=M at *
    generalize fk : ix f.AK (ix f.shape.AB (k : Int))=M1 at *
    have r1' : HG Tryz.prog B 66 [iI (ix g.AK (j : Int)),iI (ix f.AK (ix f.shape.to (k : Int)))] (iL (rp M N)):=by rw [hN,hM]; exact r1
    have r2' : HG Tryz.prog B 66 [iI (ix g.AK (j : Int)),iI (ix f.AK (ix f.shape.AB (k : Int)))] (iL (rp M1 N)):=by rw [hN,fk]; exact r2
    refine ⟨eg2,by omega,es2,_,r1',eg2,AU,es1,_,r2',AP o fun E9 H o=>?_⟩
    have o : A9 H0 H ((E9,.cells 1 (((Kv f g k j).take 0).map iI) 0)::(b,.cells 1 (((K8 f g k).take j).map iL) 0)::(Bc,.cells 13 (CM f.shape g.shape X Y .Dg) 0)::(p++(q++[(Je,.cells 13 Af 0)]))):=o;refine tt ?_
    obtain ⟨L,hL⟩ : ∃ L : Nat,pw M N=L:=⟨_,(Int.toNat_of_nonneg (O9 z3.1)).symm⟩
    refine AD [2,3,4,6,7,8,13,14,15,16,17] (G:=Nat) (fun i b2=>[(18,some (.buf b2 i)),(19,some (.int .i64 (i : Int)))])
     (fun i b2 H=>A9 H0 H ((b2,.cells 1 (((Kv f g k j).take i).map iI) 0)::(b,.cells 1 (((K8 f g k).take j).map iL) 0)::(Bc,.cells 13 (CM f.shape g.shape X Y .Dg) 0)::(p++(q++[(Je,.cells 13 Af 0)])))) L E9 o rfl ?_
    clear o
    rintro i b2 H hi o
    replace o : A9 H0 H ((b2,.cells 1 (((Kv f g k j).take i).map iI) 0)::(b,.cells 1 (((K8 f g k).take j).map iL) 0)::(Bc,.cells 13 (CM f.shape g.shape X Y .Dg) 0)::(p++(q++[(Je,.cells 13 Af 0)]))):=o;refine tt ?_;refine AH (o.pull [_,_]) (by simp [CM]) ?_
    obtain ⟨HP,Xs,ob,rfl,rfl,hR⟩:=hX.buf (by have:=e6 (g:=g) oa.2; omega)
    have hRl:=hR.len;refine tt ?_
    have eR : (C6 f g).AK.getD (ix f.shape.to (k : Int)).toNat default=Fs f g (ix f.shape.to k):=PT oa.2
    have srg:=e6 (g:=g) oa.2
    have eR' : (C6 f g).AK.getD (ix f.shape.to (k : Int)).toNat []=Fs f g (ix f.shape.to k):=eR
    obtain ⟨Bt,er,QM⟩:=hR.eG (i:=(ix f.shape.to (k : Int)).toNat) (by omega) (by rw [eR',Cw]; omega);rw [eR'] at er QM
    have gX:=o.get (HP,.cells 1 Xs 0) (by repeat (first | exact List.mem_cons_self | refine List.mem_cons_of_mem _ ?_ | refine List.mem_append_right _ ?_))
    have QM:=QM o (fun x hx=>by simp [hx])
    have srl : (f.shape.to.getD k default).toNat<Xs.length:=by rw [hRl]; exact srg.2
    refine ⟨by omega,⟨srg.1,srl⟩,Aj gX srl ?_⟩
    have er : Xs.getD (f.shape.to.getD k default).toNat nv=.buf Bt (Fs f g (ix f.shape.to k)).length:=er;rw [er];refine tt ?_;refine ⟨by rw [Cw]; omega,Aj QM (by simp [Cw]; omega) ?_⟩
    have eR2 : ((Fs f g (ix f.shape.to (k : Int))).map iI).getD j nv=iI (pw M N):=by rw [← Bf]; exact BC _ (by rw [Cw]; omega)
    rw [eR2];refine tt ?_;apply bk <;> intro h3
    ·have BH:=A6 h3
     have Lw : 0≤(i : Int)∧(i : Int)<pw M N:=⟨by omega,BH⟩
     have w3:=ws i
     have m3:=Oy z3.1 Lw
     have s5 : ((Kv f g k j).take i).length=i:=by rw [List.length_take,n5]; omega
     refine tt ?_;refine ⟨(xG hf.1 ha).2,_,(SD B (rp M N) (by rw [QV]; omega) (Ts z3.1 (by omega)) i ⟨by omega,by omega⟩).run,_,(JI B _ _ fun y hy=>⟨(RD.mem hy).1,by have:=RD.mem hy; have:=m3.len; omega⟩).run,_,(KB B M1 N _ (je i Lw) z1 z3 p2).run,by simp [AV.cells,AV.one], ?_⟩
     have es:=Fl (l:=Kv f g k j) (k:=i) (by rw [n5]; omega) (vF i Lw);refine Ae (XC f g k j i) o (by rw [xi]) s5.symm (by rw [s5]; simp only [AN]; omega) fun b2 H o=>?_;rw [← es] at o;refine tw w3 ?_;exact A4 b2 (by omega) o (by rw [List.length_append,s5]; rfl)
    ·have BH:=A7 h3
     obtain rfl : i=L:=by omega
     rw [List.take_of_length_le (by rw [n5]; omega)] at o;refine tt ?_;refine Am o (by rw [n5,hL]; rfl) fun H o=>tt ?_
     have es:=Fl (l:=K8 f g k) (k:=j) (by rw [Ja]; omega) (nX FG);refine Ae (Kv f g k j) o rfl hl.symm (by rw [hl]; simp only [AN]; omega) fun b H o=>?_;rw [← es] at o;refine tw w2 ?_;exact A4 b (by omega) o (by rw [List.length_append,hl]; rfl)
   ·have Aq:=A7 h2
    obtain rfl : j=g.shape.AF.toNat:=by omega
    rw [List.take_of_length_le (by rw [Ja]; omega)] at o;refine tt ?_;refine Am o (Ja f g k).symm fun H o=>tt ?_;refine AH o (by simp [CM]) (tt ?_);refine (hY.o (l:=(Bc,.cells 13 (CM f.shape g.shape X Y .Dg) 0)::(q++[(Je,.cells 13 Af 0)])) (o.pm)).app (K8 f g k) rfl (by rw [List.length_take]; simp only [AN]; omega) fun ids H o=>?_
    have es:=Fl (l:=(C6 f g).before) (k:=k) (by rw [bl]; omega) (lL ha);rw [← es] at o;rw [← es];refine tt ?_;refine AS o.swap (by simp [CM]) (by (try simp only [go_sem]); (try simp)) (by first | (simp only [go_sem]; done) | ((try simp only [go_sem]); simp [AV.one,Ay])) fun H o=>?_;unfold CM at o;have o:=s2 o;refine tw w ?_;exact A4 (.buf ids ((C6 f g).before.take (k+1)).length,[(ids,.cells 1 (((C6 f g).before.take (k+1)).map B5) 0)]) (by omega) ⟨.inr ⟨ids,rfl,rfl⟩,o⟩ rfl
  ·have AU:=A7 h1
   obtain rfl : k=f.shape.AB.length:=by omega
   rw [List.take_of_length_le (by rw [bl]; omega)] at hY;clear h1 AU hk;refine tt ?_
   refine AD [2,3,4,6,7,8] (G:=AV × Ob) (fun k _=>[(20,some (.int .i64 (k : Int)))])
    (fun k g' H=>zU B5 g'.2 g'.1 ((C6 f g).behind.take k)∧A9 H0 H ((Bc,.cells 13 (CM f.shape g.shape X Y g'.1) 0)::(g'.2++(p++(q++[(Je,.cells 13 Af 0)]))))) g.shape.AB.length (.Dg,[]) ⟨.inl ⟨rfl,rfl,rfl⟩,o⟩ rfl ?_
   clear o
   rintro k ⟨Z,r⟩ H hk ⟨hZ,o⟩
   replace hZ : zU B5 r Z ((C6 f g).behind.take k):=hZ
   replace o : A9 H0 H ((Bc,.cells 13 (CM f.shape g.shape X Y Z) 0)::(r++(p++(q++[(Je,.cells 13 Af 0)])))):=o;refine tt ?_;apply bk <;> intro h1
   ·have AU:=A6 h1
    have w:=ws k
    have ha : g.shape.DB k:=⟨by omega,by simpa using AU⟩
    have oa:=cQ hg.1 ha;refine tt ?_;refine AP o fun Io H o=>?_
    have o : A9 H0 H ((Io,.cells 1 (((Js f g k).take 0).map iL) 0)::(Bc,.cells 13 (CM f.shape g.shape X Y Z) 0)::(r++(p++(q++[(Je,.cells 13 Af 0)])))):=o;refine tt ?_
    refine AD [2,3,4,6,7,8,20] (G:=Nat) (fun j b=>[(21,some (.buf b j)),(22,some (.int .i64 (j : Int)))])
     (fun j b H=>A9 H0 H ((b,.cells 1 (((Js f g k).take j).map iL) 0)::(Bc,.cells 13 (CM f.shape g.shape X Y Z) 0)::(r++(p++(q++[(Je,.cells 13 Af 0)]))))) f.shape.AF.toNat Io o rfl ?_
    clear o
    rintro j b H hj o
    replace o : A9 H0 H ((b,.cells 1 (((Js f g k).take j).map iL) 0)::(Bc,.cells 13 (CM f.shape g.shape X Y Z) 0)::(r++(p++(q++[(Je,.cells 13 Af 0)])))):=o;refine tt ?_;apply bk <;> intro h2
    ·have Aq:=A6 h2
     have w2:=ws j
     have FG : 0≤(j : Int)∧(j : Int)<f.shape.AF:=⟨by omega,Aq⟩
     have hl : ((Js f g k).take j).length=j:=by rw [List.length_take,KN]; omega
     have z1:=iD hg.1 oa.1
     have z2:=iD hg.1 oa.2
     have z3:=iD hf.1 FG;refine tt ?_
     have p1:=few _ _ FG oa.1
     have p2:=few _ _ FG oa.2
     have Bf : ix (Fs f g j) (ix g.shape.AB k)=pw (ix f.AK j) (ix g.AK (ix g.shape.AB k)):=PM oa.1
     have n5 : (L2 f g k j).length=(pw (ix f.AK j) (ix g.AK (ix g.shape.AB k))).toNat:=by simp [L2]
     have vF : ∀ e : Int,0≤e∧e<pw (ix f.AK j) (ix g.AK (ix g.shape.AB k))→ix (L2 f g k j) e=Y5 f g k j e:=fun e he=>iV he
     have je:=fun (e : Int) (he : 0≤e∧e<pw (ix f.AK j) (ix g.AK (ix g.shape.AB k)))=>kP hf.1 hg.1 ha FG he
     have xi : ∀ e : Int,Y5 f g k j e=Hk (rp (ix f.AK j) (ix g.AK (ix g.shape.to k))) (iC (T8 (rp (ix f.AK j) (ix g.AK (ix g.shape.AB k))) e) (ix g.AJ k)):=fun e=>rfl
     have RD:=Il hg.1 ha
     have r1:=(VC B (ix f.AK j) (ix g.AK (ix g.shape.AB k)) z3).run
     have r2:=(VC B (ix f.AK j) (ix g.AK (ix g.shape.to k)) z3).run
     have eg2:=(Rq hf.1 FG).2
     have es1:=Rq hg.1 oa.1
     have es2:=Rq hg.1 oa.2
     have hszr:=sZ (f:=f) (g:=g) FG oa.1
     generalize hN : ix f.AK (j : Int)=N at *
     generalize hM : ix g.AK (ix g.shape.AB (k : Int))=M at *
     generalize fk : ix g.AK (ix g.shape.to (k : Int))=M1 at *
     have r1' : HG Tryz.prog B 66 [iI (ix g.AK (ix g.shape.AB (k : Int))),iI (ix f.AK (j : Int))] (iL (rp N M)):=by rw [hN,hM]; exact r1
     have r2' : HG Tryz.prog B 66 [iI (ix g.AK (ix g.shape.to (k : Int))),iI (ix f.AK (j : Int))] (iL (rp N M1)):=by rw [hN,fk]; exact r2
     refine ⟨AU,es1,eg2,_,r1',by omega,es2,eg2,_,r2',AP o fun E9 H o=>?_⟩
     have o : A9 H0 H ((E9,.cells 1 (((L2 f g k j).take 0).map iI) 0)::(b,.cells 1 (((Js f g k).take j).map iL) 0)::(Bc,.cells 13 (CM f.shape g.shape X Y Z) 0)::(r++(p++(q++[(Je,.cells 13 Af 0)])))):=o;refine tt ?_
     obtain ⟨L,hL⟩ : ∃ L : Nat,pw N M=L:=⟨_,(Int.toNat_of_nonneg (O9 z1.1)).symm⟩
     refine AD [2,3,4,6,7,8,20,21,22,23,24] (G:=Nat) (fun i b2=>[(25,some (.buf b2 i)),(26,some (.int .i64 (i : Int)))])
      (fun i b2 H=>A9 H0 H ((b2,.cells 1 (((L2 f g k j).take i).map iI) 0)::(b,.cells 1 (((Js f g k).take j).map iL) 0)::(Bc,.cells 13 (CM f.shape g.shape X Y Z) 0)::(r++(p++(q++[(Je,.cells 13 Af 0)]))))) L E9 o rfl ?_
     clear o
     rintro i b2 H hi o
     replace o : A9 H0 H ((b2,.cells 1 (((L2 f g k j).take i).map iI) 0)::(b,.cells 1 (((Js f g k).take j).map iL) 0)::(Bc,.cells 13 (CM f.shape g.shape X Y Z) 0)::(r++(p++(q++[(Je,.cells 13 Af 0)])))):=o;refine tt ?_;refine AH (o.pull [_,_]) (by simp [CM]) ?_
     obtain ⟨HP,Xs,ob,rfl,rfl,hR⟩:=hX.buf (by rw [K1]; omega)
     have hRl:=hR.len;refine tt ?_
     have eR : (C6 f g).AK.getD j default=Fs f g j:=by
      have:=PT (f:=f) (g:=g) FG;rw [AR] at this;exact this
     have gX:=o.get (HP,.cells 1 Xs 0) (by repeat (first | exact List.mem_cons_self | refine List.mem_cons_of_mem _ ?_ | refine List.mem_append_right _ ?_))
     have srl : j<Xs.length:=by rw [hRl,K1]; omega
     have eR' : (C6 f g).AK.getD j []=Fs f g j:=eR
     have h5 : 0≤ix g.shape.AB k∧ix g.shape.AB k<g.shape.AF:=oa.1
     obtain ⟨Bt,er,QM⟩:=hR.eG (i:=j) srl (by rw [eR',Cw]; have h6:=h5.1; have h7:=h5.2; omega);rw [eR'] at er QM
     have QM:=QM o (fun x hx=>by simp [hx]);refine ⟨srl,Aj gX srl ?_⟩;rw [er];refine tt ?_
     have oa1:=oa.1
     have h5 : 0≤ix g.shape.AB k∧ix g.shape.AB k<g.shape.AF:=oa.1
     have RG : (ix g.shape.AB k).toNat<(Fs f g j).length:=by rw [Cw]; have h6:=h5.1; have h7:=h5.2; show (ix g.shape.AB k).toNat<_; omega
     refine ⟨AU,⟨h5.1,RG⟩,Aj QM (by rw [List.length_map]; exact RG) ?_⟩
     have eR2 : ((Fs f g (j : Int)).map iI).getD (g.shape.AB.getD k default).toNat nv=iI (pw N M):=by rw [← Bf]; exact BC _ RG
     rw [eR2];refine tt ?_;apply bk <;> intro h3
     ·have BH:=A6 h3
      have Lw : 0≤(i : Int)∧(i : Int)<pw N M:=⟨by omega,BH⟩
      have w3:=ws i
      have m3:=Oy z1.1 Lw
      have s5 : ((L2 f g k j).take i).length=i:=by rw [List.length_take,n5]; omega
      refine tt ?_;refine ⟨_,(SD B (rp N M) (by rw [QV]; omega) (Ts z1.1 (by omega)) i ⟨by omega,by omega⟩).run,(xG hg.1 ha).2,_,(JI B _ _ fun y hy=>⟨(m3.mem hy).1,by have:=m3.mem hy; have:=RD.len; show y.toNat<(ix g.AJ (k : Int)).length; omega⟩).run,_,(KB B N M1 _ (je i Lw) z3 z2 p2).run,by simp [AV.cells,AV.one], ?_⟩
      have es:=Fl (l:=L2 f g k j) (k:=i) (by rw [n5]; omega) (vF i Lw);refine Ae (Y5 f g k j i) o (by rw [xi]) s5.symm (by rw [s5]; simp only [AN]; omega) fun b2 H o=>?_;rw [← es] at o;refine tw w3 ?_;exact A4 b2 (by omega) o (by rw [List.length_append,s5]; rfl)
     ·have BH:=A7 h3
      obtain rfl : i=L:=by omega
      rw [List.take_of_length_le (by rw [n5]; omega)] at o;refine tt ?_;refine Am o (by rw [n5,hL]; rfl) fun H o=>tt ?_
      have es:=Fl (l:=Js f g k) (k:=j) (by rw [KN]; omega) (iM FG);refine Ae (L2 f g k j) o rfl hl.symm (by rw [hl]; simp only [AN]; omega) fun b H o=>?_;rw [← es] at o;refine tw w2 ?_;exact A4 b (by omega) o (by rw [List.length_append,hl]; rfl)
    ·have Aq:=A7 h2
     obtain rfl : j=f.shape.AF.toNat:=by omega
     rw [List.take_of_length_le (by rw [KN]; omega)] at o;refine tt ?_;refine Am o (KN f g k).symm fun H o=>tt ?_;refine AH o (by simp [CM]) (tt ?_);refine (hZ.o (l:=(Bc,.cells 13 (CM f.shape g.shape X Y Z) 0)::(p++(q++[(Je,.cells 13 Af 0)]))) (o.pm)).app (Js f g k) rfl (by rw [List.length_take]; simp only [AN]; omega) fun ids H o=>?_
     have es:=Fl (l:=(C6 f g).behind) (k:=k) (by rw [hl]; omega) (jI ha);rw [← es] at o;rw [← es];refine tt ?_;refine AS o.swap (by simp [CM]) (by (try simp only [go_sem]); (try simp)) (by first | (simp only [go_sem]; done) | ((try simp only [go_sem]); simp [AV.one,Ay])) fun H o=>?_;unfold CM at o;have o:=s2 o;refine tw w ?_;exact A4 (.buf ids ((C6 f g).behind.take (k+1)).length,[(ids,.cells 1 (((C6 f g).behind.take (k+1)).map B5) 0)]) (by omega) ⟨.inr ⟨ids,rfl,rfl⟩,o⟩ rfl
   ·have AU:=A7 h1
    obtain rfl : k=g.shape.AB.length:=by omega
    rw [List.take_of_length_le (by rw [hl]; omega)] at hZ;clear h1 AU hk;refine tt ?_
    have o : A9 H0 H ((Bc,.cells 13 (CM f.shape g.shape X Y Z) 0)::(r++(p++(q++[(Je,.cells 13 Af 0)])))):=o;refine rK (f:=B5) (id:=Bc) (sz:=13) (fr:=0) (cs:=CM f.shape g.shape X Y Z) 11 hY (l:=r++(q++[(Je,.cells 13 Af 0)])) (o.pm) rfl fun H o=>?_
    replace o : A9 H0 H ((Bc,.cells 13 (CM f.shape g.shape X (BE (C6 f g).before) Z) 0)::(r++(q++[(Je,.cells 13 Af 0)]))):=o;refine rK (f:=B5) (id:=Bc) (sz:=13) (fr:=0) (cs:=CM f.shape g.shape X (BE (C6 f g).before) Z) 12 hZ (l:=q++[(Je,.cells 13 Af 0)]) (o.pm) rfl fun H o=>AX ?_
    replace o : A9 H0 H ((Bc,.cells 13 (CM f.shape g.shape X (BE (C6 f g).before) (BE (C6 f g).behind)) 0)::(q++[(Je,.cells 13 Af 0)])):=o;refine tt ?_;refine AO o (by simp [CM]) ?_
    have o : A9 H0 H ((Je,.cells 13 Af 0)::(Bc,.cells 13 (CM f.shape g.shape X (BE (C6 f g).before) (BE (C6 f g).behind)) 0)::q):=o.pm;unfold CM;refine tt ?_
    have HY:=hX.one;refine AS o (by simp [Af]) (by (try simp only [go_sem]); (try simp)) (by first | (simp only [go_sem,HY]; done) | ((try simp only [go_sem]); simp [HY,Ay])) fun H o=>?_;unfold Af at o;have o:=s2 o;refine tt ?_;refine AX ?_;refine tt ?_;rw [o.rc 13 0 (by simp)];refine tt ?_;exact ⟨H,.refl _,q,_,0,rfl,.inl ⟨rfl,X,_,_,_,rfl,hX⟩,o.tl.tl⟩
theorem K4 (B : Nat) (f g : SF) (H0 : AA) : CB B 10 [.agg f.cells,.agg g.cells] H0 (MpK f g H0):=by
 by_cases h : f.Is∧g.Is
 ·exact eP B h.1 h.2 H0
 refine zY.go fun _=>?_
 have o : A9 H0 H0 []:=.nil _;refine tt ?_;refine nb o fun Je H o=>tt ?_;refine (Hz B f).run.use ?_
 by_cases hf : f.Is
 case' pos =>
  rw [Av hf];refine tt ?_;refine (Hz B g).run.use ?_;rw [Ad (fun hg=>h ⟨hf,hg⟩)];refine tt ?_
 case' neg =>
  rw [Ad hf];refine tt ?_
 all_goals
  have o : A9 H0 H [(Je,.cells 13 Af 0)]:=o;refine AS o (by simp [Af]) (by (try simp only [go_sem]); (try simp)) (by first | (simp only [go_sem]; done) | ((try simp only [go_sem]); simp [AV.one,Ay])) fun H o=>?_;unfold Af at o;have o:=s2 o
  have o : A9 H0 H [(Je,.cells 13 Af 0)]:=o;refine tt ?_;refine eY o fun H o=>AX ?_;refine tt ?_;rw [o.rc 13 0 (by simp [PF.cells])];refine tt ?_;exact ⟨H0,o.sub,[],_,1,rfl,.inr ⟨by decide,⟨_,rfl,rfl,by simp [Ay]; exact ⟨rfl,rfl⟩⟩,rfl⟩,.nil _⟩
def Ey : List AV:=[.int .i64 0,.A0,.A0,.A0,.A0,.int .i64 0,.A0,.A0,.A0,.A0,.A0,.A0]
theorem VH (m : FB) : Ic [m]=[(m.1.1,.cells 1 (m.1.2.map iI) 0),(m.2.1,.cells 1 (m.2.2.map iI) 0)]:=by simp [Ic]
theorem eH {F : Env→AA→Prop} {σ : Env} {H0 H : AA} {l : Ob} {C9 : Nat} {e d : Ax} {m : FB} (o : A9 H0 H ((C9,.cells 12 (EZ e d m).cells 0)::(m.1.1,.cells 1 (m.1.2.map iI) 0)::(m.2.1,.cells 1 (m.2.2.map iI) 0)::l))
  (hk : ∀ H',A9 H0 H' ((C9,.cells 12 (FU.cells ⟨e,d,m.1.2,m.2.2⟩) 0)::l)→EX F σ H') : EX F σ H :=
 B6 (f:=iI) 10 o rfl rfl fun H o=>B6 (f:=iI) 11 o rfl rfl fun H o=>hk H o
def WZ (C9 : Nat) (e d : Ax) (m : FB) (l : Ob) : Ob:=(C9,.cells 12 (EZ e d m).cells 0)::(m.1.1,.cells 1 (m.1.2.map iI) 0)::(m.2.1,.cells 1 (m.2.2.map iI) 0)::l
theorem P2 (B : Nat) {c : Ax} (hc : c.Shape) {a b : Int} (ha : c.DB a) (hb : c.DB b) : PB B 98 [.agg c.cells,iI a,iI b] (iI (ix (ix c.comp a) b)):=by
 refine ⟨fun H0=>c98.go fun _=>?_⟩
 have ci:=hc.oA ha
 have cj : (ix c.comp a).length=c.AB.length:=hc.nA ha
 have cj2 : 0≤b∧b.toNat<(ix c.comp a).length:=⟨hb.1,by rw [cj]; exact hb.2⟩;refine tt ?_;refine ⟨ci,cj2, ?_⟩;exact A5 rfl (.refl _)
theorem Vs (B : Nat) {c : Ax} (hc : c.Shape) {a b : Int} (ha : c.DB a) (hb : c.DB b) : PB B 91 [.ptr c.cells,iI a,iI b] (iI (ix (ix c.comp a) b)):=by
 refine ⟨fun H0=>c91.go fun _=>?_⟩
 have ci:=hc.oA ha
 have cj : (ix c.comp a).length=c.AB.length:=hc.nA ha
 have cj2 : 0≤b∧b.toNat<(ix c.comp a).length:=⟨hb.1,by rw [cj]; exact hb.2⟩;refine tt ?_;refine ⟨ci,cj2, ?_⟩;exact A5 rfl (.refl _)
end Go.Proofs.Shf
