/- A part of a proof. -/
import Derived.Test.YthflgdphhajkbaaGreatT7
set_option linter.unusedVariables false
set_option linter.unusedSimpArgs false
set_option linter.unusedSectionVars false
open Nat (reduceEqDiff reduceAdd reduceMul reduceLeDiff reduceLT)
namespace Go.Proofs.Shf
open Go.AW Go.Proofs Go.Shf
def j5 (id : Nat) (c : Ay) (H0 : AB) (l : Ob) : Am:=fun r H'=>∃ (s' : Src) (C : List (List (List Int))) (p : Ob),s'.Ok∧cp c C p r∧AA H0 H' ((id,s'.obj)::(p++l))
theorem Ml (B : Nat) (c : Ay) {id : Nat} {s : Src} {H0 H : AB} {l : Ob} (hs : s.Ok) (o : AA H0 H ((id,s.obj)::l)) : CB B 252 [.ref id 0,.agg c.cells] H (j5 id c H0 l):=by
 refine xZ.go fun _=>?_;refine tt ?_;refine nb o fun BJ H o=>tt ?_;refine (NM B c H).mono ?_
 rintro r H' (⟨cod,hcod,rfl,rfl⟩ | ⟨⟨hc,hf⟩,K7,ms,rfl,hM,o2⟩)
 ·refine ⟨trivial,tt ?_⟩;refine nb o fun CP H o=>tt ?_;refine sw o fun H o=>tt ?_;rw [decide_eq_false hcod];refine tt ?_;refine Ae o fun Ep H o=>tt ?_;refine sw (o.pull [_,_]) fun H o=>tt ?_
  have BV:=o.rc 6 0 (by simp);simp only [List.drop_zero] at BV;rw [BV];refine tt ?_;refine ⟨H,.refl _,s,[],[(Ep,.cells 1 [] 0)],hs,⟨Ep,[],[],rfl,.nil,⟨by simp,by simp⟩,rfl⟩, ?_⟩
  have o : AA H0 H ((BJ,AF.cells 6 [iI c.AO,iL c.AJ,iL c.to,iL c.Av,BA c.comp,.buf Ep 0] 0)::(CP,AF.cells 8 [.int .i64 0,.A1,.A1,.A1,.A1,.A1,.A1,.A1] 0)::(id,s.obj)::([(Ep,.cells 1 [] 0)]++l)):=o.pm;exact o.tl.tl
 ·refine ⟨trivial, ?_⟩
  have o:=o.trans o2
  have ht:=Hj hc hf;refine tt ?_;refine nb o fun CP H o=>tt ?_;refine sw o fun H o=>?_
  have dT : ∀ i : Decidable True,@decide True i=true:=fun i=>decide_eq_true trivial;refine tw dT ?_
  obtain ⟨n,hn⟩ : ∃ n,ms.length=n:=⟨_,rfl⟩;rw [hn]
  have z6 : ∃ z : AF,z=AF.cells 6 [.int .i64 0,.A1,.A1,.A1,.A1,.A1] 0:=⟨_,rfl⟩
  have o : AA H0 H ((id,s.obj)::(K7,.cells 1 (ms.map CM) 0)::(inner AV.bool ms++([(CP,AF.cells 8 (BE c (AN c)) 0),(BJ,AF.cells 6 [.int .i64 0,.A1,.A1,.A1,.A1,.A1] 0)]++l))):=by
   simp only [BE] at o ⊢;exact o.pm
  refine (AZ B 3).go hs o fun r s H _ ⟨v,e,KB,CF,_⟩ hs o=>?_;subst e
  obtain ⟨v,rfl⟩:=Int.eq_ofNat_of_zero_le KB
  have CF:=CF (by omega);refine tt ?_
  refine Dg [0,4,5,6] (G:=Nat × Src × List (Nat × List Bool)) (fun g=>[(8,some (.int .i64 (g.1 : Int)))])
   (fun m g H=>(m=g.1∧g.1<3∧g.2.1.Ok)∧(g.2.2.length=n∧DU (AN c) (g.2.2.map Prod.snd))∧AA H0 H ((id,g.2.1.obj)::(K7,.cells 1 (g.2.2.map CM) 0)::(inner AV.bool g.2.2++([(CP,AF.cells 8 (BE c (AN c)) 0),(BJ,AF.cells 6 [.int .i64 0,.A1,.A1,.A1,.A1,.A1] 0)]++l)))) v (v,s,ms) ⟨⟨rfl,by simp only; omega,hs⟩,⟨hn,hM⟩,o⟩ rfl ?_
  clear o hs hM hn KB CF
  rintro m ⟨v,s,ms⟩ H ⟨⟨hm,jz,hs⟩,⟨hn,hM⟩,o⟩;dsimp only at hm;subst hm;dsimp only at jz hs hn hM o
  have jw:=hM.len;rw [List.length_map] at jw;refine tt ?_;refine ⟨fun h1=>At.mk ?_,fun h1=>At.mk ?_⟩
  case' refine_1 =>
   have AR:=A7 h1;refine tw h1 ?_;refine ⟨fun h2=>At.mk ?_,fun h2=>At.mk ?_⟩
   case' refine_1 =>
    have Ah:=A7 h2;refine tt ?_;refine (AZ B n).go hs o fun r s H _ ⟨x,e,hx0,gW,_⟩ hs o=>?_;subst e
    have gW:=gW (by omega)
    obtain ⟨x,rfl⟩:=Int.eq_ofNat_of_zero_le hx0
    have hxm : x<ms.length:=by omega
    have Gm:=(ht.top (x:=x) (by omega)).1
    have Mc:=hM.row x (by omega);rw [BB _ hxm] at Mc
    have wp : IntKind.i64.wrap ((m : Int) - 1)=((m - 1 : Nat) : Int):=K1 (by omega) (by omega);refine tt ?_;refine ⟨by omega,⟨_,_,o.tl.h0⟩,AK o.tl (by simp; omega) ?_⟩;rw [getD_map ms (by omega)];refine tt ?_;refine ⟨by omega,⟨_,_,o.tl.h0⟩,AK o.tl (by simp; omega) ?_⟩;rw [getD_map ms (by omega)];refine tt ?_;refine (AZ B ((ms.getD x default).2.length)).FT hs o fun r s H _ ⟨v,e,KB,CF,_⟩ hs o hz=>⟨hz, ?_⟩;subst e
    have CF:=CF (by omega);refine tt ?_;refine ⟨by omega, ?_⟩
    have o : AA H0 H ((K7,AF.cells 1 (ms.map CM) 0)::(inner AV.bool ms++((id,s.obj)::([(CP,AF.cells 8 (BE c (AN c)) 0),(BJ,AF.cells 6 [.int .i64 0,.A1,.A1,.A1,.A1,.A1] 0)]++l)))):=o.pm;refine HP o (by omega) (by omega) true rfl fun H o=>?_
    have hM:=U8 hM x v.toNat hxm true;refine tw wp ?_;exact CY (m - 1) (m - 1,s,ms.set x ((ms.getD x default).1,(ms.getD x default).2.set v.toNat true)) (by omega) ⟨⟨rfl,by show m - 1<3; omega,hs⟩,⟨by simp [hn],hM⟩,by simp only [BE] at o ⊢; exact o.pm⟩ rfl
  all_goals
   try (try simp only [go_sem,↓reduceIte,reduceEqDiff,reduceAdd,reduceMul,reduceLeDiff,reduceLT,h1])
   try (try simp only [go_sem,↓reduceIte,reduceEqDiff,reduceAdd,reduceMul,reduceLeDiff,reduceLT])
   clear h1;refine Rl (o.get (CP,AF.cells 8 (BE c (AN c)) 0) (by simp)) (by simp [BE]) ?_;refine tt ?_
   have Fo:=QG B c (AN c) ht ms hM K7 H0 H ((id,s.obj)::([(CP,AF.cells 8 (BE c (AN c)) 0),(BJ,AF.cells 6 [.int .i64 0,.A1,.A1,.A1,.A1,.A1] 0)]++l)) (o.pm);rw [hn] at Fo;refine Fo.mono ?_;clear Fo o hM hn jw
   rintro r H ⟨rfl,ms,hn,hM,o⟩;refine tt ?_;refine Sq (f:=AV.bool) ms [] H o fun H o=>?_;simp only [List.nil_append] at o;refine YH (f:=mL AV.bool) (A:=ms.map Prod.snd) 6 (.inr ⟨K7,by rw [List.length_map,hn],o⟩) rfl fun H o=>AY ?_;refine tt ?_;refine Rl (o.get (CP,AF.cells 8 (BE c (AN c)) 0) (by simp)) (by simp [BE]) ?_;refine tt ?_;refine Gk.go' (Qb B c hc (AN c) ht (ms.map Prod.snd) hM) o fun X p H ⟨C,Ep,Xs,ob,e1,hX,T9,e2⟩ o _=>?_;subst e1 e2;refine tt ?_
   have o : AA H0 H ((BJ,AF.cells 6 [.int .i64 0,.A1,.A1,.A1,.A1,.A1] 0)::(CP,AF.cells 8 (BE c (AN c)) 0)::(id,s.obj)::(((Ep,.cells 1 Xs 0)::ob)++l)):=o.pm;refine sw o fun H o=>tt ?_
   have BV:=o.rc 6 0 (by simp);simp only [List.drop_zero] at BV;rw [BV];refine tt ?_;exact ⟨H,.refl _,s,C,(Ep,.cells 1 Xs 0)::ob,hs,⟨Ep,Xs,ob,rfl,hX,T9,rfl⟩,o.tl.tl⟩
def yQ (r : AV) : Prop:=∃ j : Dw,r=.agg j.cells
theorem WR (B : Nat) : Rd B 251 [] yQ:=by
 intro id s H0 H hs o;refine ee.go fun _=>?_;refine tt ?_;refine nb o fun ER H o=>tt ?_;refine (WE B).go hs o.swap fun r s H _ ⟨c,e,_⟩ hs o=>?_;subst e;refine tt ?_;refine (Ml B c hs o).mono ?_
 rintro r H ⟨s,C,p,hs,⟨Ep,Xs,ob,rfl,hX,⟨Rb,NA⟩,rfl⟩,o⟩
 have IV:=hX.len;refine tt ?_;refine nb o fun Ce H o=>tt ?_;refine sw o fun H o=>tt ?_
 have o : AA H0 H ((id,s.obj)::(Ce,Ir c (.buf Ep Xs.length))::(Ep,.cells 1 Xs 0)::(ob++[(ER,AF.cells 6 [.int .i64 0,.A1,.A1,.A1,.A1,.A1] 0)])):=by
  simp only [Ir];exact o.pm
 refine (AZ B 24).go hs o fun r s H _ ⟨v,e,_⟩ hs o=>?_;subst e;refine tt ?_;apply bk <;> intro g0
 ·refine tt ?_;refine AK o.tl (by simp) (tt ?_);apply bk <;> intro g3
  ·have Dh:=A7 g3;refine tw g3 ?_;refine AK o.tl (by simp) (tt ?_);refine ⟨by omega,AK o.tl.tl (by omega) ?_⟩
   obtain ⟨X0,Xs,rfl⟩ : ∃ a r,Xs=a::r:=by
    cases Xs with
    | nil=>simp at Dh
    | cons a r=>exact ⟨a,r,rfl⟩
   obtain ⟨A0,C0,pX,oC,rfl,rfl,hp,hR⟩ : ∃ A0 C0 pX oC,C=A0::C0∧ob=pX++oC∧QA iL pX X0 A0∧Et iL Xs C0 oC:=by
    cases hX with
    | cons hp hR=>exact ⟨_,_,_,_,rfl,rfl,hp,hR⟩
   have hlA:=hp.Ee
   have hX : Et iL (X0::Xs) (A0::C0) (pX++oC):=.cons hp hR;rw [show (X0::Xs).getD (Int.toNat 0) nv=X0 from rfl];refine tw hlA ?_
   have NW:=hX.len
   have od : AA H0 H ((Ep,.cells 1 (X0::Xs) 0)::((pX++oC)++[(Ce,Ir c (.buf Ep (X0::Xs).length)),(id,s.obj),(ER,AF.cells 6 [.int .i64 0,.A1,.A1,.A1,.A1,.A1] 0)])):=o.pm;refine Cy hX [] H od fun H o=>?_;simp only [List.nil_append] at o
   have o : AA H0 H ((Ce,Ir c (.buf Ep (X0::Xs).length))::(Ep,.cells 1 ((A0::C0).map (mL iL)) 0)::[(id,s.obj),(ER,AF.cells 6 [.int .i64 0,.A1,.A1,.A1,.A1,.A1] 0)]):=o.pm;refine AY ?_;refine tt ?_;apply bk <;> intro g4
   ·have Fm:=A7 g4;refine tt ?_;refine AK o (by simp) (tt ?_);refine AK o (by simp) (tt ?_);refine ⟨by simp,BU o.tl (by simp) ?_⟩;rw [show (A0::C0).getD (Int.toNat 0) default=A0 from rfl];refine tt ?_;refine ⟨by omega,by simp, ?_⟩;refine Bw (A0.drop (Int.toNat 1)) o.swap rfl (by simp) fun H o=>?_
    have o:=o.swap
    have NW : (X0::Xs).length=((A0::C0).set (Int.toNat 0) (A0.drop (Int.toNat 1))).length:=by rw [List.length_set]; exact NW
    refine tt ?_;simp only [Ir] at o;refine B5 (f:=mL iL) 5 o rfl NW fun H o=>AY ?_;have o:=s1 o;refine tt ?_;refine Ac o (by simp) (tt ?_);refine sw (o.pull [_,_]) fun H o=>tt ?_
    have BV:=o.rc 6 0 (by simp);simp only [List.drop_zero] at BV;rw [BV];refine tt ?_;exact Ax ⟨⟨c,(A0::C0).set (Int.toNat 0) (A0.drop (Int.toNat 1))⟩,rfl⟩ hs (o.pull [_,_])
   ·refine tt ?_;simp only [Ir] at o;refine B5 (f:=mL iL) 5 o rfl NW fun H o=>AY ?_;have o:=s1 o;refine tt ?_;refine Ac o (by simp) (tt ?_);refine sw (o.pull [_,_]) fun H o=>tt ?_
    have BV:=o.rc 6 0 (by simp);simp only [List.drop_zero] at BV;rw [BV];refine tt ?_;exact Ax ⟨⟨c,A0::C0⟩,rfl⟩ hs (o.pull [_,_])
  ·refine tw g3 ?_;refine AY ?_;refine tt ?_
   have NW:=hX.len
   have od : AA H0 H ((Ep,.cells 1 (Xs) 0)::((ob)++[(Ce,Ir c (.buf Ep (Xs).length)),(id,s.obj),(ER,AF.cells 6 [.int .i64 0,.A1,.A1,.A1,.A1,.A1] 0)])):=o.pm;refine Cy hX [] H od fun H o=>?_;simp only [List.nil_append] at o
   have o : AA H0 H ((Ce,Ir c (.buf Ep (Xs).length))::(Ep,.cells 1 ((C).map (mL iL)) 0)::[(id,s.obj),(ER,AF.cells 6 [.int .i64 0,.A1,.A1,.A1,.A1,.A1] 0)]):=o.pm;simp only [Ir] at o;refine B5 (f:=mL iL) 5 o rfl NW fun H o=>AY ?_;have o:=s1 o;refine tt ?_;refine Ac o (by simp) (tt ?_);refine sw (o.pull [_,_]) fun H o=>tt ?_
   have BV:=o.rc 6 0 (by simp);simp only [List.drop_zero] at BV;rw [BV];refine tt ?_;exact Ax ⟨⟨c,C⟩,rfl⟩ hs (o.pull [_,_])
 ·refine tt ?_;apply bk <;> intro g1
  ·refine tt ?_;refine AK o.tl (by simp) (tt ?_);refine Ae o fun BQ H o=>tt ?_
   have o : AA H0 H ((Ep,.cells 1 Xs 0)::((BQ,.cells 1 [] 0)::(id,s.obj)::(Ce,Ir c (.buf Ep Xs.length))::(ob++[(ER,AF.cells 6 [.int .i64 0,.A1,.A1,.A1,.A1,.A1] 0)]))):=o.pm;refine Nh o rfl rfl rfl (by simp only [AL]; omega) fun iZ H o=>tt ?_
   have o : AA H0 H ((Ce,Ir c (.buf Ep Xs.length))::(iZ,.cells 1 (Xs++[AV.buf BQ 0]) 0)::((BQ,.cells 1 [] 0)::(id,s.obj)::(ob++[(ER,AF.cells 6 [.int .i64 0,.A1,.A1,.A1,.A1,.A1] 0)]))):=o.pm;refine sw o fun H o=>tt ?_
   have hX:=hX.Y9 (X:=.buf BQ 0) (A:=[]) (p:=[(BQ,.cells 1 [] 0)]) (.inr ⟨BQ,rfl,rfl⟩)
   have hXs : Xs.length+1=(Xs++[AV.buf BQ 0]).length:=by simp
   rw [hXs] at o
   have o : AA H0 H ((Ce,Ir c (.buf iZ (Xs++[AV.buf BQ 0]).length))::(iZ,.cells 1 (Xs++[AV.buf BQ 0]) 0)::((BQ,.cells 1 [] 0)::(id,s.obj)::(ob++[(ER,AF.cells 6 [.int .i64 0,.A1,.A1,.A1,.A1,.A1] 0)]))):=o
   have NW:=hX.len
   have od : AA H0 H ((iZ,.cells 1 (Xs++[AV.buf BQ 0]) 0)::((ob++[(BQ,.cells 1 [] 0)])++[(Ce,Ir c (.buf iZ (Xs++[AV.buf BQ 0]).length)),(id,s.obj),(ER,AF.cells 6 [.int .i64 0,.A1,.A1,.A1,.A1,.A1] 0)])):=o.pm;refine Cy hX [] H od fun H o=>?_;simp only [List.nil_append] at o
   have o : AA H0 H ((Ce,Ir c (.buf iZ (Xs++[AV.buf BQ 0]).length))::(iZ,.cells 1 ((C++[[]]).map (mL iL)) 0)::[(id,s.obj),(ER,AF.cells 6 [.int .i64 0,.A1,.A1,.A1,.A1,.A1] 0)]):=o.pm;simp only [Ir] at o;refine B5 (f:=mL iL) 5 o rfl NW fun H o=>AY ?_;have o:=s1 o;refine tt ?_;refine Ac o (by simp) (tt ?_);refine sw (o.pull [_,_]) fun H o=>tt ?_
   have BV:=o.rc 6 0 (by simp);simp only [List.drop_zero] at BV;rw [BV];refine tt ?_;exact Ax ⟨⟨c,C++[[]]⟩,rfl⟩ hs (o.pull [_,_])
  ·refine tt ?_;apply bk <;> intro g2
   ·refine tt ?_;refine AK o.tl (by simp) (tt ?_);apply bk <;> intro g3
    ·have Dh:=A7 g3
     have wQ:=NA (C.getD 0 []) (AE.mpr ⟨0,by omega,rfl⟩);refine tt ?_;refine ⟨⟨_,_,o.tl.h0⟩,AK o.tl (by simp) ?_⟩;refine tt ?_;refine ⟨⟨_,_,o.tl.h0⟩,AK o.tl (by simp) ?_⟩;refine tt ?_;refine ⟨by omega,⟨_,_,o.tl.tl.h0⟩,AK o.tl.tl (by omega) ?_⟩;refine tt ?_;refine (SU B 3).FT hs o fun r s H _ ⟨v,e⟩ hs o hz=>⟨hz, ?_⟩;subst e;refine tt ?_
     have o : AA H0 H ((Ep,.cells 1 Xs 0)::(ob++[(id,s.obj),(Ce,Ir c (.buf Ep Xs.length)),(ER,AF.cells 6 [.int .i64 0,.A1,.A1,.A1,.A1,.A1] 0)])):=o.pm;refine Ha (i:=0) o hX (by omega) [v] rfl (by simp only [AL]; omega) fun X' ob' H QB HJ o=>?_;try simp only [go_sem,↓reduceIte,reduceEqDiff,reduceAdd,reduceMul,reduceLeDiff,reduceLT,AV.cells_one QB]
     refine ⟨by omega,Ap o (by omega) (by (try simp only [go_sem]); (try simp)) (by simp [QB]) fun H o=>?_⟩
     have hw : wr Xs (Int.toNat 0) [X']=Xs.set 0 X':=rfl;rw [hw,show Xs.length=(Xs.set 0 X').length by simp] at o
     replace hX:=HJ;refine tt ?_
     have NW:=hX.len
     have od : AA H0 H ((Ep,.cells 1 (Xs.set 0 X') 0)::((ob')++[(Ce,Ir c (.buf Ep (Xs.set 0 X').length)),(id,s.obj),(ER,AF.cells 6 [.int .i64 0,.A1,.A1,.A1,.A1,.A1] 0)])):=o.pm;refine Cy hX [] H od fun H o=>?_;simp only [List.nil_append] at o
     have o : AA H0 H ((Ce,Ir c (.buf Ep (Xs.set 0 X').length))::(Ep,.cells 1 ((C.set 0 (C.getD 0 []++[[v]])).map (mL iL)) 0)::[(id,s.obj),(ER,AF.cells 6 [.int .i64 0,.A1,.A1,.A1,.A1,.A1] 0)]):=o.pm;simp only [Ir] at o;refine B5 (f:=mL iL) 5 o rfl NW fun H o=>AY ?_;have o:=s1 o;refine tt ?_;refine Ac o (by simp) (tt ?_);refine sw (o.pull [_,_]) fun H o=>tt ?_
     have BV:=o.rc 6 0 (by simp);simp only [List.drop_zero] at BV;rw [BV];refine tt ?_;exact Ax ⟨⟨c,C.set 0 (C.getD 0 []++[[v]])⟩,rfl⟩ hs (o.pull [_,_])
    ·refine tt ?_
     have NW:=hX.len
     have od : AA H0 H ((Ep,.cells 1 (Xs) 0)::((ob)++[(Ce,Ir c (.buf Ep (Xs).length)),(id,s.obj),(ER,AF.cells 6 [.int .i64 0,.A1,.A1,.A1,.A1,.A1] 0)])):=o.pm;refine Cy hX [] H od fun H o=>?_;simp only [List.nil_append] at o
     have o : AA H0 H ((Ce,Ir c (.buf Ep (Xs).length))::(Ep,.cells 1 ((C).map (mL iL)) 0)::[(id,s.obj),(ER,AF.cells 6 [.int .i64 0,.A1,.A1,.A1,.A1,.A1] 0)]):=o.pm;simp only [Ir] at o;refine B5 (f:=mL iL) 5 o rfl NW fun H o=>AY ?_;have o:=s1 o;refine tt ?_;refine Ac o (by simp) (tt ?_);refine sw (o.pull [_,_]) fun H o=>tt ?_
     have BV:=o.rc 6 0 (by simp);simp only [List.drop_zero] at BV;rw [BV];refine tt ?_;exact Ax ⟨⟨c,C⟩,rfl⟩ hs (o.pull [_,_])
   ·refine tt ?_
    have NW:=hX.len
    have od : AA H0 H ((Ep,.cells 1 (Xs) 0)::((ob)++[(Ce,Ir c (.buf Ep (Xs).length)),(id,s.obj),(ER,AF.cells 6 [.int .i64 0,.A1,.A1,.A1,.A1,.A1] 0)])):=o.pm;refine Cy hX [] H od fun H o=>?_;simp only [List.nil_append] at o
    have o : AA H0 H ((Ce,Ir c (.buf Ep (Xs).length))::(Ep,.cells 1 ((C).map (mL iL)) 0)::[(id,s.obj),(ER,AF.cells 6 [.int .i64 0,.A1,.A1,.A1,.A1,.A1] 0)]):=o.pm;simp only [Ir] at o;refine B5 (f:=mL iL) 5 o rfl NW fun H o=>AY ?_;have o:=s1 o;refine tt ?_;refine Ac o (by simp) (tt ?_);refine sw (o.pull [_,_]) fun H o=>tt ?_
    have BV:=o.rc 6 0 (by simp);simp only [List.drop_zero] at BV;rw [BV];refine tt ?_;exact Ax ⟨⟨c,C⟩,rfl⟩ hs (o.pull [_,_])
theorem Oe (A : List Int) (i : Nat) : A.set i (A.getD i default)=A:=by
 apply List.ext_getElem?
 intro j
 by_cases e : i=j
 ·subst e
  by_cases h : i<A.length
  ·simp [gE,h]
  ·rw [List.getElem?_eq_none (by simp; omega),List.getElem?_eq_none (by omega)]
 ·rw [List.getElem?_set_ne e]
theorem XE (B : Nat) (l : List Int) (hl : l.length≤100000) : PB B 279 [iL l] (iL (En l)):=by
 refine ⟨fun H0=>mK.go fun _=>?_⟩
 have o : AA H0 H0 []:=.nil _;refine tt ?_;refine Ag iI o fun Ce H o=>tt ?_;refine Ag iI o fun BJ H o=>tt ?_
 refine AD [0] (G:=(Nat × List Int) × (Nat × List Int)) (fun k g=>[(3,some (.buf g.1.1 g.1.2.length)),(4,some (.buf g.2.1 g.2.2.length)),(5,some (.int .i64 (k : Int)))])
  (fun k g H=>(g.1.2=En (l.take k)∧g.2.2=EC (l.take k))∧AA H0 H [(g.2.1,.cells 1 (g.2.2.map iI) 0),(g.1.1,.cells 1 (g.1.2.map iI) 0)]) l.length ((Ce,[]),(BJ,[])) ⟨⟨rfl,rfl⟩,o⟩ rfl ?_
 clear o
 rintro k ⟨⟨Ce,out⟩,⟨BJ,seen⟩⟩ H hk ⟨⟨Au,iN⟩,o⟩;dsimp only at o Au iN
 have TM : out.length=k:=by rw [Au,Oj,List.length_take]; omega
 have Fg : seen.length≤k:=by rw [iN]; exact Nat.le_trans (MM _ _ rfl) (by rw [List.length_take]; omega)
 refine tt ?_;apply bk <;> intro h1
 ·refine tt ?_
  have AR:=dd h1
  have w1:=ws k
  have Rh:=G7 (l.take k) (l.getD k default)
  have VO:=TS (l.take k) (l.getD k default);rw [← take_one l AR,← iN] at Rh;rw [← take_one l AR,← Au] at VO;refine ⟨AR,MK 0 rfl o rfl (.int _ _) (FU ..).run ?_⟩
  have hb:=GL seen (l.getD k default)
  have hm:=ET seen (l.getD k default);refine tt ?_;apply bk <;> intro h2
  ·refine tt ?_
   have Ah:=dd h2
   have tG : l.getD k default ∉ seen:=fun h=>by have:=hm.mpr h; omega
   rw [if_neg tG] at Rh;rw [Rh,SX tG] at VO;refine ⟨AR, ?_⟩;refine Ad (l.getD k default) o rfl rfl (by simp only [AL]; omega) fun BJ H o=>tt ?_;refine Ad ((seen.length : Nat) : Int) o.swap rfl rfl (by simp only [AL]; omega) fun Ce H o=>?_;refine tw w1 ?_;exact A5 ((_,_),(_,_)) (by omega) ⟨⟨VO.symm,Rh.symm⟩,o.swap⟩ rfl
  ·refine tt ?_
   have Ah:=dd h2
   have hi : l.getD k default∈seen:=hm.mp (by omega);rw [if_pos hi] at Rh;rw [Rh] at VO;refine Ad (indexOf seen (l.getD k default)) o.swap rfl rfl (by simp only [AL]; omega) fun Ce H o=>?_;refine tw w1 ?_;exact A5 ((_,_),(_,_)) (by omega) ⟨⟨VO.symm,Rh.symm⟩,o.swap⟩ rfl
 ·refine tt ?_
  have AR:=dd h1
  obtain rfl : k=l.length:=by omega
  refine Al o.swap rfl fun H o=>tt ?_;exact A6 (by rw [Au,List.take_length]) o.sub
theorem UW (B : Nat) (n : Nat) (hn : n≤100000) (ps : List (List Int)) (hp : ∀ q,q∈ps→2≤q.length∧(0≤q.getD 0 default∧(q.getD 0 default).toNat<n)∧(0≤q.getD 1 default∧(q.getD 1 default).toNat<n)) :
  PB B 229 [iI n,BA ps] (iL (Ic n ps)):=by
 refine ⟨fun H0=>mY.go fun ⟨_,hf,_⟩=>?_⟩
 have hl:=AM hf;simp only [AL] at hl
 have o : AA H0 H0 []:=.nil _;refine tt ?_;refine Ag iI o fun id H o=>tt ?_;refine AD [0,1] (G:=Nat × List Int) (fun k g=>[(5,some (.buf g.1 g.2.length)),(6,some (.int .i64 (k : Int)))]) (fun k g H=>g.2=(List.range k).map Int.ofNat∧AA H0 H [(g.1,.cells 1 (g.2.map iI) 0)]) n (id,[]) ⟨rfl,o⟩ rfl ?_;clear o
 rintro k ⟨id,A⟩ H hk ⟨hA,o⟩;dsimp only at hA o
 have Lz : A.length=k:=by rw [hA]; simp
 refine tt ?_;apply bk <;> intro h1
 ·refine tt ?_
  have AR:=dd h1
  have w1:=ws k;refine Ad (k : Int) o rfl rfl (by simp only [AL]; omega) fun id H o=>?_;refine tw w1 ?_;exact A5 (_,_) (by omega) ⟨by rw [hA,List.range_succ]; simp,o⟩ rfl
 ·refine tt ?_
  have AR:=dd h1
  obtain rfl : k=n:=by omega
  refine AD [1,5] (fun q _=>[(7,some (.int .i64 (q : Int)))]) (fun q A H=>A=LJ k (ps.take q)∧AA H0 H [(id,.cells 1 (A.map iI) 0)]) ps.length A ⟨hA,o⟩ rfl ?_;clear o
  rintro q A2 H hq ⟨aZ,o⟩
  have Ii : A2.length=k:=by rw [aZ,LX]
  refine tt ?_;apply bk <;> intro h2
  ·refine tt ?_
   have Ah:=dd h2
   have w2:=ws q
   have sL:=hp _ (AE.mpr ⟨q,Ah,rfl⟩)
   have e0 : ix (ps.getD q default) 0=(ps.getD q default).getD 0 default:=rfl
   have e1 : ix (ps.getD q default) 1=(ps.getD q default).getD 1 default:=rfl
   have D0:=aA k ps Ah;rw [← aZ,e0,e1] at D0;refine ⟨Ah,⟨by omega,Nat.lt_of_lt_of_le (by decide) sL.1⟩,⟨by rw [e0]; omega,by rw [e0]; omega⟩,BU o (by rw [e0]; omega) ?_⟩;refine tt ?_;refine ⟨Ah,⟨by omega,Nat.lt_of_lt_of_le (by decide) sL.1⟩,⟨by rw [e1]; omega,by rw [e1]; omega⟩,BU o (by rw [e1]; omega) ?_⟩;refine tt ?_;rw [e0,e1]
   have ea : A2.getD ((ps.getD q default).getD 0 default).toNat default=ix A2 ((ps.getD q default).getD 0 default):=rfl
   have eb : A2.getD ((ps.getD q default).getD 1 default).toNat default=ix A2 ((ps.getD q default).getD 1 default):=rfl;rw [ea,eb]
   generalize ix A2 ((ps.getD q default).getD 0 default)=va at D0 ⊢
   generalize ix A2 ((ps.getD q default).getD 1 default)=vb at D0 ⊢;refine AD [1,5,7,8,9] (fun i _=>[(10,some (.int .i64 (i : Int)))]) (fun i A H=>A=DT A2 va vb i∧AA H0 H [(id,.cells 1 (A.map iI) 0)]) k A2 ⟨(Se _ _ _).symm,o⟩ rfl ?_;clear o
   rintro i A3 H hi ⟨l6,o⟩
   have hl3 : A3.length=k:=by rw [l6,V1 _ _ _ (by omega)]; exact Ii
   rw [Lz];refine tt ?_;apply bk <;> intro h3
   ·refine tw h3 ?_
    have B8:=dd h3
    have w3:=ws i
    have hg:=Uk A2 va vb (i:=i) (by omega)
    have hs:=SJ A2 va vb (i:=i) (by omega);rw [← l6] at hg hs;apply bk <;> intro h4
    ·refine tt ?_
     have Cr:=dd h4;refine ⟨B8,BU o (by omega) ?_⟩;refine tt ?_;apply bk <;> intro h5
     ·refine tt ?_
      have Ho:=dd h5;refine ⟨B8,Bw _ o rfl (by omega) fun H o=>?_⟩;refine tw w3 ?_;exact A5 _ (by omega) ⟨by rw [hs,if_pos (by rw [← hg]; exact Ho)],o⟩ rfl
     ·refine tw w3 ?_
      have Ho:=dd h5;refine A5 A3 (by omega) ⟨?_,o⟩ rfl;rw [hs,if_neg (by rw [← hg]; exact Ho),← hg,Oe]
    ·refine tw w2 ?_
     have Cr:=dd h4;refine A5 A3 (by omega) ⟨?_,o⟩ rfl;subst Cr
     have : ∀ i,DT A2 va va i=A2:=fun i=>by rw [DT,Pj,List.take_append_drop]
     rw [l6,this,D0,Pj]
   ·refine t2 h3 w2 ?_
    have B8:=dd h3;refine A5 A3 (by omega) ⟨?_,o⟩ rfl
    have um : i=A2.length:=by omega
    rw [l6,um,V9,D0]
  ·refine tt ?_
   have Ah:=dd h2
   obtain rfl : q=ps.length:=by omega
   rw [List.take_length] at aZ;rw [Lz];refine Al o Ii.symm fun H o=>tt ?_;refine (XE B A2 (by omega)).go fun _=>tt ?_;exact A6 (by rw [Ic,aZ]) o.sub
theorem Sz (B : Nat) (p : List Int) (H0 H : AB) (l : List (Nat × AF)) (o : AA H0 H l) : CB B 298 [iL p] H (PQ iL H0 l (·=Fp p)):=by
 refine yA.go fun ⟨hf,_⟩=>?_
 have hl:=AM hf;simp only [AL] at hl;refine tt ?_;refine Ag iL o fun id H o=>tt ?_
 refine AD [0] (G:=Nat × List (List Int)) (fun k g=>[(3,some (.buf g.1 g.2.length)),(4,some (.int .i64 (k : Int)))])
  (fun k g H=>g.2=(List.range k).map (fun i : Nat=>[indexOf p (p.getD i default),(i : Int)])∧AA H0 H ((g.1,.cells 1 (g.2.map iL) 0)::l)) p.length (id,[]) ⟨rfl,o⟩ rfl ?_
 clear o
 rintro k ⟨id,out⟩ H hk ⟨Au,o⟩;dsimp only at Au o
 have TM : out.length=k:=by rw [Au]; simp
 refine tt ?_;apply bk <;> intro h1
 ·refine tt ?_
  have AR:=dd h1
  have w1:=ws k;refine ⟨AR,(FU ..).go fun _=>?_⟩;refine tt ?_;refine Ad [indexOf p (p.getD k default),(k : Int)] o rfl rfl (by simp only [AL]; omega) fun id H o=>?_;refine tw w1 ?_;exact A5 (_,_) (by omega) ⟨by rw [Au,List.range_succ]; simp,o⟩ rfl
 ·refine tt ?_
  have AR:=dd h1
  obtain rfl : k=p.length:=by omega
  exact Gy o rfl (by rw [Au]; rfl)
end Go.Proofs.Shf
namespace Go.Shf
open Go.AW
def D7 (c : Ay) (n : Int) : SF:=⟨c,List.replicate c.AO.toNat n,List.replicate c.AJ.length ((List.range n.toNat).map Int.ofNat)⟩
theorem Ph {α : Type} (k : Nat) (a : α) : List.replicate (k+1) a=List.replicate k a++[a]:=List.replicate_succ'
end Go.Shf
namespace Go.Proofs.Shf
open Go.AW Go.Proofs Go.Shf
abbrev z7 : List AV:=[.int .i64 0,.A1,.A1,.A1,.A1,.A1,.A1]
theorem Sl (B : Nat) (c : Ay) (F3 : 0≤c.AO∧c.AO≤4096) (hm : c.AJ.length≤4096) (n : Int) (hn : 0≤n∧n≤100) : PB B 265 [.agg c.cells,iI n] (.agg (D7 c n).cells):=by
 refine ⟨fun H0=>im.go fun Gi=>?_⟩
 have o : AA H0 H0 []:=.nil _;refine tt ?_;refine nb o fun BJ H o=>tt ?_;refine (EX B c).go fun _=>tt ?_;refine nb o fun CP H o=>tt ?_;refine sw o fun H o=>?_
 let st : AV→AV→AF:=fun x5 x6=>.cells 7 [iI c.AO,iL c.AJ,iL c.to,iL c.Av,BA c.comp,x5,x6] 0
 refine tt ?_;refine AD [1,2,4,5] (G:=AV) (fun k X=>[(6,some (.int .i64 (k : Int)))]) (fun k X H=>CZ iI H0 H ((CP,st X .A1)::[(BJ,.cells 7 z7 0)]) X (List.replicate k n)) c.AO.toNat .A1 (.inl ⟨rfl,rfl,o⟩) rfl ?_;clear o
 rintro k X H hk hX;refine tt ?_;apply bk <;> intro h1
 ·have AR:=A7 h1
  have w:=ws k;refine tt ?_;refine Af hX.obj (by simp [st]) (tt ?_);refine hX.app n rfl (by simp only [List.length_replicate,AL]; omega) fun Av H o=>?_;rw [← Ph] at o ⊢;refine tt ?_;refine sw o.swap fun H o=>?_;refine tw w ?_;exact A5 _ (by omega) (.inr ⟨Av,rfl,o.swap⟩) rfl
 ·have AR:=A9 h1
  obtain rfl : k=c.AO.toNat:=by omega
  obtain ⟨p5,o,h5⟩:=hX.split
  have o : AA H0 H ((CP,st X .A1)::(p5++[(BJ,.cells 7 z7 0)])):=o.perm List.perm_middle;clear hX;refine tt ?_;refine AD [1,2,4,5] (G:=AV) (fun a Y=>[(7,some (.int .i64 (a : Int)))]) (fun a Y H=>CZ iL H0 H ((CP,st X Y)::(p5++[(BJ,.cells 7 z7 0)])) Y (List.replicate a ((List.range n.toNat).map Int.ofNat))) c.AJ.length .A1 (.inl ⟨rfl,rfl,o⟩) rfl ?_;clear o
  rintro a Y H ha hY
  replace hY : CZ iL H0 H ((CP,st X Y)::(p5++[(BJ,.cells 7 z7 0)])) Y (List.replicate a ((List.range n.toNat).map Int.ofNat)):=hY;refine tt ?_;apply bk <;> intro h2
  ·have Ah:=A7 h2
   have w2:=ws a
   obtain ⟨q,o,hq⟩:=hY.split;clear hY;refine tt ?_;refine Ag iI o fun Ea H o=>tt ?_
   refine AD [1,2,4,5,7] (G:=Nat × List Int) (fun e g=>[(8,some (.buf g.1 g.2.length)),(9,some (.int .i64 (e : Int)))])
    (fun e g H=>g.2=(List.range e).map Int.ofNat∧AA H0 H ((g.1,.cells 1 (g.2.map iI) 0)::(q++((CP,st X Y)::(p5++[(BJ,.cells 7 z7 0)]))))) n.toNat (Ea,[]) ⟨rfl,o⟩ rfl ?_
   clear o
   rintro e ⟨Ea,row⟩ H he ⟨B3,o⟩;dsimp only at B3 o
   have Mc : row.length=e:=by rw [B3]; simp
   refine tt ?_;apply bk <;> intro h3
   ·have B8:=A7 h3
    have w3:=ws e;refine tt ?_;refine Ad (e : Int) o rfl rfl (by simp only [AL]; omega) fun Ea H o=>?_;refine tw w3 ?_;exact A5 (_,_) (by omega) ⟨by rw [B3,List.range_succ]; simp,o⟩ rfl
   ·have B8:=A9 h3
    obtain rfl : e=n.toNat:=by omega
    refine tt ?_;refine Al o rfl fun H o=>?_
    have hY:=CZ.mk o hq;clear o;refine tt ?_;refine Af hY.obj (by simp [st]) (tt ?_);refine hY.app row rfl (by simp only [List.length_replicate,AL]; omega) fun Av H o=>?_;rw [B3,← Ph] at o ⊢;refine tt ?_;refine sw o.swap fun H o=>?_;refine tw w2 ?_;exact A5 _ (by omega) (.inr ⟨Av,rfl,o.swap⟩) rfl
  ·have Ah:=A9 h2
   obtain rfl : a=c.AJ.length:=by omega
   refine tt ?_;refine Ec 6 hY rfl fun H o=>?_;have o:=s1 o
   have hX:=CZ.mk (o.perm List.perm_middle.symm) h5;clear o;refine Ec 5 hX rfl fun H o=>AY ?_;have o:=s1 o;refine tt ?_;refine Ac o (by simp) (tt ?_);refine sw o.swap fun H o=>tt ?_
   have hr:=o.rc 7 0 (by simp);simp only [List.drop_zero] at hr;rw [hr];exact A6 rfl o.sub
theorem Nu (B : Nat) (c : Ay) (hc : c.Shape) (n : Int) (hn : 0≤n∧n≤100) : PB B 265 [.agg c.cells,iI n] (.agg (D7 c n).cells) :=
 Sl B c (by have:=hc.o; omega) (by have:=hc.m; omega) n hn
def yZ (c : Ay) (os : List Int) (r : AV) : Prop:=r=.agg (Ey c os).cells∧(Ey c os).zx c 120
theorem Tm (B : Nat) (c : Ay) (hc : c.Is) (os : List Int) (rS : os.length≤3) : Jq B 263 [.agg c.cells,iL os] (yZ c os):=by
 intro H0;refine zR.go fun _=>?_
 have hm:=hc.1.m
 have F3:=hc.1.o
 have IQ:=hc.1.HN
 have o : AA H0 H0 []:=.nil _;refine tt ?_;refine nb o fun BJ H o=>tt ?_;refine ⟨⟨by omega,by simp only [AL]; omega⟩, ?_⟩;rw [JZ];refine Ae o fun FJ H o=>tt ?_
 refine AD [1,2,4,5] (G:=List AV × List (List (List Int)) × List (Nat × AF)) (fun k _=>[(6,some (.int .i64 (k : Int)))])
  (fun k g H=>AA H0 H ((FJ,.cells 1 g.1 0)::(g.2.2++[(BJ,.cells 7 z7 0)]))∧Et iL g.1 g.2.1 g.2.2∧GW c os k 0 g.2.1) os.length (List.replicate c.AO.toNat .A1,List.replicate c.AO.toNat [],[]) ⟨o,Et.rep iL _,.zero F3.1⟩ rfl ?_
 clear o
 rintro k ⟨Xs,LL,ob⟩ H hk ⟨o,hR,hI⟩;dsimp only at o hR hI;refine tt ?_;apply bk <;> intro h1
 ·have AR:=A7 h1
  have w1:=ws k;refine tt ?_
  refine AD [1,2,4,5,6] (G:=List AV × List (List (List Int)) × List (Nat × AF)) (fun h _=>[(7,some (.int .i64 (h : Int)))])
   (fun h g H=>AA H0 H ((FJ,.cells 1 g.1 0)::(g.2.2++[(BJ,.cells 7 z7 0)]))∧Et iL g.1 g.2.1 g.2.2∧GW c os k h g.2.1) c.AJ.length (Xs,LL,ob) ⟨o,hR,hI⟩ rfl ?_
  clear o hR hI Xs LL ob
  rintro h ⟨Xs,LL,ob⟩ H hh ⟨o,hR,hI⟩;dsimp only at o hR hI;refine tt ?_;apply bk <;> intro h2
  ·have Ah:=A7 h2
   have w2:=ws h
   have DS:=hc.1.Cb (f:=(h : Int)) (by simpa using Ah);rw [AH] at DS
   have IV:=hR.len
   have l5:=hI.len
   have T9:=hI.bd (c.to.getD h default).toNat
   have sO : k*c.AJ.length≤2*40:=Nat.mul_le_mul (by omega) hm;refine tt ?_;refine ⟨Ah,AR, ?_⟩;apply bk <;> intro h3
   ·have B8 : c.AJ.getD h default=os.getD k default:=A7 h3;refine tt ?_;refine ⟨by omega,by omega,⟨DS.1,by omega⟩,Af o.h0 (by omega) ?_⟩;refine tt ?_;refine Ha o hR (by omega) [(k : Int),(h : Int)] rfl (by show (LL.getD _ default).length+1≤AL; simp only [AL]; omega) fun X' o' H QB hR o=>?_;try simp only [go_sem,↓reduceIte,reduceEqDiff,reduceAdd,reduceMul,reduceLeDiff,reduceLT,AV.cells_one QB]
    refine ⟨⟨DS.1,by omega⟩,Ap o (by omega) rfl (by simp only [Bi,CR]; exact ⟨QB,trivial⟩) fun H o=>?_⟩;simp only [FI,HE] at o;refine tw w2 ?_;exact A5 (_,_,_) (by omega) ⟨o,hR,hI.XR hc.1 AR Ah B8⟩ rfl
   ·refine tw w2 ?_;exact A5 (_,_,_) (by omega) ⟨o,hR,hI.skip (A9 h3)⟩ rfl
  ·have Ah:=A9 h2
   obtain rfl : h=c.AJ.length:=by omega
   refine tw w1 ?_;exact A5 (_,_,_) (by omega) ⟨o,hR,hI.next⟩ rfl
 ·have AR:=A9 h1
  obtain rfl : k=os.length:=by omega
  have l5:=hI.len;refine tt ?_;refine Cy hR [] H o fun H o=>AY ?_;rw [List.nil_append] at o;clear hR;refine tt ?_;refine Al (f:=BA) o (by omega) fun H o=>tt ?_;refine (EX B c).go fun _=>tt ?_;refine nb o fun Ea H o=>tt ?_;refine sw o fun H o=>?_
  let st : AV→AV→AF:=fun x5 x6=>.cells 7 [iI c.AO,iL c.AJ,iL c.to,iL c.Av,BA c.comp,x5,x6] 0
  refine tt ?_
  have HI:=c7 hc hI.toFreeI (N:=120) (by have:=Nat.mul_le_mul rS hm; omega)
  have Jt:=hI.of
  have N6:=hI.full;clear hI;refine AD [2,4,5,8] (G:=AV) (fun k X=>[(9,some (.int .i64 (k : Int)))]) (fun k X H=>CZ iI H0 H ((Ea,st X .A1)::[(BJ,.cells 7 z7 0)]) X ((LL.take k).map fun l=>(l.length : Int))) LL.length .A1 (.inl ⟨rfl,rfl,o⟩) rfl ?_;clear o
  rintro k X H hk hX;refine tt ?_;apply bk <;> intro h4
  ·have Cr:=A7 h4
   have w:=ws k;refine tt ?_;refine Af hX.obj (by simp [st]) (tt ?_);refine ⟨Cr, ?_⟩;refine hX.app ((LL.getD k default).length : Int) rfl (by simp only [List.length_map,List.length_take,AL]; omega) fun Av H o=>?_
   have e5 : ((LL.take k).map fun l=>(l.length : Int))++[((LL.getD k default).length : Int)]=(LL.take (k+1)).map fun l=>(l.length : Int):=by rw [take_one LL Cr]; simp
   rw [e5] at o ⊢;refine tt ?_;refine sw o.swap fun H o=>?_;refine tw w ?_;exact A5 _ (by omega) (.inr ⟨Av,rfl,o.swap⟩) rfl
  ·have Cr:=A9 h4
   obtain rfl : k=LL.length:=by omega
   rw [List.take_length] at hX
   obtain ⟨p5,o,ui⟩:=hX.split
   have o : AA H0 H ((Ea,st X .A1)::(p5++[(BJ,.cells 7 z7 0)])):=o.perm List.perm_middle;clear hX;refine tt ?_;refine AD [2,4,5,8] (G:=AV) (fun a Y=>[(10,some (.int .i64 (a : Int)))]) (fun a Y H=>CZ iL H0 H ((Ea,st X Y)::(p5++[(BJ,.cells 7 z7 0)])) Y ((List.range a).map (Dn c LL))) c.AJ.length .A1 (.inl ⟨rfl,rfl,o⟩) rfl ?_;clear o
   rintro a Y H ha hY
   replace hY : CZ iL H0 H ((Ea,st X Y)::(p5++[(BJ,.cells 7 z7 0)])) Y ((List.range a).map (Dn c LL)):=hY;refine tt ?_;apply bk <;> intro h5
   ·have Ho:=A7 h5
    have w2:=ws a
    have Na:=hc.1.Cn (f:=(a : Int)) (by simpa using Ho)
    have DS:=hc.1.Cb (f:=(a : Int)) (by simpa using Ho);rw [AH] at Na DS
    obtain ⟨q,o,hq⟩:=hY.split;clear hY;refine tt ?_;refine Ag iI o fun G0 H o=>tt ?_;refine ⟨Ho,⟨Na.1,by omega⟩,by omega,⟨DS.1,by omega⟩, ?_⟩
    have eF : ix LL (c.AJ.getD a default)=LL.getD (c.AJ.getD a default).toNat default:=rfl
    have eT : ix LL (c.to.getD a default)=LL.getD (c.to.getD a default).toNat default:=rfl
    have Lq : Dn c LL a=(LL.getD (c.AJ.getD a default).toNat default).map fun q=>indexOf (LL.getD (c.to.getD a default).toNat default) [ix q 0,(ix c.comp (ix q 1)).getD a default]:=rfl
    have hofF:=Jt (c.AJ.getD a default).toNat (by omega);rw [eF,eT]
    generalize hF : LL.getD (c.AJ.getD a default).toNat default=F at *
    generalize hT : LL.getD (c.to.getD a default).toNat default=T at *
    have hFl : F.length≤200:=by
     have:=HI.sz (F.length : Int) (List.mem_map.mpr ⟨F,by rw [← hF]; exact AE.mpr ⟨_,by omega,rfl⟩,rfl⟩);omega
    refine AD [2,4,5,8,10,12,13] (G:=Nat × List Int) (fun e g=>[(11,some (.buf g.1 g.2.length)),(14,some (.int .i64 (e : Int)))])
     (fun e g H=>g.2=(F.take e).map (fun q=>indexOf T [ix q 0,(ix c.comp (ix q 1)).getD a default])∧AA H0 H ((g.1,.cells 1 (g.2.map iI) 0)::(q++((Ea,st X Y)::(p5++[(BJ,.cells 7 z7 0)]))))) F.length (G0,[]) ⟨by simp,o⟩ rfl ?_
    clear o
    rintro e ⟨G0,row⟩ H he ⟨B3,o⟩;dsimp only at B3 o
    have Mc : row.length=e:=by rw [B3,List.length_map,List.length_take]; omega
    refine tt ?_;apply bk <;> intro h6
    ·have Ln:=A7 h6
     have w3:=ws e
     obtain ⟨i,j,eq,hi,hj,_,_⟩:=hofF (F.getD e default) (AE.mpr ⟨e,Ln,rfl⟩)
     have e0 : ix (F.getD e default) 0=(i : Int):=by rw [eq]; rfl
     have e1 : ix (F.getD e default) 1=(j : Int):=by rw [eq]; rfl
     have el : (F.getD e default).length=2:=by rw [eq]; rfl
     have Md:=hc.1.cl
     have kr:=hc.1.L8 (a:=(j : Int)) (by simpa using hj);refine tt ?_;refine ⟨Ln,⟨by omega,by rw [el]; decide⟩,Ln,⟨by omega,by rw [el]; decide⟩, ?_⟩;rw [e0,e1];refine ⟨_,(F9 B c (j : Int) (a : Int) ⟨by omega,by rw [Int.toNat_natCast,Md]; exact hj⟩ ⟨by omega,by rw [kr]; simpa using Ho⟩).run,tt ?_⟩;refine ⟨_,(Gq B T [(i : Int),(ix c.comp (j : Int)).getD a default]).run,tt ?_⟩;refine Ad (indexOf T [(i : Int),(ix c.comp (j : Int)).getD a default]) o rfl rfl (by simp only [AL]; omega) fun G0 H o=>?_;refine tw w3 ?_;refine A5 (_,_) (by omega) ⟨?_,o⟩ rfl;rw [take_one F Ln,List.map_append,← B3,List.map_cons,List.map_nil,e0,e1]
    ·have Ln:=A9 h6
     obtain rfl : e=F.length:=by omega
     rw [List.take_length,← Lq] at B3;refine tt ?_;refine Al o rfl fun H o=>?_
     have hY:=CZ.mk o hq;clear o;refine tt ?_;refine Af hY.obj (by simp [st]) (tt ?_)
     have e7 : (List.range a).map (Dn c LL)++[row]=(List.range (a+1)).map (Dn c LL):=by rw [Bb,B3]
     refine hY.app row rfl (by simp only [List.length_map,List.length_range,AL]; omega) fun Av H o=>tt ?_;refine sw o.swap fun H o=>?_
     have hY : CZ iL H0 H ((Ea,st X (.buf Av ((List.range a).map (Dn c LL)++[row]).length))::(p5++[(BJ,.cells 7 z7 0)])) (.buf Av ((List.range a).map (Dn c LL)++[row]).length) ((List.range a).map (Dn c LL)++[row]):=.inr ⟨Av,rfl,o.swap⟩
     generalize (AV.buf Av ((List.range a).map (Dn c LL)++[row]).length)=Y' at hY;rw [e7] at hY;refine tw w2 ?_;exact A5 Y' (by omega) hY rfl
   ·have Ho:=A9 h5
    obtain rfl : a=c.AJ.length:=by omega
    refine tt ?_;refine Ec 6 hY rfl fun H o=>?_;have o:=s1 o
    have hX:=CZ.mk (o.perm List.perm_middle.symm) ui;clear o;refine Ec 5 hX rfl fun H o=>AY ?_;have o:=s1 o;refine tt ?_;refine Ac o (by simp) (tt ?_);refine sw o.swap fun H o=>tt ?_
    have hr:=o.rc 7 0 (by simp);simp only [List.drop_zero] at hr;rw [hr];exact Bj ⟨by rw [Ey,← N6]; rfl,by rw [Ey,← N6]; exact HI⟩ o.sub
def AnyF (r : AV) : Prop:=∃ f : SF,r=.agg f.cells
def gi (c : Ay) (r : AV) : Prop:=∃ f : SF,r=.agg f.cells∧f.shape=c∧f.AU.length≤40
def LZ (sz : List Int) (PP : List (List (List Int))) : Prop:=PP.length=sz.length∧∀ x : Nat,x<sz.length→∀ q,q∈PP.getD x default→2≤q.length∧(0≤q.getD 0 default∧q.getD 0 default<sz.getD x default)∧(0≤q.getD 1 default∧q.getD 1 default<sz.getD x default)
def ik (f : SF) (r : AV) : Prop:=∃ (CC : List (List Int)) (g : SF),r=.agg g.cells∧LQ f.A4 CC∧YK f CC g
theorem UQ (B : Nat) (f : SF) (c : Ay) (hc : c.Is) (hf : f.zx c 120) (PP : List (List (List Int))) (hP : LZ f.A4 PP) : Jq B 264 [.agg f.cells,Ft PP] (ik f):=by
 intro H0;refine x3.go fun _=>?_
 obtain ⟨rfl,Fg,Np,CU,Lq⟩:=hf
 have hm:=hc.1.m
 have F3:=hc.1.o
 have IQ:=hc.1.HN
 have o : AA H0 H0 []:=.nil _
 have Ps : ∀ x,x<f.A4.length→0≤f.A4.getD x default∧f.A4.getD x default≤120:=fun x hx=>CU _ (AE.mpr ⟨x,hx,rfl⟩);refine tt ?_;refine nb o fun BJ H o=>tt ?_;refine Ag iL o fun CP H o=>tt ?_
 refine AD [1,2,4] (G:=Nat × List (List Int)) (fun k g=>[(5,some (.buf g.1 g.2.length)),(6,some (.int .i64 (k : Int)))])
  (fun k g H=>g.2=(List.range k).map (Kx f.A4 PP)∧AA H0 H [(g.1,.cells 1 (g.2.map iL) 0),(BJ,.cells 7 z7 0)]) f.A4.length (CP,[]) ⟨rfl,o⟩ rfl ?_
 clear o
 rintro k ⟨CP,CC⟩ H hk ⟨wG,o⟩
 replace wG : CC=(List.range k).map (Kx f.A4 PP):=wG
 replace o : AA H0 H [(CP,.cells 1 (CC.map iL) 0),(BJ,.cells 7 z7 0)]:=o
 have NW : CC.length=k:=by rw [wG]; simp
 refine tt ?_;apply bk <;> intro h1
 ·have AR:=A7 h1
  have w1:=ws k
  have Yl:=Ps k AR
  obtain ⟨n,hn⟩ : ∃ n : Nat,f.A4.getD k default=n:=⟨_,(Int.toNat_of_nonneg Yl.1).symm⟩
  have hPk:=hP.2 k AR
  have Md : Kx f.A4 PP k=Ic n (PP.getD k default):=by rw [Kx,hn,Int.toNat_natCast]
  rw [hn] at hPk Yl;refine tt ?_;refine ⟨AR,by rw [hP.1]; exact AR, ?_⟩;rw [hn];refine ⟨_,(UW B n (by omega) (PP.getD k default) fun q hq=>?_).run, ?_⟩
  ·have:=hPk q hq; omega
  refine tt ?_;refine Ad (Ic n (PP.getD k default)) o rfl rfl (by simp only [AL]; omega) fun CP H o=>?_;refine tw w1 ?_;exact A5 (_,_) (by omega) ⟨by rw [wG,Bb,Md],o⟩ rfl
 ·have AR:=A9 h1
  obtain rfl : k=f.A4.length:=by omega
  have hK : LQ f.A4 CC:=by rw [wG]; exact Zh (fun y hy=>(CU y hy).1) PP
  clear wG;refine tt ?_;rw [NW];refine tt ?_
  refine Dg [2,4,5] (G:=Bool × List (List Int)) (fun g=>[(7,some (.bool g.1))]) (fun m g H=>(m=Q8 g.2+(if g.1=true then 1 else 0)∧LQ f.A4 g.2∧(g.1=false→Cg f g.2 f.AU.length))∧AA H0 H [(CP,.cells 1 (g.2.map iL) 0),(BJ,.cells 7 z7 0)])
   (Q8 CC+1) (true,CC) ⟨⟨by simp,hK,fun h=>absurd h (by simp)⟩,o⟩ rfl ?_
  clear o hK NW CC
  rintro m ⟨more,CC⟩ H ⟨⟨bD,hK,hG⟩,o⟩
  replace hG : more=false→Cg f CC f.AU.length:=hG
  replace bD : m=Q8 CC+(if more=true then 1 else 0):=bD
  replace hK : LQ f.A4 CC:=hK
  replace o : AA H0 H [(CP,.cells 1 (CC.map iL) 0),(BJ,.cells 7 z7 0)]:=o
  cases more;rotate_left 1
  ·refine tt ?_
   obtain ⟨P0,hP0⟩ : ∃ P0,P0=Q8 CC:=⟨_,rfl⟩;rw [← hP0] at bD
   refine AD [2,4,5] (G:=Bool × List (List Int)) (fun a g=>[(7,some (.bool g.1)),(8,some (.int .i64 (a : Int)))])
    (fun a g H=>(Q8 g.2≤P0∧(g.1=true→Q8 g.2<P0)∧LQ f.A4 g.2∧(g.1=false→Cg f g.2 a))∧AA H0 H [(CP,.cells 1 (g.2.map iL) 0),(BJ,.cells 7 z7 0)]) f.AU.length (false,CC) ⟨⟨by simp [hP0],by simp,hK,fun _ a h=>absurd h (Nat.not_lt_zero a)⟩,o⟩ rfl ?_
   clear o hK hG hP0 CC
   rintro a ⟨more,CC⟩ H ha ⟨⟨Io,Er,hK,hG⟩,o⟩
   replace hG : more=false→Cg f CC a:=hG
   replace Io : Q8 CC≤P0:=Io
   replace Er : more=true→Q8 CC<P0:=Er
   replace hK : LQ f.A4 CC:=hK
   replace o : AA H0 H [(CP,.cells 1 (CC.map iL) 0),(BJ,.cells 7 z7 0)]:=o;refine tt ?_;apply bk <;> intro h2
   ·have Ah:=A7 h2
    have w2:=ws a
    have TQ : a<f.shape.AJ.length:=by omega
    have Na:=hc.1.Cn (f:=(a : Int)) (by simpa using TQ)
    have DS:=hc.1.Cb (f:=(a : Int)) (by simpa using TQ)
    have Px:=Lq a TQ;rw [AH] at Na DS
    obtain ⟨x,hx⟩ : ∃ x : Nat,f.shape.AJ.getD a default=x:=⟨_,(Int.toNat_of_nonneg Na.1).symm⟩
    obtain ⟨y,hy⟩ : ∃ y : Nat,f.shape.to.getD a default=y:=⟨_,(Int.toNat_of_nonneg DS.1).symm⟩;rw [hx,hy,AH,AH] at Px;rw [hx] at Na;rw [hy] at DS
    have Rc : x<f.A4.length:=by omega
    have hJ : y<f.A4.length:=by omega
    have vr:=Ps x Rc
    have hzy:=Ps y hJ
    obtain ⟨n,hn⟩ : ∃ n : Nat,f.A4.getD x default=n:=⟨_,(Int.toNat_of_nonneg vr.1).symm⟩
    obtain ⟨ny,lz⟩ : ∃ n : Nat,f.A4.getD y default=n:=⟨_,(Int.toNat_of_nonneg hzy.1).symm⟩;rw [hn] at Px vr;rw [lz] at Px hzy
    have hlen : (f.AU.getD a default).length=n:=by omega
    refine tt ?_;refine ⟨TQ,by omega, ?_⟩;rw [hx,hy];refine tt ?_
    refine AD [2,4,5,8,9,10] (G:=Bool × List (List Int)) (fun d g=>[(7,some (.bool g.1)),(11,some (.int .i64 (d : Int)))])
     (fun d g H=>(Q8 g.2≤P0∧(g.1=true→Q8 g.2<P0)∧LQ f.A4 g.2∧(g.1=false→Cg f g.2 a∧nM f g.2 a d))∧AA H0 H [(CP,.cells 1 (g.2.map iL) 0),(BJ,.cells 7 z7 0)]) n (more,CC) ⟨⟨Io,Er,hK,fun q=>⟨hG q,fun d h=>absurd h (Nat.not_lt_zero d)⟩⟩,o⟩ rfl ?_
    clear o Io Er hK hG
    rintro d ⟨more,CC⟩ H hd ⟨⟨Io,Er,hK,hG⟩,o⟩
    replace hG : more=false→Cg f CC a∧nM f CC a d:=hG
    replace Io : Q8 CC≤P0:=Io
    replace Er : more=true→Q8 CC<P0:=Er
    replace hK : LQ f.A4 CC:=hK
    replace o : AA H0 H [(CP,.cells 1 (CC.map iL) 0),(BJ,.cells 7 z7 0)]:=o
    have jG:=hK.row x Rc
    have Me:=hK.len;rw [hn] at jG;refine tt ?_;refine ⟨Rc,BU o (by omega) ?_⟩
    have ecl : (CC.getD x default).length=n:=by omega
    refine tw ecl ?_;apply bk <;> intro h3
    ·have B8:=A7 h3
     have w3:=ws d;refine tt ?_
     refine AD [2,4,5,8,9,10,11] (G:=Bool × List (List Int)) (fun e g=>[(7,some (.bool g.1)),(12,some (.int .i64 (e : Int)))])
      (fun e g H=>(Q8 g.2≤P0∧(g.1=true→Q8 g.2<P0)∧LQ f.A4 g.2∧(g.1=false→Cg f g.2 a∧nM f g.2 a d∧xx f g.2 a d e))∧AA H0 H [(CP,.cells 1 (g.2.map iL) 0),(BJ,.cells 7 z7 0)]) d (more,CC) ⟨⟨Io,Er,hK,fun q=>⟨(hG q).1,(hG q).2,fun e h=>absurd h (Nat.not_lt_zero e)⟩⟩,o⟩ rfl ?_
     clear o Io Er hK hG jG Me ecl
     rintro e ⟨more,CC⟩ H he ⟨⟨Io,Er,hK,hG⟩,o⟩
     replace hG : more=false→Cg f CC a∧nM f CC a d∧xx f CC a d e:=hG
     replace Io : Q8 CC≤P0:=Io
     replace Er : more=true→Q8 CC<P0:=Er
     replace hK : LQ f.A4 CC:=hK
     replace o : AA H0 H [(CP,.cells 1 (CC.map iL) 0),(BJ,.cells 7 z7 0)]:=o
     have jG:=hK.row x Rc
     have hky:=hK.row y hJ
     have Me:=hK.len;rw [hn] at jG;rw [lz] at hky;refine tt ?_;apply bk <;> intro h4
     ·have Cr:=A7 h4
      have w4:=ws e
      have hu:=Px.2 _ (AE.mpr ⟨d,by omega,rfl⟩)
      have hv:=Px.2 _ (AE.mpr ⟨e,by omega,rfl⟩);refine tt ?_;refine ⟨Ah,by omega,Ah,by omega, ?_⟩
      generalize Lx : (f.AU.getD a default).getD d default=u at hu ⊢
      generalize TN : (f.AU.getD a default).getD e default=v at hv ⊢;refine tt ?_;refine ⟨Rc,BU o (by omega) ?_⟩;refine tt ?_;refine ⟨by omega,Rc,BU o (by omega) ?_⟩;refine tt ?_;refine ⟨by omega, ?_⟩;apply bk <;> intro h5
      ·refine tw h5 ?_
       have sN : (CC.getD y default).length=ny:=by omega
       refine ⟨hJ,BU o (by omega) ?_⟩;refine tt ?_;refine ⟨⟨hu.1,by omega⟩,hJ,BU o (by omega) ?_⟩;refine tt ?_;refine ⟨⟨hv.1,by omega⟩, ?_⟩;apply bk <;> intro h6
       ·refine tt ?_
        have Ln:=dd h6
        have Ln : ix (CC.getD y default) u≠ix (CC.getD y default) v:=Ln
        have hul : 0≤u∧u.toNat<(CC.getD y default).length:=⟨hu.1,by omega⟩
        have VZ : 0≤v∧v.toNat<(CC.getD y default).length:=⟨hv.1,by omega⟩
        have tK:=WX hul VZ;rw [sN] at tK
        have hgl:=Ux (n:=ny) (ps:=Fp (CC.getD y default)++[[u,v]]) fun q hq=>⟨(tK q hq).2.1.2,(tK q hq).2.2.2⟩
        have ki:=Ws (by rw [MO,sN]) hul VZ Ln hgl
        have Hk:=hK.set hJ (m:=Ic ny (Fp (CC.getD y default)++[[u,v]])) (by rw [MO,lz]) (fun w hw=>by rw [lz]; exact R6 hw) (OJ _ _)
        have mn:=YF CC y _ (by omega) ki;refine ⟨hJ,hJ,BU o (by omega) ?_⟩;rw [lz];refine tt ?_;refine (Sz B (CC.getD y default) _ _ _ o).own fun sZ A H o hA=>?_;subst hA
        have Kn : (Fp (CC.getD y default)).length=ny:=by rw [Fp,List.length_map,List.length_range,sN]
        refine tt ?_;refine Ad [u,v] o rfl rfl (by simp only [AL]; omega) fun sZ H o=>tt ?_;refine Ks 1 rfl o rfl fun H o=>?_;refine (UW B ny (by omega) (Fp (CC.getD y default)++[[u,v]]) tK).go fun _=>tt ?_;refine ⟨hJ,Bw (f:=iL) (Ic ny (Fp (CC.getD y default)++[[u,v]])) o rfl (by omega) fun H o=>?_⟩;refine tw w4 ?_;exact A5 (true,_) (by omega) ⟨⟨Nat.le_trans (Nat.le_of_lt mn) Io,fun _=>Nat.lt_of_lt_of_le mn Io,Hk,fun h=>absurd h (by simp)⟩,o⟩ rfl
       ·refine tw w4 ?_
        have Ln:=dd h6
        have Hs : lQ f CC a d e:=fun _=>by rw [hy,AH,Lx,TN]; exact Ln
        exact A5 (more,CC) (by omega) ⟨⟨Io,Er,hK,fun q=>⟨(hG q).1,(hG q).2.1,AG (hG q).2.2 Hs⟩⟩,o⟩ rfl
      ·refine t2 h5 w4 ?_
       have Ho:=dd h5
       have Hs : lQ f CC a d e:=fun q=>by rw [hx,AH] at q; exact absurd q Ho
       exact A5 (more,CC) (by omega) ⟨⟨Io,Er,hK,fun q=>⟨(hG q).1,(hG q).2.1,AG (hG q).2.2 Hs⟩⟩,o⟩ rfl
     ·have Cr:=A9 h4
      obtain rfl : e=d:=by omega
      refine tw w3 ?_;exact A5 (more,CC) (by omega) ⟨⟨Io,Er,hK,fun q=>⟨(hG q).1,AG (hG q).2.1 (hG q).2.2⟩⟩,o⟩ rfl
    ·have B8:=A9 h3
     obtain rfl : d=n:=by omega
     refine tw w2 ?_;exact A5 (more,CC) (by omega) ⟨⟨Io,Er,hK,fun q=>AG (hG q).1 (by rw [hlen]; exact (hG q).2)⟩,o⟩ rfl
   ·have Ah:=A9 h2
    obtain rfl : a=f.AU.length:=by omega
    refine tt ?_
    cases more
    ·exact CY (Q8 CC) (false,CC) (by simp at bD; omega) ⟨⟨by simp,hK,hG⟩,o⟩ rfl
    ·have:=Er rfl;exact CY (Q8 CC+1) (true,CC) (by simp at bD; omega) ⟨⟨by simp,hK,fun h=>absurd h (by simp)⟩,o⟩ rfl
  ·clear bD
   have hCg:=hG rfl
   have Me:=hK.len
   have hcx : ∀ x,x<f.A4.length→(CC.getD x default).length≤120:=fun x hx=>by have:=hK.row x hx; have:=Ps x hx; omega
   have ub : ∀ x,x<f.A4.length→(0≤Jd (CC.getD x default)∧Jd (CC.getD x default)≤f.A4.getD x default)∧∀ v,v∈CC.getD x default→v<Jd (CC.getD x default) :=
    fun x hx=>Rv (Ps x hx).1 (hK.QF x hx)
   refine tt ?_;refine Al o Me.symm fun H o=>tt ?_;refine (EX B f.shape).go fun _=>tt ?_;refine nb o fun Ea H o=>tt ?_;refine sw o fun H o=>?_
   let st : AV→AV→AF:=fun x5 x6=>.cells 7 [iI f.shape.AO,iL f.shape.AJ,iL f.shape.to,iL f.shape.Av,BA f.shape.comp,x5,x6] 0
   refine tt ?_;refine AD [2,4,5,15] (G:=AV) (fun k X=>[(16,some (.int .i64 (k : Int)))]) (fun k X H=>CZ iI H0 H ((Ea,st X .A1)::[(BJ,.cells 7 z7 0)]) X ((CC.take k).map Jd)) CC.length .A1 (.inl ⟨rfl,rfl,o⟩) rfl ?_;clear o
   rintro k X H hk hX;refine tt ?_;apply bk <;> intro h1
   ·have AR:=A7 h1
    have w1:=ws k
    obtain ⟨p,o,hp⟩:=hX.split;clear hX
    have fY:=hcx k (by omega)
    have hrk:=hK.QF k (by omega)
    have Yl:=Ps k (by omega);refine tt ?_;refine AD [2,4,5,15,16] (G:=Unit) (fun e _=>[(17,some (.int .i64 (Jd ((CC.getD k default).take e)))),(18,some (.int .i64 (e : Int)))]) (fun e _ H=>AA H0 H (p++((Ea,st X .A1)::[(BJ,.cells 7 z7 0)]))) (CC.getD k default).length () o rfl ?_;clear o
    rintro e _ H he o;refine tt ?_;refine ⟨AR, ?_⟩;apply bk <;> intro h2
    ·have Ah:=A7 h2
     have w2:=ws e
     have hv:=hrk _ (AE.mpr ⟨e,Ah,rfl⟩)
     have w3 : IntKind.i64.wrap ((CC.getD k default).getD e default+1)=(CC.getD k default).getD e default+1:=wrap_i64 (by omega) (by omega)
     have Jm:=TU (CC.getD k default) Ah;refine tt ?_;refine ⟨AR,Ah, ?_⟩;rw [w3,← Jm];refine tw w2 ?_;exact A5 () (by omega) o rfl
    ·have Ah:=A9 h2
     obtain rfl : e=(CC.getD k default).length:=by omega
     rw [List.take_length]
     have hX:=CZ.mk o hp;clear o;refine tt ?_;refine Af hX.obj (by simp [st]) (tt ?_)
     have e7 : (CC.take k).map Jd++[Jd (CC.getD k default)]=(CC.take (k+1)).map Jd:=by rw [take_one CC AR]; simp
     refine hX.app (Jd (CC.getD k default)) rfl (by simp only [List.length_map,List.length_take,AL]; omega) fun Av H o=>?_;rw [e7] at o ⊢;refine tt ?_;refine sw o.swap fun H o=>?_;refine tw w1 ?_;exact A5 _ (by omega) (.inr ⟨Av,rfl,o.swap⟩) rfl
   ·have AR:=A9 h1
    obtain rfl : k=CC.length:=by omega
    rw [List.take_length] at hX
    obtain ⟨p5,o,ui⟩:=hX.split
    have o : AA H0 H ((Ea,st X .A1)::(p5++[(BJ,.cells 7 z7 0)])):=o.perm List.perm_middle;clear hX;refine tt ?_;refine AD [2,4,5,15] (G:=AV × List (List Int)) (fun a Y=>[(19,some (.int .i64 (a : Int)))]) (fun a Y H=>(Y.2.length=a∧∀ i : Nat,i<a→LC f CC i (Y.2.getD i default) (f.AU.getD i default).length)∧CZ iL H0 H ((Ea,st X Y.1)::(p5++[(BJ,.cells 7 z7 0)])) Y.1 Y.2) f.AU.length (.A1,[]) ⟨⟨rfl,fun i h=>absurd h (Nat.not_lt_zero i)⟩,.inl ⟨rfl,rfl,o⟩⟩ rfl ?_;clear o
    rintro a ⟨Y,RR⟩ H ha ⟨⟨lj,mE⟩,hY⟩
    replace mE : ∀ i : Nat,i<a→LC f CC i (RR.getD i default) (f.AU.getD i default).length:=mE
    replace lj : RR.length=a:=lj
    replace hY : CZ iL H0 H ((Ea,st X Y)::(p5++[(BJ,.cells 7 z7 0)])) Y RR:=hY;refine tt ?_;apply bk <;> intro h2
    ·have Ah:=A7 h2
     have w2:=ws a
     have TQ : a<f.shape.AJ.length:=by omega
     have Na:=hc.1.Cn (f:=(a : Int)) (by simpa using TQ)
     have DS:=hc.1.Cb (f:=(a : Int)) (by simpa using TQ)
     have Px:=Lq a TQ;rw [AH] at Na DS
     obtain ⟨x,hx⟩ : ∃ x : Nat,f.shape.AJ.getD a default=x:=⟨_,(Int.toNat_of_nonneg Na.1).symm⟩
     obtain ⟨y,hy⟩ : ∃ y : Nat,f.shape.to.getD a default=y:=⟨_,(Int.toNat_of_nonneg DS.1).symm⟩;rw [hx,hy,AH,AH] at Px;rw [hx] at Na;rw [hy] at DS
     have Rc : x<f.A4.length:=by omega
     have hJ : y<f.A4.length:=by omega
     have vr:=Ps x Rc
     have jG:=hK.row x Rc
     have hky:=hK.row y hJ
     have sX:=ub x Rc;refine tt ?_;refine ⟨TQ,by omega, ?_⟩;rw [hx,hy];refine tt ?_
     obtain ⟨FK,rfl,rfl⟩:=ui.sub (i:=x) (by rw [List.length_map]; omega);refine Af hY.obj (by simp [st]) (tt ?_);refine ⟨by rw [List.length_map]; omega,Bo (f:=iI) (hY.get (x:=(FK,.cells 1 ((CC.map Jd).map iI) 0)) (by simp)) (by rw [List.length_map]; omega) ?_⟩;rw [BB Jd (show x<CC.length by omega)]
     obtain ⟨n,hn⟩ : ∃ n : Nat,Jd (CC.getD x default)=n:=⟨_,(Int.toNat_of_nonneg sX.1.1).symm⟩;rw [hn] at sX ⊢
     obtain ⟨q,o,hq⟩:=hY.split;clear hY;refine tt ?_;refine ⟨⟨by omega,by simp only [AL]; omega⟩,DD iI 0 rfl o fun id22 H o=>?_⟩;refine tt ?_
     have VR : (List.replicate n (0 : Int)).length=n:=List.length_replicate
     refine AD [2,4,5,15,19,20,21,22] (G:=List Int) (fun e _=>[(23,some (.int .i64 (e : Int)))])
      (fun e A H=>(A.length=n∧LC f CC a A e)∧AA H0 H ((id22,.cells 1 (A.map iI) 0)::(q++((Ea,st (.buf FK (CC.map Jd).length) Y)::([(FK,.cells 1 ((CC.map Jd).map iI) 0)]++[(BJ,.cells 7 z7 0)]))))) (CC.getD x default).length (List.replicate n 0) ⟨⟨VR,by rw [hx,AH,hn,VR],fun e h=>absurd h (Nat.not_lt_zero e)⟩,o⟩ rfl ?_
     clear o
     rintro e A H he ⟨⟨hA,Mi⟩,o⟩;refine tt ?_;refine ⟨by omega, ?_⟩;apply bk <;> intro h3
     ·have B8:=A7 h3
      have w3:=ws e
      have Kl:=sX.2 _ (AE.mpr ⟨e,B8,rfl⟩)
      have TH:=hK.QF x Rc _ (AE.mpr ⟨e,B8,rfl⟩)
      have N7:=Px.2 _ (AE.mpr ⟨e,by omega,rfl⟩);refine tt ?_;refine ⟨by omega,B8,by omega,Ah,by omega,⟨N7.1,by omega⟩,⟨TH.1,by omega⟩, ?_⟩
      have Hk:=Mi.set (hCg a Ah) (by omega) (fun e' uk=>by rw [hx,AH]; exact (hK.QF x Rc _ (AE.mpr ⟨e',by omega,rfl⟩)).1) (by rw [hx,AH]; omega);rw [hx,hy,AH,AH] at Hk;refine Bw (f:=iI) _ o rfl (by omega) fun H o=>?_;refine tw w3 ?_;exact A5 (A.set _ _) (by omega) ⟨⟨by rw [List.length_set]; exact hA,Hk⟩,o⟩ rfl
     ·have B8:=A9 h3
      obtain rfl : e=(CC.getD x default).length:=by omega
      have hAe : LC f CC a A (f.AU.getD a default).length:=by rw [show (f.AU.getD a default).length=(CC.getD x default).length by omega]; exact Mi
      refine tt ?_;refine Al o hA.symm fun H o=>?_
      have hY:=CZ.mk o hq;clear o;refine tt ?_;refine Af hY.obj (by simp [st]) (tt ?_);refine hY.app A rfl (by simp only [AL]; omega) fun Av H o=>tt ?_;refine sw o.swap fun H o=>?_;refine tw w2 ?_;exact A5 (.buf Av (RR++[A]).length,RR++[A]) (by omega) ⟨⟨by show (RR++[A]).length=_; simp [lj],ZX (P:=fun i r=>LC f CC i r (f.AU.getD i default).length) lj mE hAe⟩,.inr ⟨Av,rfl,o.swap⟩⟩ rfl
    ·have Ah:=A9 h2
     obtain rfl : a=f.AU.length:=by omega
     refine tt ?_;refine Ec 6 hY rfl fun H o=>?_;have o:=s1 o
     have hX:=CZ.mk (o.perm List.perm_middle.symm) ui;clear o;refine Ec 5 hX rfl fun H o=>AY ?_;have o:=s1 o;refine tt ?_;refine Ac o (by simp) (tt ?_);refine sw o.swap fun H o=>tt ?_
     have hr:=o.rc 7 0 (by simp);simp only [List.drop_zero] at hr;rw [hr];exact Bj ⟨CC,⟨f.shape,CC.map Jd,RR⟩,rfl,hK,rfl,rfl,lj,mE⟩ o.sub
end Go.Proofs.Shf
namespace Go.Shf
open Go.AW
theorem Qt {α : Type} [Inhabited α] (n : Nat) (a : α) {i : Nat} (h : i<n) : (List.replicate n a).getD i default=a:=by
 rw [gE,List.getElem?_replicate,if_pos h]; rfl
section
variable {c : Ay} {n : Nat}
theorem Mq (hc : c.Shape) {x : Int} (hx : 0≤x∧x<c.AO) : ix (D7 c n).A4 x=n:=Qt _ _ (by have:=hc.o; omega)
theorem GF {a : Int} (ha : a.toNat<c.AJ.length) : ix (D7 c n).AU a=(List.range n).map Int.ofNat:=Qt _ _ ha
theorem PC {i : Nat} (hi : i<n) : ((List.range n).map Int.ofNat).getD i default=i:=by rw [BB _ (by simpa using hi)]; simp [gE,hi]
theorem Zx (hc : c.Is) (hn : n≤16) : (D7 c n).Shape where
 is:=hc
 sl:=by have:=hc.1.o; simp only [D7,List.length_replicate]; omega
 al:=by simp [D7]
 sz y hy:=by
  have:=List.eq_of_mem_replicate hy;omega
 act a ha:=by
  have jB : a<c.AJ.length:=by simpa [D7] using ha
  have e1 : (D7 c n).AU.getD a default=(List.range n).map Int.ofNat:=by
   have:=GF (c:=c) (n:=n) (a:=(a : Int)) (by simpa using jB)
   rwa [AH] at this
  have hf:=hc.1.Cn (f:=(a : Int)) (by simpa using jB)
  have ht:=hc.1.Cb (f:=(a : Int)) (by simpa using jB);rw [AH] at hf ht;rw [e1];refine ⟨?_,fun y hy=>?_⟩
  ·rw [show (D7 c n).shape=c from rfl,Mq hc.1 hf]; simp
  ·rw [show (D7 c n).shape=c from rfl,Mq hc.1 ht]
   obtain ⟨i,hi,rfl⟩:=List.mem_map.mp hy;rw [List.mem_range] at hi;simp only [Int.ofNat_eq_natCast]; omega
theorem ZB (hc : c.Is) (hn : n≤16) : (D7 c n).Is:=by
 refine ⟨Zx hc hn,fun x hx e he=>?_,fun a b ha hb HL e he=>?_⟩
 ·have Qk : x<c.Av.length:=hx
  have hi:=hc.1.Av _ (AE.mpr ⟨x,Qk,rfl⟩)
  have e1 : ix (D7 c n).AU ((D7 c n).shape.Av.getD x default)=(List.range n).map Int.ofNat:=GF (by show (c.Av.getD x default).toNat<_; omega);rw [e1] at he ⊢;exact PC (by simpa using he)
 ·have jB : a<c.AJ.length:=ha
  have NA : b<c.AJ.length:=hb
  have hy:=hc.1.yes a b jB NA HL
  have e1 : (D7 c n).AU.getD a default=(List.range n).map Int.ofNat:=by
   have:=GF (c:=c) (n:=n) (a:=(a : Int)) (by simpa using jB)
   rwa [AH] at this
  have e2 : (D7 c n).AU.getD b default=(List.range n).map Int.ofNat:=by
   have:=GF (c:=c) (n:=n) (a:=(b : Int)) (by simpa using NA)
   rwa [AH] at this
  have e3 : ix (D7 c n).AU (((D7 c n).shape.comp.getD a default).getD b default)=(List.range n).map Int.ofNat:=GF (by show ((c.comp.getD a default).getD b default).toNat<_; omega);rw [e1] at he ⊢
  have jJ : e<n:=by simpa using he
  rw [e3,e2,PC jJ,AH,PC jJ]
end
end Go.Shf
namespace Go.Proofs.Shf
open Go.AW Go.Proofs Go.Shf
theorem PJ (B : Nat) : Rd B 297 [] lK:=by
 intro id s H0 H hs o;refine zI.go fun _=>?_;refine tt ?_;refine Ai o fun ER H o=>tt ?_;refine (AZ B 3).go hs o.swap fun r s H _ ⟨v,e,_⟩ hs o=>?_;subst e;refine tt ?_;apply bk <;> intro h1
 focus
  refine tt ?_;refine (Od B 2 6).go hs o fun r s H _ ⟨c,e⟩ hs o=>?_
 rotate_left 1
 focus
  refine tt ?_;refine (Od B 4 12).go hs o fun r s H _ ⟨c,e⟩ hs o=>?_
 all_goals
  subst e;refine tt ?_;refine sw o.swap fun H o=>tt ?_
  have BV:=o.rc 5 0 (by simp);simp only [List.drop_zero] at BV;rw [BV];exact Ax (o7 _ _ _ _ _) hs o.swap
theorem YV {α : Type} (n x : Nat) : (List.replicate n ([] : List α)).getD x default=[]:=by
 rw [gE,List.getElem?_replicate]
 split <;> rfl
theorem LZ.add {sz : List Int} {PP : List (List (List Int))} (h : LZ sz PP) {x : Nat} (hx : x<sz.length) {a b : Int} (ha : 0≤a∧a<sz.getD x default) (hb : 0≤b∧b<sz.getD x default) :
  LZ sz (PP.set x (PP.getD x default++[[a,b]])):=by
 refine ⟨by rw [List.length_set]; exact h.1,fun y hy q hq=>?_⟩;rw [FC _ _ (by rw [h.1]; exact hx)] at hq
 by_cases e : y=x
 ·rw [if_pos e] at hq;subst e
  rcases List.mem_append.mp hq with hq | hq
  ·exact h.2 y hy q hq
  ·rw [List.mem_singleton] at hq;subst hq;exact ⟨by simp,ha,hb⟩
 ·rw [if_neg e] at hq; exact h.2 y hy q hq
def yG (c : Ay) (size : Int) (r : AV) : Prop:=∃ f : SF,r=.agg f.cells∧f.shape=c∧f.AU.length≤40∧(size≤16→f.Is∧∀ y,y∈f.A4→y≤max size 2)
theorem J4 (B : Nat) (c : Ay) (hc : c.Is) (size : Int) (KD : 0≤size∧size≤1000) : Rd B 196 [.agg c.cells,iI size] (yG c size):=by
 intro id s H0 H hs o;refine zF.go fun _=>?_
 have hm:=hc.1.m
 have F3:=hc.1.o;refine tt ?_;refine nb o fun F4 H o=>tt ?_;refine AD [0,2,4,6] (G:=Src) (fun k _=>[(7,some (.int .i64 (k : Int)))]) (fun k s H=>s.Ok∧AA H0 H [(id,s.obj),(F4,.cells 7 z7 0)]) 6 s ⟨hs,o.swap⟩ rfl ?_;clear o hs
 rintro k s H hk ⟨hs,o⟩;refine tt ?_;apply bk <;> intro h1
 ·have AR:=A7 h1
  have w1:=ws k;refine tt ?_;refine Ag iI o fun Ea H o=>tt ?_;refine (AZ B 4).go hs o.swap fun r s H _ ⟨v,e,v0,v1,_⟩ hs o=>?_;subst e
  have hv:=v1 (by omega)
  obtain ⟨n,rfl⟩ : ∃ n : Nat,v=n:=⟨_,(Int.toNat_of_nonneg v0).symm⟩;clear v0 v1;refine tt ?_
  refine Dg [0,2,4,6,7] (G:=Src × (Nat × List Int) × Nat) (fun g=>[(8,some (.buf g.2.1.1 g.2.1.2.length)),(9,some (.int .i64 (g.2.2 : Int)))])
   (fun m g H=>m=g.2.2∧g.1.Ok∧g.2.1.2.length+g.2.2≤3∧AA H0 H [(id,g.1.obj),(g.2.1.1,.cells 1 (g.2.1.2.map iI) 0),(F4,.cells 7 z7 0)]) n (s,(Ea,[]),n) ⟨rfl,hs,by simp; omega,o⟩ rfl ?_
  clear o hs
  rintro m ⟨s,⟨Ea,os⟩,n⟩ H ⟨hmn,hs,rS,o⟩;dsimp only at hmn hs rS o;refine tt ?_;apply bk <;> intro h2
  focus
   refine tw h2 ?_;apply bk <;> intro h3
   focus
    have Ah:=A7 h2
    have w2 : IntKind.i64.wrap ((n : Int) - 1)=((n - 1 : Nat) : Int):=by rw [wrap_i64 (by omega) (by omega)]; omega
    refine tw h3 ?_;refine (AZ B c.AO).go hs o fun r s H _ ⟨v,e,_⟩ hs o=>?_;subst e;refine tt ?_;refine Ad v o.swap rfl rfl (by simp only [AL]; omega) fun Ea H o=>?_;refine tw w2 ?_;exact CY (n - 1) (s,(Ea,os++[v]),n - 1) (by omega) ⟨rfl,hs,by simp; omega,o.swap⟩ rfl
   refine tw h3 ?_
  rotate_left 1
  focus
   refine tw h2 ?_
  all_goals
   refine Al o.swap rfl fun H o=>tt ?_;refine (Tm B c hc os (by omega)).go fun r _ ⟨e,hf⟩=>?_
   obtain ⟨f,hfq⟩ : ∃ f,f=Ey c os:=⟨_,rfl⟩;rw [← hfq] at e hf;subst e;refine tt ?_;refine nb o fun Lv H o=>tt ?_;refine sw o fun H o=>tt ?_;refine ⟨⟨by omega,by simp only [AL]; omega⟩, ?_⟩;rw [JZ];refine Ae o fun G0 H o=>tt ?_;refine (AZ B 4).go hs (o.pull [_,_]) fun r s H _ ⟨v,e,v0,v1,_⟩ hs o=>?_;subst e
   have hv:=v1 (by omega)
   obtain ⟨n,rfl⟩ : ∃ n : Nat,v=n:=⟨_,(Int.toNat_of_nonneg v0).symm⟩;clear v0 v1;refine tt ?_
   have Fg:=hf.sl
   have hzf : ∀ x,x<f.A4.length→0≤f.A4.getD x default∧f.A4.getD x default≤120:=fun x hx=>hf.sz _ (AE.mpr ⟨x,hx,rfl⟩)
   refine Dg [0,2,4,6,7,10,11] (G:=Src × (List AV × List (List (List Int)) × Ob) × Nat) (fun g=>[(12,some (.int .i64 (g.2.2 : Int)))])
    (fun m g H=>m=g.2.2∧g.1.Ok∧Et iL g.2.1.1 g.2.1.2.1 g.2.1.2.2∧LZ f.A4 g.2.1.2.1∧(∀ x,(g.2.1.2.1.getD x default).length+g.2.2≤3) ∧
     AA H0 H ((id,g.1.obj)::(G0,.cells 1 g.2.1.1 0)::(g.2.1.2.2++[(Lv,AF.cells 7 f.cells 0),(F4,AF.cells 7 z7 0)]))) n (s,(List.replicate c.AO.toNat .A1,List.replicate c.AO.toNat [],[]),n)
    ⟨rfl,hs,Et.rep iL _,⟨by rw [List.length_replicate]; omega,fun x hx q hq=>by rw [show (List.replicate c.AO.toNat ([] : List (List Int))).getD x default=[] from YV _ _] at hq; simp at hq⟩,fun x=>by
     rw [show (List.replicate c.AO.toNat ([] : List (List Int))).getD x default=[] from YV _ _]; simp; omega,o⟩ rfl ?_
   clear o hs
   rintro m ⟨s,⟨Xs,PP,ob⟩,n⟩ H ⟨hmn,hs,hR,jy,wP,o⟩;dsimp only at hmn hs hR jy wP o
   have IV:=hR.len
   have hPPl:=jy.1
   have hn3 : n≤3:=by have:=wP 0; omega
   refine tt ?_;apply bk <;> intro k2
   focus
    refine tw k2 ?_;apply bk <;> intro k3
    focus
     have k2p:=A7 k2
     have k3p:=A7 k3
     have w2 : IntKind.i64.wrap ((n : Int) - 1)=((n - 1 : Nat) : Int):=by rw [wrap_i64 (by omega) (by omega)]; omega
     refine tw k3 ?_;refine (AZ B c.AO).go hs o fun r s H _ ⟨x,e,x0,x1,_⟩ hs o=>?_;subst e
     have gW:=x1 (by omega)
     obtain ⟨x,rfl⟩ : ∃ n : Nat,x=n:=⟨_,(Int.toNat_of_nonneg x0).symm⟩;clear x0 x1
     have Rc : x<f.A4.length:=by omega
     have vr:=hzf x Rc
     have iK : H.get Lv=some (.cells 7 f.cells 0):=o.get (Lv,_) (by simp);refine tt ?_;refine Af iK (by simp [SF.cells]) (tt ?_);refine ⟨Rc, ?_⟩;apply bk <;> intro k4
     ·have k4p:=A7 k4;refine tt ?_;refine ⟨by omega,⟨_,_,o.tl.h0⟩,Af o.tl.h0 (by omega) ?_⟩;refine tt ?_;refine ⟨⟨_,_,iK⟩,Af iK (by simp [SF.cells]) ?_⟩;refine tt ?_;refine ⟨Rc,⟨_,_,iK⟩,Af iK (by simp [SF.cells]) ?_⟩;refine tt ?_;refine ⟨Rc, ?_⟩;refine (AZ B _).FT hs o fun r s H _ ⟨a,e,a0,a1,_⟩ hs o hz=>⟨hz, ?_⟩;subst e
      have ha1:=a1 (by omega);refine tt ?_;refine (AZ B _).FT hs o fun r s H _ ⟨b,e,b0,b1,_⟩ hs o hz=>⟨hz, ?_⟩;subst e
      have Rb:=b1 (by omega);refine tt ?_
      have o : AA H0 H ((G0,.cells 1 Xs 0)::(ob++[(id,s.obj),(Lv,.cells 7 f.cells 0),(F4,.cells 7 z7 0)])):=o.pm;refine Ha o hR (by omega) [a,b] rfl (by show (PP.getD _ default).length+1≤AL; have:=wP x; simp only [AL]; omega) fun X' o' H QB hR o=>?_;try simp only [go_sem,↓reduceIte,reduceEqDiff,reduceAdd,reduceMul,reduceLeDiff,reduceLT,AV.cells_one QB]
      refine ⟨by omega,Ap o (by omega) rfl (by simp only [Bi,CR]; exact ⟨QB,trivial⟩) fun H o=>?_⟩;simp only [FI,HE] at o;refine tw w2 ?_;refine CY (n - 1) (s,(Xs.set x X',PP.set x (PP.getD x default++[[a,b]]),o'),n - 1) (by omega) ⟨rfl,hs,hR,jy.add Rc ⟨a0,ha1⟩ ⟨b0,Rb⟩,fun y=>?_,(by simp only [SF.cells] at o; exact o.pm)⟩ rfl
      show ((PP.set x (PP.getD x default++[[a,b]])).getD y default).length+(n - 1)≤3
      rw [FC _ _ (by omega)]
      have:=wP y
      split
      ·rename_i e; subst e; rw [List.length_append,List.length_singleton]; omega
      ·omega
     ·refine tw w2 ?_;exact CY (n - 1) (s,(Xs,PP,ob),n - 1) (by omega) ⟨rfl,hs,hR,jy,fun x=>by have:=wP x; show (PP.getD x default).length+(n - 1)≤3; omega,o⟩ rfl
    refine tw k3 ?_
   rotate_left 1
   focus
    refine tw k2 ?_
   all_goals
    have o : AA H0 H ((G0,.cells 1 Xs 0)::(ob++[(id,s.obj),(Lv,.cells 7 f.cells 0),(F4,.cells 7 z7 0)])):=o.pm;refine Cy hR [] H o fun H o=>AY ?_;rw [List.nil_append] at o
    have o : AA H0 H ((G0,.cells 1 (PP.map BA) 0)::[(id,s.obj),(Lv,.cells 7 f.cells 0),(F4,.cells 7 z7 0)]):=o;refine tt ?_;refine Al (f:=BA) o (by omega) fun H o=>tt ?_;refine Ac o.tl (by simp [SF.cells]) (tt ?_);refine (UQ B f c hc hf PP jy).go fun r VK ⟨CC,f2,e,NW,hQ⟩=>?_;subst e
    have Fc:=AM (VK.agg (c:=iL f2.A4) (by simp [SF.cells]));simp only [AL] at Fc;clear VK;refine tt ?_;refine Ap o.swap (by simp [SF.cells]) (by (try simp only [go_sem]); (try simp)) (by first | (simp only [go_sem]; done) | ((try simp only [go_sem]); simp [AV.one,EP])) fun H o=>?_;have o:=s2 o;refine tt ?_;refine AD [0,2,4,6,7,10] (G:=Bool) (fun k b=>[(14,some (.bool b)),(15,some (.int .i64 (k : Int)))]) (fun k b H=>(b=true→∀ i : Nat,i<k→f2.A4.getD i default≤size)∧AA H0 H [(Lv,AF.cells 7 f2.cells 0),(id,s.obj),(F4,AF.cells 7 z7 0)]) f2.A4.length true ⟨fun _ i h=>absurd h (Nat.not_lt_zero i),o⟩ rfl ?_;clear o
    rintro q sm H hq ⟨Kk,o⟩
    replace o : AA H0 H [(Lv,.cells 7 f2.cells 0),(id,s.obj),(F4,.cells 7 z7 0)]:=o;refine tt ?_;refine AK o (by simp [SF.cells]) (tt ?_);apply bk <;> intro j1
    ·have j1p:=A7 j1
     have w3:=ws q;refine tt ?_
     cases sm
     ·refine tw w3 ?_;exact A5 false (by omega) ⟨fun h=>absurd h (by simp),o⟩ rfl
     ·refine tt ?_;refine AK o (by simp [SF.cells]) (tt ?_);refine ⟨j1p, ?_⟩;refine tw w3 ?_;exact A5 _ (by omega) ⟨fun h=>AG (Kk rfl) (by simpa using h),o⟩ rfl
    ·have j1p:=A9 j1;refine tt ?_
     cases sm
     ·refine tw w1 ?_;exact A5 s (by omega) ⟨hs,o.tl⟩ rfl
     ·refine tt ?_;refine Ac o (by simp [SF.cells]) (tt ?_);refine sw (o.pull [_,_]) fun H o=>tt ?_
      have hr:=o.rc 7 0 (by simp);simp only [List.drop_zero] at hr;rw [hr]
      have hle : ∀ y,y∈f2.A4→y≤size:=fun y hy=>by
       obtain ⟨i,hi,rfl⟩:=AE.mp hy;exact Kk rfl i (by omega)
      have Np:=hQ.al
      have Q5:=hf.al;exact Ax ⟨f2,rfl,hQ.sh.trans hf.sh,by omega,fun h16=>⟨YK.is (os:=os) hc (by rw [← hfq]; exact NW.toClsOk) (fun x hx=>NW.ct x (by rw [← NW.len]; exact hx)) (by rw [← hfq]; exact hQ) fun y hy=>by have:=hle y hy; omega,fun y hy=>by have:=hle y hy; omega⟩⟩ hs (o.pull [_,_])
 ·have AR:=A9 h1;refine tt ?_
  have hw : IntKind.i64.wrap ((if false=true then if 2 > size then 2 else size else if 2<size then 2 else size)+1)=min size 2+1:=by
   rw [if_neg (by decide)]
   split <;> rw [wrap_i64 (by omega) (by omega)] <;> omega
  rw [hw];refine (AZ B _).go hs o fun r s H _ ⟨v,e,v0,v1,_⟩ hs o=>?_;subst e
  have hv:=v1 (by omega);refine tt ?_;refine ⟨_,(Nu B c hc.1 v ⟨v0,by omega⟩).run,tt ?_⟩;refine sw o.swap fun H o=>tt ?_
  have hr:=o.rc 7 0 (by simp);simp only [List.drop_zero] at hr;rw [hr]
  obtain ⟨w,rfl⟩ : ∃ w : Nat,v=w:=⟨_,(Int.toNat_of_nonneg v0).symm⟩
  exact Ax ⟨D7 c w,rfl,rfl,by simp [D7]; omega,fun h16=>⟨ZB hc (by omega),fun y hy=>by
   simp only [D7,List.mem_replicate,List.mem_map] at hy; omega⟩⟩ hs o.swap
theorem W5 (B : Nat) (c : Ay) (hc : c.Is) (size : Int) (KD : 0≤size∧size≤1000) : Rd B 196 [.agg c.cells,iI size] (gi c):=fun id s H0 H hs o=>(J4 B c hc size KD id s H0 H hs o).mono fun r H' ⟨⟨f,e,h1,h2,_⟩,h⟩=>⟨⟨f,e,h1,h2⟩,h⟩
end Go.Proofs.Shf
namespace Go.Shf
open Go.AW
theorem Ay.Shape.sh {c : Ay} (h : c.Shape) : c.Sh 40:=⟨by have:=h.o; omega,h.il,h.m,h.HN,h.cl,h.row⟩
end Go.Shf
namespace Go.Proofs.Shf
open Go.AW Go.Proofs Go.Shf
theorem fD (i : Decidable True) : @decide True i=true:=decide_eq_true trivial
def OFb (f : SF) (p : Ob) (X : AV) : Prop:=∃ z d Xs ob,X=.agg [iI f.shape.AO,iL f.shape.AJ,iL f.shape.to,iL f.shape.Av,BA f.shape.comp,.buf z f.A4.length,.buf d Xs.length]∧Et iI Xs f.AU ob ∧
 p=(z,.cells 1 (f.A4.map iI) 0)::(d,.cells 1 Xs 0)::ob
theorem Wp (B : Nat) (f : SF) : Gk Tryz.prog B 182 [.agg f.cells] (OFb f):=by
 refine ⟨fun H0=>cg.go fun _=>?_⟩
 have o : AA H0 H0 []:=.nil _;refine tt ?_;refine nb o fun id H o=>tt ?_;refine ⟨_,(EX B f.shape).run,tt ?_⟩;refine Gk.go' (FE B f.A4) o fun X1 p1 H ⟨z,e1,e2⟩ o hs=>⟨hs, ?_⟩;subst e1 e2;refine tt ?_;refine Gk.go' (JF B f.AU) o fun X1 p1 H ⟨d,Xs,ob,e1,h,e2⟩ o hs=>⟨hs, ?_⟩;subst e1 e2;refine tt ?_
 have o : AA H0 H ((id,AF.cells 7 [.int .i64 0,.A1,.A1,.A1,.A1,.A1,.A1] 0)::(z,AF.cells 1 (f.A4.map iI) 0)::(d,AF.cells 1 Xs 0)::ob):=o.pm;refine sw o fun H o=>tt ?_
 have hr:=o.rc 7 0 (by simp);simp only [List.drop_zero] at hr;rw [hr];exact ⟨H,.refl H,_,⟨z,d,Xs,ob,rfl,h,rfl⟩,o.tl⟩
theorem bx {F : Env→AB→Prop} {σ : Env} {H0 H : AB} {l : Ob} {id fr : Nat} {c : Ay} {z d : Nat} {S : List Int} {Xs : List AV} {As : List (List Int)} {ob : Ob} (h : Et iI Xs As ob)
  (o : AA H0 H ((id,.cells 7 [iI c.AO,iL c.AJ,iL c.to,iL c.Av,BA c.comp,.buf z S.length,.buf d Xs.length] fr)::(z,.cells 1 (S.map iI) 0)::(d,.cells 1 Xs 0)::(ob++l)))
  (hk : ∀ H',AA H0 H' ((id,.cells 7 (SF.cells ⟨c,S,As⟩) fr)::l)→Gj F σ H') : Gj F σ H:=by
 have hl:=h.len
 have od : AA H0 H ((d,.cells 1 Xs 0)::(ob++((id,.cells 7 [iI c.AO,iL c.AJ,iL c.to,iL c.Av,BA c.comp,.buf z S.length,.buf d Xs.length] fr)::(z,.cells 1 (S.map iI) 0)::l))):=o.pm;refine Cy h [] H od fun H o=>?_;simp only [List.nil_append] at o;rw [hl] at o
 have o : AA H0 H ((id,.cells 7 [iI c.AO,iL c.AJ,iL c.to,iL c.Av,BA c.comp,.buf z S.length,.buf d As.length] fr)::(z,.cells 1 (S.map iI) 0)::(d,.cells 1 (As.map iL) 0)::l):=o.pm;refine B5 5 o rfl rfl fun H o=>?_;have o:=s1 o;refine B5 6 o rfl rfl fun H o=>?_;have o:=s1 o;exact hk H o
@[go_sem] def EA (Ce : Nat) (c : Ay) (z : Nat) (S : List Int) (d : Nat) (Xs : List AV) (l : Ob) : Ob :=
 (Ce,.cells 7 [iI c.AO,iL c.AJ,iL c.to,iL c.Av,BA c.comp,.buf z S.length,.buf d Xs.length] 0)::(z,.cells 1 (S.map iI) 0)::(d,.cells 1 Xs 0)::l
theorem Vv (B : Nat) (f : SF) (hc : f.shape.Shape) (hA40 : f.AU.length≤40) : Rd B 235 [.agg f.cells] AnyF:=by
 intro id s H0 H hs o
 obtain ⟨c,S,A⟩:=f;dsimp only at hA40;refine yW.go fun Gi=>?_
 have Fc:=AM (Gi.2.1.agg (c:=iL S) (by simp [SF.cells]))
 have gC:=AM (Gi.2.1.agg (c:=BA A) (by simp [SF.cells]));simp only [AL] at Fc gC;clear Gi;refine tt ?_;refine nb o fun Ce H o=>tt ?_;refine nb o fun BJ H o=>tt ?_;refine Ac o.tl (by simp) (tt ?_);refine Gk.go' (Wp B ⟨c,S,A⟩) o fun X1 p1 H ⟨z,d,Xs,ob,e1,hX,e2⟩ o _=>?_;subst e1 e2
 have IV:=hX.len;simp only at hX IV;refine tt ?_
 have o : AA H0 H ((Ce,AF.cells 7 [iI c.AO,iL c.AJ,iL c.to,iL c.Av,BA c.comp,iL S,BA A] 0)::(z,.cells 1 (S.map iI) 0)::(d,.cells 1 Xs 0)::(ob++[(id,s.obj),(BJ,AF.cells 7 [.int .i64 0,.A1,.A1,.A1,.A1,.A1,.A1] 0)])):=o.pm;refine sw o fun H o=>tt ?_
 have Ew : ∀ {H : AB} {s : Src} {Xs : List AV} {ob : Ob} {c : Ay} {z d : Nat} {S : List Int},AA H0 H (EA Ce c z S d Xs (ob++[(id,s.obj),(BJ,AF.cells 7 [.int .i64 0,.A1,.A1,.A1,.A1,.A1,.A1] 0)])) →
   AA H0 H ((id,s.obj)::EA Ce c z S d Xs (ob++[(BJ,AF.cells 7 [.int .i64 0,.A1,.A1,.A1,.A1,.A1,.A1] 0)])):=by
  intro H s Xs ob c z d S o;unfold EA at o ⊢;exact o.pm
 have o:=Ew (by unfold EA; exact o);refine (AZ B 5).go hs o fun r s H _ ⟨v,e,v0,v1,_⟩ hs o=>?_;subst e;unfold EA at o;refine tt ?_
 have XT : ∀ {c' : Ay} {z' d' : Nat} {S' : List Int} {Xs' : List AV} {A' : List (List Int)} {ob' : Ob} {F : Env→AB→Prop} {σ : Env} {H : AB} {s : Src},Et iI Xs' A' ob' →
   AA H0 H ((id,s.obj)::EA Ce c' z' S' d' Xs' (ob'++[(BJ,AF.cells 7 [.int .i64 0,.A1,.A1,.A1,.A1,.A1,.A1] 0)])) →
   (∀ H',AA H0 H' ((Ce,.cells 7 (SF.cells ⟨c',S',A'⟩) 0)::[(id,s.obj),(BJ,AF.cells 7 [.int .i64 0,.A1,.A1,.A1,.A1,.A1,.A1] 0)])→F σ H')→Gj F σ H:=by
  intro c' z' d' S' Xs' A' ob' F σ H s hR o hk;unfold EA at o
  have od : AA H0 H ((Ce,.cells 7 [iI c'.AO,iL c'.AJ,iL c'.to,iL c'.Av,BA c'.comp,.buf z' S'.length,.buf d' Xs'.length] 0)::(z',.cells 1 (S'.map iI) 0)::(d',.cells 1 Xs' 0)::(ob'++[(id,s.obj),(BJ,AF.cells 7 [.int .i64 0,.A1,.A1,.A1,.A1,.A1,.A1] 0)])):=o.pm;exact bx hR od fun H o=>AY (hk H o)
 apply bk <;> intro h0
 focus
  refine tt ?_;refine Ac o.tl (by simp) (tt ?_);refine (O0 B 40 (by omega) c (show c.Shape from hc).sh).go hs o fun r s H _ ⟨c2,e⟩ hs o=>?_;subst e;refine tt ?_;refine sw o.swap fun H o=>?_
  have o : AA H0 H ((id,s.obj)::EA Ce c2 z S d Xs (ob++[(BJ,AF.cells 7 [.int .i64 0,.A1,.A1,.A1,.A1,.A1,.A1] 0)])):=by unfold EA; exact o.swap
  refine tt ?_;refine XT hX o fun H o=>?_
 rotate_left 1
 focus
  refine tt ?_;apply bk <;> intro h1
  focus
   refine tt ?_;refine AK o.tl (by simp) (tt ?_);apply bk <;> intro h2
   focus
    have Ah:=A7 h2;refine tt ?_
    have aL:=o.tl.h0;simp only at aL;refine ⟨⟨_,_,aL⟩,Af aL (by simp) ?_⟩;refine tt ?_;refine ⟨⟨_,_,aL⟩,Af aL (by simp) ?_⟩;refine tt ?_;refine (AZ B _).FT hs o fun r s H _ ⟨i,e,i0,i1,_⟩ hs o hz=>⟨hz, ?_⟩;subst e
    have hi:=i1 (by omega);refine tt ?_;refine (Ki B [-1,0,1,2,17] (by simp)).FT hs o fun r s H _ ⟨y,e,_⟩ hs o hz=>⟨hz, ?_⟩;subst e;refine tt ?_;refine ⟨⟨i0,by omega⟩, ?_⟩;refine Bw (f:=iI) y (o.pull [_,_]) rfl (by omega) fun H o=>?_
    have o : AA H0 H ((id,s.obj)::EA Ce c z (S.set i.toNat y) d Xs (ob++[(BJ,AF.cells 7 [.int .i64 0,.A1,.A1,.A1,.A1,.A1,.A1] 0)])):=by unfold EA; rw [List.length_set]; exact o.pm
    refine tt ?_;refine XT hX o fun H o=>?_
   rotate_left 1
   focus
    have o : AA H0 H ((id,s.obj)::EA Ce c z S d Xs (ob++[(BJ,AF.cells 7 [.int .i64 0,.A1,.A1,.A1,.A1,.A1,.A1] 0)])):=by unfold EA; exact o
    refine tt ?_;refine XT hX o fun H o=>?_
  rotate_left 2
  focus
   have Nn:=A9 h0
   have AR:=A9 h1
   have v5:=v1 (by omega)
   have c32 : decide ((3 : Int)=2)=false:=rfl
   have c42 : decide ((4 : Int)=2)=false:=rfl
   have c43 : decide ((4 : Int)=3)=false:=rfl
   obtain rfl | rfl | rfl : v=2∨v=3∨v=4:=by omega
   rotate_left 2
   focus
    try simp only [go_sem,↓reduceIte,reduceEqDiff,reduceAdd,reduceMul,reduceLeDiff,reduceLT,c42,c43,fD]
    refine AK o.tl (by simp) (tt ?_);refine Ae o fun Qj H o=>tt ?_
    have o : AA H0 H ((d,.cells 1 Xs 0)::((Qj,.cells 1 [] 0)::(id,s.obj)::(Ce,.cells 7 [iI c.AO,iL c.AJ,iL c.to,iL c.Av,BA c.comp,.buf z S.length,.buf d Xs.length] 0)::(z,.cells 1 (S.map iI) 0)::(ob++[(BJ,AF.cells 7 [.int .i64 0,.A1,.A1,.A1,.A1,.A1,.A1] 0)]))):=o.pm;refine Nh o rfl rfl rfl (by simp only [AL]; omega) fun d H o=>tt ?_;refine sw (o.pull [_,_,_]) fun H o=>?_
    have Xb:=hX.Y9 (p:=[(Qj,.cells 1 [] 0)]) (X:=.buf Qj 0) (A:=[]) (.inr ⟨Qj,rfl,rfl⟩)
    have o : AA H0 H ((id,s.obj)::EA Ce c z S d (Xs++[.buf Qj 0]) ((ob++[(Qj,.cells 1 [] 0)])++[(BJ,AF.cells 7 [.int .i64 0,.A1,.A1,.A1,.A1,.A1,.A1] 0)])):=by
     unfold EA;rw [List.length_append,List.length_singleton];exact o.pm
    refine tt ?_;refine XT Xb o fun H o=>tt ?_;refine Ac o (by simp [SF.cells]) (tt ?_);refine sw (o.pull [_,_]) fun H o=>tt ?_
    have hr:=o.rc 7 0 (by simp);simp only [List.drop_zero] at hr;rw [hr];exact Ax ⟨⟨_,_,_⟩,rfl⟩ hs (o.pull [_,_])
   all_goals
    try simp only [go_sem,↓reduceIte,reduceEqDiff,reduceAdd,reduceMul,reduceLeDiff,reduceLT,c32,fD]
    refine AK o.tl (by simp) (tt ?_);refine (AZ B _).go hs o fun r s H _ ⟨a,e,a0,a1,a2⟩ hs o=>?_;subst e
    obtain ⟨a,rfl⟩ : ∃ n : Nat,a=n:=⟨_,(Int.toNat_of_nonneg a0).symm⟩;clear a0 a2
    have aL:=o.tl.h0;simp only at aL
    have IY : H.get d=some (.cells 1 Xs 0):=o.get (d,.cells 1 Xs 0) (by simp);refine tt ?_;refine Af aL (by simp) (tt ?_);apply bk <;> intro k1
    focus
     have k1p:=A7 k1
     have ha:=a1 (by omega)
     have hi : a<Xs.length:=by omega
     obtain ⟨pr,rr,_,hLs,_⟩:=hX.split a hi
     have hlr:=hLs.Ee;refine tw k1 ?_;refine Af aL (by simp) (tt ?_);refine ⟨hi,Af IY hi ?_⟩;refine tw hlr ?_;apply bk <;> intro k2
     focus
      have k2p:=A7 k2
      obtain ⟨BQ,er,Hk⟩:=hX.row hi (by omega);refine tw k2 ?_;refine ⟨⟨_,_,aL⟩,Af aL (by simp) ?_⟩;refine tt ?_;refine ⟨hi,⟨_,_,IY⟩,Af IY hi ?_⟩;refine tt ?_;refine ⟨⟨_,_,aL⟩,Af aL (by simp) ?_⟩;refine tt ?_;refine ⟨hi,⟨_,_,IY⟩,Af IY hi ?_⟩;rw [er];refine tt ?_;refine (AZ B _).FT hs o fun r s H _ ⟨i,e,i0,i1,_⟩ hs o hz=>⟨hz, ?_⟩;subst e
      have XX:=i1 (by omega);refine (AZ B _).FT hs o fun r s H _ ⟨y1,e,_⟩ hs o hz=>⟨hz, ?_⟩;subst e;refine (AZ B _).FT hs o fun r s H _ ⟨y2,e,_⟩ hs o hz=>⟨hz, ?_⟩;subst e;refine tt ?_;refine ⟨by omega, ?_⟩
      generalize IntKind.i64.wrap (y1 - _)=y3;refine ⟨⟨i0,by omega⟩, ?_⟩
      have od : AA H0 H ((d,.cells 1 Xs 0)::(ob++[(id,s.obj),(Ce,.cells 7 [iI c.AO,iL c.AJ,iL c.to,iL c.Av,BA c.comp,.buf z S.length,.buf d Xs.length] 0),(z,.cells 1 (S.map iI) 0),(BJ,AF.cells 7 [.int .i64 0,.A1,.A1,.A1,.A1,.A1,.A1] 0)])):=o.pm;refine Hk od i.toNat (by omega) y3 rfl fun H ob' HJ o=>?_
      have o : AA H0 H ((id,s.obj)::EA Ce c z S d Xs (ob'++[(BJ,AF.cells 7 [.int .i64 0,.A1,.A1,.A1,.A1,.A1,.A1] 0)])):=by unfold EA; exact o.pm
      refine tt ?_;refine XT HJ o fun H o=>?_
     rotate_left 1
     focus
      refine tw k2 ?_
      have o : AA H0 H ((id,s.obj)::EA Ce c z S d Xs (ob++[(BJ,AF.cells 7 [.int .i64 0,.A1,.A1,.A1,.A1,.A1,.A1] 0)])):=by unfold EA; exact o
      refine XT hX o fun H o=>?_
    rotate_left 2
    focus
     refine tw k1 ?_
     have o : AA H0 H ((id,s.obj)::EA Ce c z S d Xs (ob++[(BJ,AF.cells 7 [.int .i64 0,.A1,.A1,.A1,.A1,.A1,.A1] 0)])):=by unfold EA; exact o
     refine XT hX o fun H o=>?_
 all_goals
  refine tt ?_;refine Ac o (by simp [SF.cells]) (tt ?_);refine sw (o.pull [_,_]) fun H o=>tt ?_
  have hr:=o.rc 7 0 (by simp);simp only [List.drop_zero] at hr;rw [hr];exact Ax ⟨⟨_,_,_⟩,rfl⟩ hs (o.pull [_,_])
theorem Kb (B : Nat) (c : Ay) (size : Int) (KD : 0≤size∧size≤1000) : Rd B 154 [.agg c.cells,iI size] AnyF:=by
 intro id s H0 H hs o;refine dx.go fun _=>?_;refine tt ?_;refine nb o fun F4 H o=>tt ?_;refine (Iy B c).go fun _=>tt ?_
 by_cases hc : c.Is
 ·rw [Aw hc];refine tt ?_;refine (W5 B c hc size KD).go hs o.swap fun r s H _ ⟨f,e,Ly,Q5⟩ hs o=>?_;subst e;refine tt ?_;refine nb o fun Cq H o=>tt ?_;refine sw o fun H o=>tt ?_;refine (AZ B 40).go hs o.swap fun r s H _ ⟨v,e,_⟩ hs o=>?_;subst e;refine tt ?_;apply bk <;> intro h1
  ·refine tt ?_;refine Ac o.tl (by simp) (tt ?_);refine (Vv B f (by rw [Ly]; exact hc.1) Q5).go hs o fun r s H _ ⟨f2,e⟩ hs o=>?_;subst e;refine tt ?_;refine sw (o.pull [_,_]) fun H o=>tt ?_;refine AY ?_
   have hr:=o.rc 7 0 (by simp);simp only [List.drop_zero] at hr;refine tt ?_;rw [hr];exact Ax ⟨f2,rfl⟩ hs o.swap
  ·refine tt ?_;refine Ac o.tl (by simp) (tt ?_);refine sw (o.pull [_,_]) fun H o=>tt ?_;refine AY ?_
   have hr:=o.rc 7 0 (by simp);simp only [List.drop_zero] at hr;refine tt ?_;rw [hr];exact Ax ⟨f,rfl⟩ hs o.swap
 ·rw [Aa hc];refine tt ?_;refine sw o fun H o=>tt ?_;refine Wj 5 o rfl fun H o=>?_;have o:=s1 o;refine Wj 6 o rfl fun H o=>AY ?_;have o:=s1 o
  have hr:=o.rc 7 0 (by simp);simp only [List.drop_zero] at hr;refine tt ?_;rw [hr];exact Ax ⟨⟨c,[],[]⟩,rfl⟩ hs o.swap
end Go.Proofs.Shf
namespace Go.AW
theorem L5 {P : Program} {B : Nat} {l : List Nat} {a b : SC} {Q : AQ} {σ : Env} {H : AB} (M : Env→AB→Prop) (h1 : FW P B a (au l M Q) σ H) (h2 : ∀ σ' H',M σ' H'→FW P B b Q σ' H') : FW P B (.cut l a b) Q σ H:=⟨M,h1,h2⟩
end Go.AW
namespace Go.Proofs.Shf
open Go.AW Go.Proofs Go.Shf
theorem zz {p : Decidable True} : @decide True p=true:=@decide_eq_true True p trivial
theorem Wt (B : Nat) : Rd B 172 [] yQ:=by
 intro id s H0 H hs o;refine de.go fun _=>?_;refine tt ?_;refine nb o fun ER H o=>tt ?_;refine (AZ B 12).go hs o.swap fun r s H _ ⟨v,e,_⟩ hs o=>?_;subst e;refine tt ?_;apply bk <;> intro g1
 ·refine tt ?_;refine (WR B).go hs o fun r s H _ ⟨j,e⟩ hs o=>?_;subst e;refine tt ?_;refine sw o.swap fun H o=>tt ?_;refine AY ?_
  have BV:=o.rc 6 0 (by simp);simp only [List.drop_zero] at BV;refine tt ?_;rw [BV];refine tt ?_;exact Ax ⟨j,rfl⟩ hs o.swap
 ·refine tt ?_;refine (IE B 3 7).go hs o fun r s H _ ⟨c,e,_⟩ hs o=>?_;subst e;refine tt ?_;refine (Ml B c hs o).mono ?_
  rintro r H ⟨s,C,p,hs,⟨Ep,Xs,ob,rfl,hX,⟨Rb,NA⟩,rfl⟩,o⟩
  have IV:=hX.len;refine tt ?_
  have o : AA H0 H ((ER,AF.cells 6 [.int .i64 0,.A1,.A1,.A1,.A1,.A1] 0)::(id,s.obj)::(Ep,.cells 1 Xs 0)::ob):=o.pm;refine sw o fun H o=>tt ?_
  have od : AA H0 H ((Ep,.cells 1 Xs 0)::(ob++[(ER,Ir c (.buf Ep Xs.length)),(id,s.obj)])):=by
   simp only [Ir];exact o.pm
  refine Cy hX [] H od fun H o=>?_;simp only [List.nil_append] at o
  have o : AA H0 H ((ER,Ir c (.buf Ep Xs.length))::(Ep,.cells 1 (C.map (mL iL)) 0)::[(id,s.obj)]):=o.pm;simp only [Ir] at o;refine B5 (f:=mL iL) 5 o rfl IV fun H o=>AY ?_;have o:=s1 o
  have BV:=o.rc 6 0 (by simp);simp only [List.drop_zero] at BV;refine tt ?_;rw [BV];refine tt ?_;exact Ax ⟨⟨c,C⟩,rfl⟩ hs (o.pull [_])
theorem pD (f : SF) (V : List (List Int)) : ∃ a1 a2 a3 a4 a5 a6 a7 a8,JJ f V=[a1,a2,a3,a4,a5,a6,a7,a8]∧∀ c,c∈[a1,a2,a3,a4,a5,a6,a7,a8]→c.one=true:=by
 unfold JJ
 split
 ·exact ⟨_,_,_,_,_,_,_,_,rfl,by simp only [Bi,CR]; exact ⟨rfl,rfl,rfl,rfl,rfl,rfl,rfl,rfl,trivial⟩⟩
 ·exact ⟨_,_,_,_,_,_,_,_,rfl,by simp only [Bi,CR]; exact ⟨rfl,rfl,rfl,rfl,rfl,rfl,rfl,rfl,trivial⟩⟩
end Go.Proofs.Shf
namespace Go.Shf
open Go.AW
def OH (f g : SF) (p : List (List Int)) (x : Nat) : Prop:=((p.getD x default).length : Int)=f.A4.getD x default∧∀ y,y∈p.getD x default→0≤y∧y<g.A4.getD x default
def JR (f g : SF) (p : List (List Int)) : Prop:=p.length=f.A4.length∧∀ x,x<p.length→OH f g p x
def Qx (f g : SF) (p : List (List Int)) (a e : Nat) : Prop:=ix (ix p (f.shape.to.getD a default)) ((f.AU.getD a default).getD e default)=ix (g.AU.getD a default) ((ix p (f.shape.AJ.getD a default)).getD e default)
def YJ (f g : SF) (p : List (List Int)) : Prop:=∀ a,a<f.AU.length→∀ e : Nat,e<(f.AU.getD a default).length→Qx f g p a e
structure SM.Is (m : SM) : Prop where
 s : m.src.Is
 t : m.CA.Is
 eq : m.src.shape=m.CA.shape
 p : JR m.src m.CA m.parts
 n : YJ m.src m.CA m.parts
structure bV (f g : SF) (p : List (List Int)) : Prop where
 sf : f.Shape
 sg : g.Shape
 eq : f.shape=g.shape
 po : JR f g p
structure SM.Shape (m : SM) : Prop where
 s : m.src.Is
 t : m.CA.Is
 eq : m.src.shape=m.CA.shape
 p : JR m.src m.CA m.parts
theorem SF.Shape.sl' {f g : SF} (hf : f.Shape) (hg : g.Shape) (e : f.shape=g.shape) : g.A4.length=f.A4.length:=by
 have:=hf.sl; have:=hg.sl; rw [← e] at this; omega
theorem SM.Shape.d {m : SM} (h : m.Shape) : bV m.src m.CA m.parts:=⟨h.s.1,h.t.1,h.eq,h.p⟩
theorem SM.XO {m : SM} : m.Is↔m.Shape∧YJ m.src m.CA m.parts:=⟨fun h=>⟨⟨h.s,h.t,h.eq,h.p⟩,h.n⟩,fun ⟨h,n⟩=>⟨h.s,h.t,h.eq,h.p,n⟩⟩
theorem bV.at {f g : SF} {p : List (List Int)} (h : bV f g p) {a e : Nat} (ha : a<f.AU.length) (he : e<(f.AU.getD a default).length) :
  (0≤f.shape.AJ.getD a default∧(f.shape.AJ.getD a default).toNat<p.length)∧(0≤f.shape.to.getD a default∧(f.shape.to.getD a default).toNat<p.length)∧a<g.AU.length ∧
  e<(ix p (f.shape.AJ.getD a default)).length∧(0≤(f.AU.getD a default).getD e default∧((f.AU.getD a default).getD e default).toNat<(ix p (f.shape.to.getD a default)).length) ∧
  (0≤(ix p (f.shape.AJ.getD a default)).getD e default∧((ix p (f.shape.AJ.getD a default)).getD e default).toNat<(g.AU.getD a default).length):=by
 have Np:=h.sf.al
 have Xa:=h.sg.al
 have f1:=h.sf.is.1.QV (f:=a) (by omega)
 have f2:=h.sf.is.1.vJ (f:=a) (by omega)
 have Ya:=h.sf.is.1.il
 have Fg:=h.sf.sl
 have hp:=h.po.1
 have p1:=h.po.2 _ (show (f.shape.AJ.getD a default).toNat<p.length by omega)
 have p2:=h.po.2 _ (show (f.shape.to.getD a default).toNat<p.length by omega)
 have a1:=h.sf.act a ha
 have a2:=h.sg.act a (by rw [Xa,← h.eq]; omega)
 have a3:=a1.2 _ (AE.mpr ⟨e,he,rfl⟩);rw [← h.eq] at a2;simp only [OH] at p1 p2;simp only [ix] at *
 have p3:=p1.2 ((p.getD (f.shape.AJ.getD a default).toNat default).getD e default) (AE.mpr ⟨e,by omega,rfl⟩);refine ⟨⟨f1.1,by omega⟩,⟨f2.1,by omega⟩,by rw [Xa,← h.eq]; omega,by omega,⟨a3.1,by omega⟩,p3.1,by omega⟩
end Go.Shf
namespace Go.Proofs.Shf
open Go.AW Go.Proofs Go.Shf
theorem UK (B : Nat) (f g : SF) (p : List (List Int)) (hg : g.A4.length=f.A4.length) : PB B 201 [.agg f.cells,.agg g.cells,BA p] (.bool (dec (JR f g p))):=by
 refine ⟨fun H0=>xi.go fun ⟨_,_,hp,_⟩=>?_⟩
 have hl:=AM hp;simp only [AL] at hl;refine tt ?_;apply bk <;> intro h0
 ·refine tt ?_
  have Nn:=dd h0;exact A6 (by rw [Aa]; intro h; exact Nn (by rw [h.1])) (.refl _)
 have Nn:=dd h0
 have h0q : p.length=f.A4.length:=by omega
 refine tt ?_;refine AD [2,3,4] (fun k _=>[(7,some (.int .i64 (k : Int)))]) (fun k _ H=>H=H0∧∀ i,i<k→OH f g p i) p.length () ⟨rfl,by simp⟩ rfl ?_
 rintro k _ H hk ⟨rfl,Ak⟩;refine tt ?_;apply bk <;> intro h1
 ·have AR:=dd h1
  have w1:=ws k;refine tt ?_;refine ⟨AR,by omega, ?_⟩;apply bn <;> intro h2
  rotate_left
  ·refine tw h2 ?_
   have Ah:=dd h2;exact A6 (by rw [Aa]; intro h; exact Ah (h.2 k AR).1) (.refl _)
  ·refine tw h2 ?_
   have Ah:=dd h2;refine ⟨by omega,AR,_,(Hd B (p.getD k default) (g.A4.getD k default)).run,tt ?_⟩;apply bk <;> intro h3
   ·refine tt ?_
    have B8:=dd h3;exact A6 (by rw [Aa]; intro h; exact B8 (h.2 k AR).2) (.refl _)
   ·refine tw w1 ?_
    have B8:=dd h3;exact A5 () (by omega) ⟨rfl,AG Ak ⟨Ah,B8⟩⟩ rfl
 ·refine tt ?_
  have AR:=dd h1;exact A6 (by rw [Aw]; exact ⟨h0q,fun x hx=>Ak x (by omega)⟩) (.refl _)
theorem lU (B : Nat) (m : SM) (hg : m.CA.A4.length=m.src.A4.length) (hz : ∀ y,y∈m.CA.A4→0≤y∧y<17) : PB B 260 [.ptr m.cells] (.bool (dec (JR m.src m.CA m.parts))):=by
 refine ⟨fun H0=>zp.go fun ⟨hp,_⟩=>?_⟩
 have hl:=AM (hp.ptr (c:=BA m.parts) (by simp [SM.cells]));simp only [AL] at hl;refine tt ?_;apply bk <;> intro h0
 ·refine tt ?_
  have Nn:=dd h0;exact A6 (by rw [Aa]; intro h; exact Nn (by rw [h.1])) (.refl _)
 have Nn:=dd h0
 have h0q : m.parts.length=m.src.A4.length:=by omega
 refine tt ?_;refine AD [0,20,21] (fun k _=>[(22,some (.int .i64 (k : Int)))]) (fun k _ H=>H=H0∧∀ i,i<k→OH m.src m.CA m.parts i) m.parts.length () ⟨rfl,by simp⟩ rfl ?_
 rintro k _ H hk ⟨rfl,Ak⟩;refine tt ?_;apply bk <;> intro h1
 ·have AR:=dd h1
  have w1:=ws k;refine tt ?_
  have Yl:=hz _ (AE.mpr ⟨k,by omega,rfl⟩);refine ⟨AR,by omega,by omega,_,(Oz B (m.parts.getD k default) (m.src.A4.getD k default) (m.CA.A4.getD k default) (by omega)).run,tt ?_⟩;apply bk <;> intro h3
  ·refine tt ?_
   have B8:=dd h3;exact A6 (by rw [Aa]; intro h; exact B8 (h.2 k AR)) (.refl _)
  ·refine tw w1 ?_
   have B8:=dd h3;exact A5 () (by omega) ⟨rfl,AG Ak B8⟩ rfl
 ·refine tt ?_
  have AR:=dd h1;exact A6 (by rw [Aw]; exact ⟨h0q,fun x hx=>Ak x (by omega)⟩) (.refl _)
def rB (P : Prop) (H0 : AB) : Am:=fun r H'=>H'=H0∧∃ a e : Int,r=.CG [.int .i64 a,.int .i64 e]∧(a<0↔P)
theorem Ni {P : Prop} {H0 H : AB} {a e : Int} (h : a<0↔P) (hs : H0.sub H) : Ik (rB P H0) (.CG [.int .i64 a,.int .i64 e]) H:=⟨H0,hs,rfl,a,e,rfl,h⟩
theorem NT (B : Nat) (f g : SF) (p : List (List Int)) (h : bV f g p) (H0 : AB) : CB B 202 [.agg f.cells,.agg g.cells,BA p] H0 (rB (YJ f g p) H0):=by
 refine c202.go fun ⟨_,_,hp,_⟩=>?_
 have hl:=AM hp;simp only [AL] at hl
 have hm:=h.sf.is.1.m
 have Np:=h.sf.al
 have IQ:=h.sf.is.1.HN;refine tt ?_;refine AD [2,3,4] (fun k _=>[(8,some (.int .i64 (k : Int)))]) (fun k _ H=>H=H0∧∀ a,a<k→∀ e : Nat,e<(f.AU.getD a default).length→Qx f g p a e) f.AU.length () ⟨rfl,by simp⟩ rfl ?_
 rintro a _ H ha ⟨rfl,Ak⟩;refine tt ?_;apply bk <;> intro h1
 ·have AR:=dd h1
  have w1:=ws a
  have f1:=h.sf.is.1.QV (f:=a) (by omega)
  have Ya:=h.sf.is.1.il
  have Fg:=h.sf.sl
  have a1:=(h.sf.act a AR).1
  have hz:=h.sf.sz _ (Bh (l:=f.A4) (i:=f.shape.AJ.getD a default) (by omega));refine tt ?_;refine ⟨by omega,by omega, ?_⟩;refine AD [2,3,4,8,9,10] (fun k _=>[(11,some (.int .i64 (k : Int)))]) (fun k _ H'=>H'=H∧∀ e : Nat,e<k→Qx f g p a e) (f.AU.getD a default).length () ⟨rfl,by simp⟩ rfl ?_
  rintro e _ H he ⟨rfl,Dd⟩;refine tt ?_;refine ⟨by omega, ?_⟩;apply bk <;> intro h2
  ·have Ah:=dd h2
   have w2:=ws e
   have Hs:=h.at (a:=a) (e:=e) AR (by omega);refine tt ?_;refine ⟨by omega,by omega,by omega,by omega,by omega,by omega,by omega,by omega, ?_⟩;apply bk <;> intro h3
   ·refine tt ?_
    have B8:=dd h3;exact Ni ⟨fun e=>by omega,fun hn=>absurd (hn a AR e (by omega)) B8⟩ (.refl _)
   ·refine tw w2 ?_
    have B8:=dd h3;exact A5 () (by omega) ⟨rfl,AG Dd B8⟩ rfl
  ·refine tw w1 ?_
   have Ah:=dd h2;exact A5 () (by omega) ⟨rfl,AG Ak fun e he=>Dd e (by omega)⟩ rfl
 ·refine tt ?_
  have AR:=dd h1;exact Ni ⟨fun _ a ha e he=>Ak a (by omega) e he,fun _=>by omega⟩ (.refl _)
theorem Sy (B : Nat) (m : SM) (h : bV m.src m.CA m.parts) (H0 : AB) : CB B 194 [.ptr m.cells] H0 (rB (YJ m.src m.CA m.parts) H0):=by
 refine xy.go fun ⟨hp,_⟩=>?_
 have hl:=AM (hp.ptr (c:=BA m.parts) (by simp [SM.cells]));simp only [AL] at hl
 have hm:=h.sf.is.1.m
 have Np:=h.sf.al
 have IQ:=h.sf.is.1.HN;refine tt ?_;refine AD [0,4,16] (fun k _=>[(17,some (.int .i64 (k : Int)))]) (fun k _ H=>H=H0∧∀ a,a<k→∀ e : Nat,e<(m.src.AU.getD a default).length→Qx m.src m.CA m.parts a e) m.src.AU.length () ⟨rfl,by simp⟩ rfl ?_
 rintro a _ H ha ⟨rfl,Ak⟩;refine tt ?_;apply bk <;> intro h1
 ·have AR:=dd h1
  have w1:=ws a
  have a1:=(h.sf.act a (by omega)).1
  have f1:=h.sf.is.1.QV (f:=a) (by omega)
  have Ya:=h.sf.is.1.il
  have Fg:=h.sf.sl
  have hz:=h.sf.sz _ (Bh (l:=m.src.A4) (i:=m.src.shape.AJ.getD a default) (by omega));refine tt ?_;refine ⟨by omega, ?_⟩;refine AD [0,4,5,16,17,27,28] (fun k _=>[(29,some (.int .i64 (k : Int)))]) (fun k _ H'=>H'=H∧∀ e : Nat,e<k→Qx m.src m.CA m.parts a e) (m.src.AU.getD a default).length () ⟨rfl,by simp⟩ rfl ?_
  rintro e _ H he ⟨rfl,Dd⟩;refine tt ?_;apply bk <;> intro h2
  ·have Ah:=dd h2
   have w2:=ws e
   have Hs:=h.at (a:=a) (e:=e) (by omega) (by omega);refine tt ?_;refine ⟨by omega, ?_⟩;refine ⟨by omega,by omega,by omega,by omega,by omega,by omega,by omega,by omega, ?_⟩;apply bk <;> intro h3
   ·refine tt ?_
    have B8:=dd h3;exact Ni ⟨fun e=>by omega,fun hn=>absurd (hn a (by omega) e (by omega)) B8⟩ (.refl _)
   ·refine tw w2 ?_
    have B8:=dd h3;exact A5 () (by omega) ⟨rfl,AG Dd B8⟩ rfl
  ·refine tw w1 ?_
   have Ah:=dd h2;exact A5 () (by omega) ⟨rfl,AG Ak fun e he=>Dd e (by omega)⟩ rfl
 ·refine tt ?_
  have AR:=dd h1;exact Ni ⟨fun _ a ha e he=>Ak a (by omega) e he,fun _=>by omega⟩ (.refl _)
theorem Jz (B : Nat) (f g : SF) : PB B 200 [.agg f.cells,.agg g.cells] (.bool (dec (f.Is∧g.Is∧f.shape=g.shape))):=by
 refine ⟨fun H0=>c200.go fun _=>tt ?_⟩;refine (PY B f).go fun _=>?_
 by_cases hf : f.Is
 ·rw [Aw hf];refine tt ?_;refine (PY B g).go fun _=>?_
  by_cases hg : g.Is
  ·rw [Aw hg];refine tt ?_;refine (Ny B f.shape g.shape).go fun _=>tt ?_;exact A6 (by congr 1; exact BX ⟨fun h=>⟨hf,hg,h⟩,fun h=>h.2.2⟩) (.refl _)
  ·rw [Aa hg];refine tt ?_;exact A6 (by rw [Aa]; exact fun h=>hg h.2.1) (.refl _)
 ·rw [Aa hf];refine tt ?_;exact A6 (by rw [Aa]; exact fun h=>hf h.1) (.refl _)
theorem U6 (B : Nat) (m : SM) : PB B 193 [.ptr m.cells] (.bool (dec m.Shape)):=by
 refine ⟨fun H0=>c193.go fun _=>tt ?_⟩;refine ⟨_,(Eg B [m.src,m.CA]).run, ?_⟩
 by_cases hf : m.src.Is∧m.CA.Is
 ·rw [Aw (by simpa using hf)];refine tt ?_;refine ⟨_,(EG B m.src.shape m.CA.shape).run, ?_⟩
  by_cases he : m.src.shape=m.CA.shape
  ·rw [Aw he];refine tt ?_;refine ⟨_,(lU B m (hf.1.1.sl' hf.2.1 he) hf.2.1.sz).run,tt ?_⟩;exact A6 (by congr 1; exact BX ⟨fun h=>⟨hf.1,hf.2,he,h⟩,fun h=>h.p⟩) (.refl _)
  ·rw [Aa he];refine tt ?_;exact A6 (by rw [Aa]; exact fun h=>he h.eq) (.refl _)
 ·rw [Aa (by simpa using hf)];refine tt ?_;exact A6 (by rw [Aa]; exact fun h=>hf ⟨h.s,h.t⟩) (.refl _)
theorem IJ (B : Nat) (m : SM) : PB B 110 [.ptr m.cells] (.bool (dec m.Is)):=by
 refine ⟨fun H0=>zC.go fun _=>tt ?_⟩;refine (U6 B m).go fun _=>?_
 by_cases h : m.Shape
 ·rw [Aw h];refine tn ?_
  refine (Sy B m h.d H0).Iu ?_
  rintro _ _ _ ⟨rfl,a,e,rfl,hk⟩;refine tt ?_;exact A6 (by rw [BK]; congr 1; exact BX ⟨fun q=>SM.XO.mpr ⟨h,hk.mp q⟩,fun q=>hk.mpr q.n⟩) (.refl _)
 ·rw [Aa h];refine tn ?_
  exact A6 (by rw [Aa]; exact fun q=>h (SM.XO.mp q).1) (.refl _)
theorem Ur (B : Nat) (m : SM) : PB B 115 [.agg m.cells] (.bool (dec m.Is)):=by
 refine ⟨fun H0=>xp.go fun _=>tt ?_⟩;refine (Jz B m.src m.CA).go fun _=>?_
 by_cases hf : m.src.Is∧m.CA.Is∧m.src.shape=m.CA.shape
 ·rw [Aw hf]
  obtain ⟨h1,h2,he⟩:=hf;refine tn ?_
  refine (UK B m.src m.CA m.parts (h1.1.sl' h2.1 he)).go fun _=>?_
  by_cases h : JR m.src m.CA m.parts
  ·rw [Aw h]
   have hs : m.Shape:=⟨h1,h2,he,h⟩;refine tn ?_
   refine (NT B m.src m.CA m.parts hs.d H0).Iu ?_
   rintro _ _ _ ⟨rfl,a,e,rfl,hk⟩;refine tt ?_;exact A6 (by rw [BK]; congr 1; exact BX ⟨fun q=>SM.XO.mpr ⟨hs,hk.mp q⟩,fun q=>hk.mpr q.n⟩) (.refl _)
  ·rw [Aa h];refine tn ?_
   exact A6 (by rw [Aa]; exact fun q=>h q.p) (.refl _)
 ·rw [Aa hf];refine tn ?_
  exact A6 (by rw [Aa]; exact fun q=>hf ⟨q.s,q.t,q.eq⟩) (.refl _)
end Go.Proofs.Shf
