/- A part of a proof. -/
import Derived.Test.YthflgdphhajkbaaGreatF7
set_option linter.unusedVariables false
set_option linter.unusedSimpArgs false
set_option linter.unusedSectionVars false
open Nat (reduceEqDiff reduceAdd reduceMul reduceLeDiff reduceLT)
namespace Go.Proofs.Shf
open Go.AW Go.Proofs Go.Shf
def TopS (id : Nat) (c : B0) (H0 : AA) (l : Ob) : Ap:=fun r H'=>∃ (s' : Src) (C : List (List (List Int))) (p : Ob),s'.Ok∧xW c C p r∧AB H0 H' ((id,s'.obj)::(p++l))
theorem Mn (B : Nat) (c : B0) {id : Nat} {s : Src} {H0 H : AA} {l : Ob} (hs : s.Ok) (o : AB H0 H ((id,s.obj)::l)) : CB B 252 [.ref id 0,.agg c.cells] H (TopS id c H0 l):=by
 refine wK.go fun _=>?_;refine tt ?_;refine nb o fun BN H o=>tt ?_;refine (ND B c H).mono ?_
 rintro r H' (⟨cod,hcod,rfl,rfl⟩ | ⟨⟨hc,hf⟩,KE,ms,rfl,hM,o2⟩)
 ·refine ⟨trivial,tt ?_⟩;refine nb o fun CS H o=>tt ?_;refine sw o fun H o=>tt ?_;rw [decide_eq_false hcod];refine tt ?_;refine Af o fun Ex H o=>tt ?_;refine sw (o.pull [_,_]) fun H o=>tt ?_
  have BZ:=o.rc 6 0 (by simp);simp only [List.drop_zero] at BZ;rw [BZ];refine tt ?_;refine ⟨H,.refl _,s,[],[(Ex,.cells 1 [] 0)],hs,⟨Ex,[],[],rfl,.nil,⟨by simp,by simp⟩,rfl⟩, ?_⟩
  have o : AB H0 H ((BN,AF.cells 6 [iI c.AR,iL c.AH,iL c.to,iL c.Aw,BD c.comp,.buf Ex 0] 0)::(CS,AF.cells 8 [.int .i64 0,.A1,.A1,.A1,.A1,.A1,.A1,.A1] 0)::(id,s.obj)::([(Ex,.cells 1 [] 0)]++l)):=o.pm;exact o.tl.tl
 ·refine ⟨trivial, ?_⟩
  have o:=o.trans o2
  have ht:=HT hc hf;refine tt ?_;refine nb o fun CS H o=>tt ?_;refine sw o fun H o=>?_
  have dT : ∀ i : Decidable True,@decide True i=true:=fun i=>decide_eq_true trivial;refine tw dT ?_
  obtain ⟨n,hn⟩ : ∃ n,ms.length=n:=⟨_,rfl⟩;rw [hn]
  have z6 : ∃ z : AF,z=AF.cells 6 [.int .i64 0,.A1,.A1,.A1,.A1,.A1] 0:=⟨_,rfl⟩
  have o : AB H0 H ((id,s.obj)::(KE,.cells 1 (ms.map CQ) 0)::(inner AV.bool ms++([(CS,AF.cells 8 (BE c (AM c)) 0),(BN,AF.cells 6 [.int .i64 0,.A1,.A1,.A1,.A1,.A1] 0)]++l))):=by
   simp only [BE] at o ⊢;exact o.pm
  refine (AY B 3).go hs o fun r s H _ ⟨v,e,K9,CJ,_⟩ hs o=>?_;subst e
  obtain ⟨v,rfl⟩:=Int.eq_ofNat_of_zero_le K9
  have CJ:=CJ (by omega);refine tt ?_
  refine De [0,4,5,6] (G:=Nat × Src × List (Nat × List Bool)) (fun g=>[(8,some (.int .i64 (g.1 : Int)))])
   (fun m g H=>(m=g.1∧g.1<3∧g.2.1.Ok)∧(g.2.2.length=n∧DV (AM c) (g.2.2.map Prod.snd))∧AB H0 H ((id,g.2.1.obj)::(KE,.cells 1 (g.2.2.map CQ) 0)::(inner AV.bool g.2.2++([(CS,AF.cells 8 (BE c (AM c)) 0),(BN,AF.cells 6 [.int .i64 0,.A1,.A1,.A1,.A1,.A1] 0)]++l)))) v (v,s,ms) ⟨⟨rfl,by simp only; omega,hs⟩,⟨hn,hM⟩,o⟩ rfl ?_
  clear o hs hM hn K9 CJ
  rintro m ⟨v,s,ms⟩ H ⟨⟨hm,iq,hs⟩,⟨hn,hM⟩,o⟩;dsimp only at hm;subst hm;dsimp only at iq hs hn hM o
  have jc:=hM.len;rw [List.length_map] at jc;refine tt ?_;refine ⟨fun h1=>At.mk ?_,fun h1=>At.mk ?_⟩
  case' refine_1 =>
   have AU:=A7 h1;refine tw h1 ?_;refine ⟨fun h2=>At.mk ?_,fun h2=>At.mk ?_⟩
   case' refine_1 =>
    have Ah:=A7 h2;refine tt ?_;refine (AY B n).go hs o fun r s H _ ⟨x,e,hx0,gK,_⟩ hs o=>?_;subst e
    have gK:=gK (by omega)
    obtain ⟨x,rfl⟩:=Int.eq_ofNat_of_zero_le hx0
    have hxm : x<ms.length:=by omega
    have Gl:=(ht.top (x:=x) (by omega)).1
    have Lu:=hM.row x (by omega);rw [B8 _ hxm] at Lu
    have wp : IntKind.i64.wrap ((m : Int) - 1)=((m - 1 : Nat) : Int):=K2 (by omega) (by omega);refine tt ?_;refine ⟨by omega,⟨_,_,o.tl.h0⟩,AN o.tl (by simp; omega) ?_⟩;rw [getD_map ms (by omega)];refine tt ?_;refine ⟨by omega,⟨_,_,o.tl.h0⟩,AN o.tl (by simp; omega) ?_⟩;rw [getD_map ms (by omega)];refine tt ?_;refine (AY B ((ms.getD x default).2.length)).FU hs o fun r s H _ ⟨v,e,K9,CJ,_⟩ hs o hz=>⟨hz, ?_⟩;subst e
    have CJ:=CJ (by omega);refine tt ?_;refine ⟨by omega, ?_⟩
    have o : AB H0 H ((KE,AF.cells 1 (ms.map CQ) 0)::(inner AV.bool ms++((id,s.obj)::([(CS,AF.cells 8 (BE c (AM c)) 0),(BN,AF.cells 6 [.int .i64 0,.A1,.A1,.A1,.A1,.A1] 0)]++l)))):=o.pm;refine HW o (by omega) (by omega) true rfl fun H o=>?_
    have hM:=Ua hM x v.toNat hxm true;refine tw wp ?_;exact CY (m - 1) (m - 1,s,ms.set x ((ms.getD x default).1,(ms.getD x default).2.set v.toNat true)) (by omega) ⟨⟨rfl,by show m - 1<3; omega,hs⟩,⟨by simp [hn],hM⟩,by simp only [BE] at o ⊢; exact o.pm⟩ rfl
  all_goals
   try (try simp only [go_sem,↓reduceIte,reduceEqDiff,reduceAdd,reduceMul,reduceLeDiff,reduceLT,h1])
   try (try simp only [go_sem,↓reduceIte,reduceEqDiff,reduceAdd,reduceMul,reduceLeDiff,reduceLT])
   clear h1;refine SK (o.get (CS,AF.cells 8 (BE c (AM c)) 0) (by simp)) (by simp [BE]) ?_;refine tt ?_
   have Fq:=QA B c (AM c) ht ms hM KE H0 H ((id,s.obj)::([(CS,AF.cells 8 (BE c (AM c)) 0),(BN,AF.cells 6 [.int .i64 0,.A1,.A1,.A1,.A1,.A1] 0)]++l)) (o.pm);rw [hn] at Fq;refine Fq.mono ?_;clear Fq o hM hn jc
   rintro r H ⟨rfl,ms,hn,hM,o⟩;refine tt ?_;refine SB (f:=AV.bool) ms [] H o fun H o=>?_;simp only [List.nil_append] at o;refine Xb (f:=mL AV.bool) (A:=ms.map Prod.snd) 6 (.inr ⟨KE,by rw [List.length_map,hn],o⟩) rfl fun H o=>AX ?_;refine tt ?_;refine SK (o.get (CS,AF.cells 8 (BE c (AM c)) 0) (by simp)) (by simp [BE]) ?_;refine tt ?_;refine IX.go' (Q5 B c hc (AM c) ht (ms.map Prod.snd) hM) o fun X p H ⟨C,Ex,Xs,ob,e1,hX,Ss,e2⟩ o _=>?_;subst e1 e2;refine tt ?_
   have o : AB H0 H ((BN,AF.cells 6 [.int .i64 0,.A1,.A1,.A1,.A1,.A1] 0)::(CS,AF.cells 8 (BE c (AM c)) 0)::(id,s.obj)::(((Ex,.cells 1 Xs 0)::ob)++l)):=o.pm;refine sw o fun H o=>tt ?_
   have BZ:=o.rc 6 0 (by simp);simp only [List.drop_zero] at BZ;rw [BZ];refine tt ?_;exact ⟨H,.refl _,s,C,(Ex,.cells 1 Xs 0)::ob,hs,⟨Ex,Xs,ob,rfl,hX,Ss,rfl⟩,o.tl.tl⟩
def zN (r : AV) : Prop:=∃ j : Df,r=.agg j.cells
theorem Vq (B : Nat) : Rd B 251 [] zN:=by
 intro id s H0 H hs o;refine eo.go fun _=>?_;refine tt ?_;refine nb o fun ES H o=>tt ?_;refine (VU B).go hs o.swap fun r s H _ ⟨c,e,_⟩ hs o=>?_;subst e;refine tt ?_;refine (Mn B c hs o).mono ?_
 rintro r H ⟨s,C,p,hs,⟨Ex,Xs,ob,rfl,hX,⟨jt,Zz⟩,rfl⟩,o⟩
 have JN:=hX.len;refine tt ?_;refine nb o fun Ch H o=>tt ?_;refine sw o fun H o=>tt ?_
 have o : AB H0 H ((id,s.obj)::(Ch,Ip c (.buf Ex Xs.length))::(Ex,.cells 1 Xs 0)::(ob++[(ES,AF.cells 6 [.int .i64 0,.A1,.A1,.A1,.A1,.A1] 0)])):=by
  simp only [Ip];exact o.pm
 refine (AY B 24).go hs o fun r s H _ ⟨v,e,_⟩ hs o=>?_;subst e;refine tt ?_;apply bk <;> intro g0
 ·refine tt ?_;refine AN o.tl (by simp) (tt ?_);apply bk <;> intro g3
  ·have Di:=A7 g3;refine tw g3 ?_;refine AN o.tl (by simp) (tt ?_);refine ⟨by omega,AN o.tl.tl (by omega) ?_⟩
   obtain ⟨X0,Xs,rfl⟩ : ∃ a r,Xs=a::r:=by
    cases Xs with
    | nil=>simp at Di
    | cons a r=>exact ⟨a,r,rfl⟩
   obtain ⟨A0,C0,pX,oC,rfl,rfl,hp,hR⟩ : ∃ A0 C0 pX oC,C=A0::C0∧ob=pX++oC∧Q6 iL pX X0 A0∧Ez iL Xs C0 oC:=by
    cases hX with
    | cons hp hR=>exact ⟨_,_,_,_,rfl,rfl,hp,hR⟩
   have hlA:=hp.FF
   have hX : Ez iL (X0::Xs) (A0::C0) (pX++oC):=.cons hp hR;rw [show (X0::Xs).getD (Int.toNat 0) nv=X0 from rfl];refine tw hlA ?_
   have NV:=hX.len
   have od : AB H0 H ((Ex,.cells 1 (X0::Xs) 0)::((pX++oC)++[(Ch,Ip c (.buf Ex (X0::Xs).length)),(id,s.obj),(ES,AF.cells 6 [.int .i64 0,.A1,.A1,.A1,.A1,.A1] 0)])):=o.pm;refine Cy hX [] H od fun H o=>?_;simp only [List.nil_append] at o
   have o : AB H0 H ((Ch,Ip c (.buf Ex (X0::Xs).length))::(Ex,.cells 1 ((A0::C0).map (mL iL)) 0)::[(id,s.obj),(ES,AF.cells 6 [.int .i64 0,.A1,.A1,.A1,.A1,.A1] 0)]):=o.pm;refine AX ?_;refine tt ?_;apply bk <;> intro g4
   ·have Fp:=A7 g4;refine tt ?_;refine AN o (by simp) (tt ?_);refine AN o (by simp) (tt ?_);refine ⟨by simp,BX o.tl (by simp) ?_⟩;rw [show (A0::C0).getD (Int.toNat 0) default=A0 from rfl];refine tt ?_;refine ⟨by omega,by simp, ?_⟩;refine C4 (A0.drop (Int.toNat 1)) o.swap rfl (by simp) fun H o=>?_
    have o:=o.swap
    have NV : (X0::Xs).length=((A0::C0).set (Int.toNat 0) (A0.drop (Int.toNat 1))).length:=by rw [List.length_set]; exact NV
    refine tt ?_;simp only [Ip] at o;refine B7 (f:=mL iL) 5 o rfl NV fun H o=>AX ?_;have o:=s1 o;refine tt ?_;refine AZ o (by simp) (tt ?_);refine sw (o.pull [_,_]) fun H o=>tt ?_
    have BZ:=o.rc 6 0 (by simp);simp only [List.drop_zero] at BZ;rw [BZ];refine tt ?_;exact Az ⟨⟨c,(A0::C0).set (Int.toNat 0) (A0.drop (Int.toNat 1))⟩,rfl⟩ hs (o.pull [_,_])
   ·refine tt ?_;simp only [Ip] at o;refine B7 (f:=mL iL) 5 o rfl NV fun H o=>AX ?_;have o:=s1 o;refine tt ?_;refine AZ o (by simp) (tt ?_);refine sw (o.pull [_,_]) fun H o=>tt ?_
    have BZ:=o.rc 6 0 (by simp);simp only [List.drop_zero] at BZ;rw [BZ];refine tt ?_;exact Az ⟨⟨c,A0::C0⟩,rfl⟩ hs (o.pull [_,_])
  ·refine tw g3 ?_;refine AX ?_;refine tt ?_
   have NV:=hX.len
   have od : AB H0 H ((Ex,.cells 1 (Xs) 0)::((ob)++[(Ch,Ip c (.buf Ex (Xs).length)),(id,s.obj),(ES,AF.cells 6 [.int .i64 0,.A1,.A1,.A1,.A1,.A1] 0)])):=o.pm;refine Cy hX [] H od fun H o=>?_;simp only [List.nil_append] at o
   have o : AB H0 H ((Ch,Ip c (.buf Ex (Xs).length))::(Ex,.cells 1 ((C).map (mL iL)) 0)::[(id,s.obj),(ES,AF.cells 6 [.int .i64 0,.A1,.A1,.A1,.A1,.A1] 0)]):=o.pm;simp only [Ip] at o;refine B7 (f:=mL iL) 5 o rfl NV fun H o=>AX ?_;have o:=s1 o;refine tt ?_;refine AZ o (by simp) (tt ?_);refine sw (o.pull [_,_]) fun H o=>tt ?_
   have BZ:=o.rc 6 0 (by simp);simp only [List.drop_zero] at BZ;rw [BZ];refine tt ?_;exact Az ⟨⟨c,C⟩,rfl⟩ hs (o.pull [_,_])
 ·refine tt ?_;apply bk <;> intro g1
  ·refine tt ?_;refine AN o.tl (by simp) (tt ?_);refine Af o fun BW H o=>tt ?_
   have o : AB H0 H ((Ex,.cells 1 Xs 0)::((BW,.cells 1 [] 0)::(id,s.obj)::(Ch,Ip c (.buf Ex Xs.length))::(ob++[(ES,AF.cells 6 [.int .i64 0,.A1,.A1,.A1,.A1,.A1] 0)]))):=o.pm;refine Na o rfl rfl rfl (by simp only [AK]; omega) fun iQ H o=>tt ?_
   have o : AB H0 H ((Ch,Ip c (.buf Ex Xs.length))::(iQ,.cells 1 (Xs++[AV.buf BW 0]) 0)::((BW,.cells 1 [] 0)::(id,s.obj)::(ob++[(ES,AF.cells 6 [.int .i64 0,.A1,.A1,.A1,.A1,.A1] 0)]))):=o.pm;refine sw o fun H o=>tt ?_
   have hX:=hX.XX (X:=.buf BW 0) (A:=[]) (p:=[(BW,.cells 1 [] 0)]) (.inr ⟨BW,rfl,rfl⟩)
   have hXs : Xs.length+1=(Xs++[AV.buf BW 0]).length:=by simp
   rw [hXs] at o
   have o : AB H0 H ((Ch,Ip c (.buf iQ (Xs++[AV.buf BW 0]).length))::(iQ,.cells 1 (Xs++[AV.buf BW 0]) 0)::((BW,.cells 1 [] 0)::(id,s.obj)::(ob++[(ES,AF.cells 6 [.int .i64 0,.A1,.A1,.A1,.A1,.A1] 0)]))):=o
   have NV:=hX.len
   have od : AB H0 H ((iQ,.cells 1 (Xs++[AV.buf BW 0]) 0)::((ob++[(BW,.cells 1 [] 0)])++[(Ch,Ip c (.buf iQ (Xs++[AV.buf BW 0]).length)),(id,s.obj),(ES,AF.cells 6 [.int .i64 0,.A1,.A1,.A1,.A1,.A1] 0)])):=o.pm;refine Cy hX [] H od fun H o=>?_;simp only [List.nil_append] at o
   have o : AB H0 H ((Ch,Ip c (.buf iQ (Xs++[AV.buf BW 0]).length))::(iQ,.cells 1 ((C++[[]]).map (mL iL)) 0)::[(id,s.obj),(ES,AF.cells 6 [.int .i64 0,.A1,.A1,.A1,.A1,.A1] 0)]):=o.pm;simp only [Ip] at o;refine B7 (f:=mL iL) 5 o rfl NV fun H o=>AX ?_;have o:=s1 o;refine tt ?_;refine AZ o (by simp) (tt ?_);refine sw (o.pull [_,_]) fun H o=>tt ?_
   have BZ:=o.rc 6 0 (by simp);simp only [List.drop_zero] at BZ;rw [BZ];refine tt ?_;exact Az ⟨⟨c,C++[[]]⟩,rfl⟩ hs (o.pull [_,_])
  ·refine tt ?_;apply bk <;> intro g2
   ·refine tt ?_;refine AN o.tl (by simp) (tt ?_);apply bk <;> intro g3
    ·have Di:=A7 g3
     have vG:=Zz (C.getD 0 []) (AE.mpr ⟨0,by omega,rfl⟩);refine tt ?_;refine ⟨⟨_,_,o.tl.h0⟩,AN o.tl (by simp) ?_⟩;refine tt ?_;refine ⟨⟨_,_,o.tl.h0⟩,AN o.tl (by simp) ?_⟩;refine tt ?_;refine ⟨by omega,⟨_,_,o.tl.tl.h0⟩,AN o.tl.tl (by omega) ?_⟩;refine tt ?_;refine (RW B 3).FU hs o fun r s H _ ⟨v,e⟩ hs o hz=>⟨hz, ?_⟩;subst e;refine tt ?_
     have o : AB H0 H ((Ex,.cells 1 Xs 0)::(ob++[(id,s.obj),(Ch,Ip c (.buf Ex Xs.length)),(ES,AF.cells 6 [.int .i64 0,.A1,.A1,.A1,.A1,.A1] 0)])):=o.pm;refine HP (i:=0) o hX (by omega) [v] rfl (by simp only [AK]; omega) fun X' ob' H T7 Jw o=>?_;try simp only [go_sem,↓reduceIte,reduceEqDiff,reduceAdd,reduceMul,reduceLeDiff,reduceLT,AV.cells_one T7]
     refine ⟨by omega,Aq o (by omega) (by (try simp only [go_sem]); (try simp)) (by simp [T7]) fun H o=>?_⟩
     have hw : wr Xs (Int.toNat 0) [X']=Xs.set 0 X':=rfl;rw [hw,show Xs.length=(Xs.set 0 X').length by simp] at o
     replace hX:=Jw;refine tt ?_
     have NV:=hX.len
     have od : AB H0 H ((Ex,.cells 1 (Xs.set 0 X') 0)::((ob')++[(Ch,Ip c (.buf Ex (Xs.set 0 X').length)),(id,s.obj),(ES,AF.cells 6 [.int .i64 0,.A1,.A1,.A1,.A1,.A1] 0)])):=o.pm;refine Cy hX [] H od fun H o=>?_;simp only [List.nil_append] at o
     have o : AB H0 H ((Ch,Ip c (.buf Ex (Xs.set 0 X').length))::(Ex,.cells 1 ((C.set 0 (C.getD 0 []++[[v]])).map (mL iL)) 0)::[(id,s.obj),(ES,AF.cells 6 [.int .i64 0,.A1,.A1,.A1,.A1,.A1] 0)]):=o.pm;simp only [Ip] at o;refine B7 (f:=mL iL) 5 o rfl NV fun H o=>AX ?_;have o:=s1 o;refine tt ?_;refine AZ o (by simp) (tt ?_);refine sw (o.pull [_,_]) fun H o=>tt ?_
     have BZ:=o.rc 6 0 (by simp);simp only [List.drop_zero] at BZ;rw [BZ];refine tt ?_;exact Az ⟨⟨c,C.set 0 (C.getD 0 []++[[v]])⟩,rfl⟩ hs (o.pull [_,_])
    ·refine tt ?_
     have NV:=hX.len
     have od : AB H0 H ((Ex,.cells 1 (Xs) 0)::((ob)++[(Ch,Ip c (.buf Ex (Xs).length)),(id,s.obj),(ES,AF.cells 6 [.int .i64 0,.A1,.A1,.A1,.A1,.A1] 0)])):=o.pm;refine Cy hX [] H od fun H o=>?_;simp only [List.nil_append] at o
     have o : AB H0 H ((Ch,Ip c (.buf Ex (Xs).length))::(Ex,.cells 1 ((C).map (mL iL)) 0)::[(id,s.obj),(ES,AF.cells 6 [.int .i64 0,.A1,.A1,.A1,.A1,.A1] 0)]):=o.pm;simp only [Ip] at o;refine B7 (f:=mL iL) 5 o rfl NV fun H o=>AX ?_;have o:=s1 o;refine tt ?_;refine AZ o (by simp) (tt ?_);refine sw (o.pull [_,_]) fun H o=>tt ?_
     have BZ:=o.rc 6 0 (by simp);simp only [List.drop_zero] at BZ;rw [BZ];refine tt ?_;exact Az ⟨⟨c,C⟩,rfl⟩ hs (o.pull [_,_])
   ·refine tt ?_
    have NV:=hX.len
    have od : AB H0 H ((Ex,.cells 1 (Xs) 0)::((ob)++[(Ch,Ip c (.buf Ex (Xs).length)),(id,s.obj),(ES,AF.cells 6 [.int .i64 0,.A1,.A1,.A1,.A1,.A1] 0)])):=o.pm;refine Cy hX [] H od fun H o=>?_;simp only [List.nil_append] at o
    have o : AB H0 H ((Ch,Ip c (.buf Ex (Xs).length))::(Ex,.cells 1 ((C).map (mL iL)) 0)::[(id,s.obj),(ES,AF.cells 6 [.int .i64 0,.A1,.A1,.A1,.A1,.A1] 0)]):=o.pm;simp only [Ip] at o;refine B7 (f:=mL iL) 5 o rfl NV fun H o=>AX ?_;have o:=s1 o;refine tt ?_;refine AZ o (by simp) (tt ?_);refine sw (o.pull [_,_]) fun H o=>tt ?_
    have BZ:=o.rc 6 0 (by simp);simp only [List.drop_zero] at BZ;rw [BZ];refine tt ?_;exact Az ⟨⟨c,C⟩,rfl⟩ hs (o.pull [_,_])
theorem PJ (A : List Int) (i : Nat) : A.set i (A.getD i default)=A:=by
 apply List.ext_getElem?
 intro j
 by_cases e : i=j
 ·subst e
  by_cases h : i<A.length
  ·simp [gE,h]
  ·rw [List.getElem?_eq_none (by simp; omega),List.getElem?_eq_none (by omega)]
 ·rw [List.getElem?_set_ne e]
theorem W7 (B : Nat) (l : List Int) (hl : l.length≤100000) : PB B 279 [iL l] (iL (En l)):=by
 refine ⟨fun H0=>nA.go fun _=>?_⟩
 have o : AB H0 H0 []:=.nil _;refine tt ?_;refine Ae iI o fun Ch H o=>tt ?_;refine Ae iI o fun BN H o=>tt ?_
 refine AD [0] (G:=(Nat × List Int) × (Nat × List Int)) (fun k g=>[(3,some (.buf g.1.1 g.1.2.length)),(4,some (.buf g.2.1 g.2.2.length)),(5,some (.int .i64 (k : Int)))])
  (fun k g H=>(g.1.2=En (l.take k)∧g.2.2=EC (l.take k))∧AB H0 H [(g.2.1,.cells 1 (g.2.2.map iI) 0),(g.1.1,.cells 1 (g.1.2.map iI) 0)]) l.length ((Ch,[]),(BN,[])) ⟨⟨rfl,rfl⟩,o⟩ rfl ?_
 clear o
 rintro k ⟨⟨Ch,out⟩,⟨BN,seen⟩⟩ H hk ⟨⟨Av,gI⟩,o⟩;dsimp only at o Av gI
 have V8 : out.length=k:=by rw [Av,P6,List.length_take]; omega
 have Gd : seen.length≤k:=by rw [gI]; exact Nat.le_trans (M3 _ _ rfl) (by rw [List.length_take]; omega)
 refine tt ?_;apply bk <;> intro h1
 ·refine tt ?_
  have AU:=dd h1
  have w1:=ws k
  have XJ:=GJ (l.take k) (l.getD k default)
  have V5:=Uv (l.take k) (l.getD k default);rw [← take_one l AU,← gI] at XJ;rw [← take_one l AU,← Av] at V5;refine ⟨AU,MO 0 rfl o rfl (.int _ _) (FQ ..).run ?_⟩
  have hb:=Hp seen (l.getD k default)
  have hm:=FW seen (l.getD k default);refine tt ?_;apply bk <;> intro h2
  ·refine tt ?_
   have Ah:=dd h2
   have qS : l.getD k default ∉ seen:=fun h=>by have:=hm.mpr h; omega
   rw [if_neg qS] at XJ;rw [XJ,SI qS] at V5;refine ⟨AU, ?_⟩;refine Ac (l.getD k default) o rfl rfl (by simp only [AK]; omega) fun BN H o=>tt ?_;refine Ac ((seen.length : Nat) : Int) o.swap rfl rfl (by simp only [AK]; omega) fun Ch H o=>?_;refine tw w1 ?_;exact A5 ((_,_),(_,_)) (by omega) ⟨⟨V5.symm,XJ.symm⟩,o.swap⟩ rfl
  ·refine tt ?_
   have Ah:=dd h2
   have hi : l.getD k default∈seen:=hm.mp (by omega);rw [if_pos hi] at XJ;rw [XJ] at V5;refine Ac (indexOf seen (l.getD k default)) o.swap rfl rfl (by simp only [AK]; omega) fun Ch H o=>?_;refine tw w1 ?_;exact A5 ((_,_),(_,_)) (by omega) ⟨⟨V5.symm,XJ.symm⟩,o.swap⟩ rfl
 ·refine tt ?_
  have AU:=dd h1
  obtain rfl : k=l.length:=by omega
  refine Ak o.swap rfl fun H o=>tt ?_;exact A6 (by rw [Av,List.take_length]) o.sub
theorem Tu (B : Nat) (n : Nat) (hn : n≤100000) (ps : List (List Int)) (hp : ∀ q,q∈ps→2≤q.length∧(0≤q.getD 0 default∧(q.getD 0 default).toNat<n)∧(0≤q.getD 1 default∧(q.getD 1 default).toNat<n)) :
  PB B 229 [iI n,BD ps] (iL (IQ n ps)):=by
 refine ⟨fun H0=>mR.go fun ⟨_,hf,_⟩=>?_⟩
 have hl:=AL hf;simp only [AK] at hl
 have o : AB H0 H0 []:=.nil _;refine tt ?_;refine Ae iI o fun id H o=>tt ?_;refine AD [0,1] (G:=Nat × List Int) (fun k g=>[(5,some (.buf g.1 g.2.length)),(6,some (.int .i64 (k : Int)))]) (fun k g H=>g.2=(List.range k).map Int.ofNat∧AB H0 H [(g.1,.cells 1 (g.2.map iI) 0)]) n (id,[]) ⟨rfl,o⟩ rfl ?_;clear o
 rintro k ⟨id,A⟩ H hk ⟨hA,o⟩;dsimp only at hA o
 have Lt : A.length=k:=by rw [hA]; simp
 refine tt ?_;apply bk <;> intro h1
 ·refine tt ?_
  have AU:=dd h1
  have w1:=ws k;refine Ac (k : Int) o rfl rfl (by simp only [AK]; omega) fun id H o=>?_;refine tw w1 ?_;exact A5 (_,_) (by omega) ⟨by rw [hA,List.range_succ]; simp,o⟩ rfl
 ·refine tt ?_
  have AU:=dd h1
  obtain rfl : k=n:=by omega
  refine AD [1,5] (fun q _=>[(7,some (.int .i64 (q : Int)))]) (fun q A H=>A=L7 k (ps.take q)∧AB H0 H [(id,.cells 1 (A.map iI) 0)]) ps.length A ⟨hA,o⟩ rfl ?_;clear o
  rintro q A2 H hq ⟨YN,o⟩
  have Ia : A2.length=k:=by rw [YN,LM]
  refine tt ?_;apply bk <;> intro h2
  ·refine tt ?_
   have Ah:=dd h2
   have w2:=ws q
   have qW:=hp _ (AE.mpr ⟨q,Ah,rfl⟩)
   have e0 : ix (ps.getD q default) 0=(ps.getD q default).getD 0 default:=rfl
   have e1 : ix (ps.getD q default) 1=(ps.getD q default).getD 1 default:=rfl
   have D1:=Yq k ps Ah;rw [← YN,e0,e1] at D1;refine ⟨Ah,⟨by omega,Nat.lt_of_lt_of_le (by decide) qW.1⟩,⟨by rw [e0]; omega,by rw [e0]; omega⟩,BX o (by rw [e0]; omega) ?_⟩;refine tt ?_;refine ⟨Ah,⟨by omega,Nat.lt_of_lt_of_le (by decide) qW.1⟩,⟨by rw [e1]; omega,by rw [e1]; omega⟩,BX o (by rw [e1]; omega) ?_⟩;refine tt ?_;rw [e0,e1]
   have ea : A2.getD ((ps.getD q default).getD 0 default).toNat default=ix A2 ((ps.getD q default).getD 0 default):=rfl
   have eb : A2.getD ((ps.getD q default).getD 1 default).toNat default=ix A2 ((ps.getD q default).getD 1 default):=rfl;rw [ea,eb]
   generalize ix A2 ((ps.getD q default).getD 0 default)=va at D1 ⊢
   generalize ix A2 ((ps.getD q default).getD 1 default)=vb at D1 ⊢;refine AD [1,5,7,8,9] (fun i _=>[(10,some (.int .i64 (i : Int)))]) (fun i A H=>A=DW A2 va vb i∧AB H0 H [(id,.cells 1 (A.map iI) 0)]) k A2 ⟨(Ry _ _ _).symm,o⟩ rfl ?_;clear o
   rintro i A3 H hi ⟨lU,o⟩
   have hl3 : A3.length=k:=by rw [lU,TJ _ _ _ (by omega)]; exact Ia
   rw [Lt];refine tt ?_;apply bk <;> intro h3
   ·refine tw h3 ?_
    have BB:=dd h3
    have w3:=ws i
    have hg:=Tw A2 va vb (i:=i) (by omega)
    have hs:=Sc A2 va vb (i:=i) (by omega);rw [← lU] at hg hs;apply bk <;> intro h4
    ·refine tt ?_
     have DC:=dd h4;refine ⟨BB,BX o (by omega) ?_⟩;refine tt ?_;apply bk <;> intro h5
     ·refine tt ?_
      have Hj:=dd h5;refine ⟨BB,C4 _ o rfl (by omega) fun H o=>?_⟩;refine tw w3 ?_;exact A5 _ (by omega) ⟨by rw [hs,if_pos (by rw [← hg]; exact Hj)],o⟩ rfl
     ·refine tw w3 ?_
      have Hj:=dd h5;refine A5 A3 (by omega) ⟨?_,o⟩ rfl;rw [hs,if_neg (by rw [← hg]; exact Hj),← hg,PJ]
    ·refine tw w2 ?_
     have DC:=dd h4;refine A5 A3 (by omega) ⟨?_,o⟩ rfl;subst DC
     have : ∀ i,DW A2 va va i=A2:=fun i=>by rw [DW,Pc,List.take_append_drop]
     rw [lU,this,D1,Pc]
   ·refine t2 h3 w2 ?_
    have BB:=dd h3;refine A5 A3 (by omega) ⟨?_,o⟩ rfl
    have sx : i=A2.length:=by omega
    rw [lU,sx,UE,D1]
  ·refine tt ?_
   have Ah:=dd h2
   obtain rfl : q=ps.length:=by omega
   rw [List.take_length] at YN;rw [Lt];refine Ak o Ia.symm fun H o=>tt ?_;refine (W7 B A2 (by omega)).go fun _=>tt ?_;exact A6 (by rw [IQ,YN]) o.sub
theorem Si (B : Nat) (p : List Int) (H0 H : AA) (l : List (Nat × AF)) (o : AB H0 H l) : CB B 298 [iL p] H (P9 iL H0 l (·=Fx p)):=by
 refine yI.go fun ⟨hf,_⟩=>?_
 have hl:=AL hf;simp only [AK] at hl;refine tt ?_;refine Ae iL o fun id H o=>tt ?_
 refine AD [0] (G:=Nat × List (List Int)) (fun k g=>[(3,some (.buf g.1 g.2.length)),(4,some (.int .i64 (k : Int)))])
  (fun k g H=>g.2=(List.range k).map (fun i : Nat=>[indexOf p (p.getD i default),(i : Int)])∧AB H0 H ((g.1,.cells 1 (g.2.map iL) 0)::l)) p.length (id,[]) ⟨rfl,o⟩ rfl ?_
 clear o
 rintro k ⟨id,out⟩ H hk ⟨Av,o⟩;dsimp only at Av o
 have V8 : out.length=k:=by rw [Av]; simp
 refine tt ?_;apply bk <;> intro h1
 ·refine tt ?_
  have AU:=dd h1
  have w1:=ws k;refine ⟨AU,(FQ ..).go fun _=>?_⟩;refine tt ?_;refine Ac [indexOf p (p.getD k default),(k : Int)] o rfl rfl (by simp only [AK]; omega) fun id H o=>?_;refine tw w1 ?_;exact A5 (_,_) (by omega) ⟨by rw [Av,List.range_succ]; simp,o⟩ rfl
 ·refine tt ?_
  have AU:=dd h1
  obtain rfl : k=p.length:=by omega
  exact H5 o rfl (by rw [Av]; rfl)
end Go.Proofs.Shf
namespace Go.Shf
open Go.AW
def D7 (c : B0) (n : Int) : SF:=⟨c,List.replicate c.AR.toNat n,List.replicate c.AH.length ((List.range n.toNat).map Int.ofNat)⟩
theorem OP {α : Type} (k : Nat) (a : α) : List.replicate (k+1) a=List.replicate k a++[a]:=List.replicate_succ'
end Go.Shf
namespace Go.Proofs.Shf
open Go.AW Go.Proofs Go.Shf
abbrev z7 : List AV:=[.int .i64 0,.A1,.A1,.A1,.A1,.A1,.A1]
theorem Rj (B : Nat) (c : B0) (Fh : 0≤c.AR∧c.AR≤4096) (hm : c.AH.length≤4096) (n : Int) (hn : 0≤n∧n≤100) : PB B 265 [.agg c.cells,iI n] (.agg (D7 c n).cells):=by
 refine ⟨fun H0=>yA.go fun Gc=>?_⟩
 have o : AB H0 H0 []:=.nil _;refine tt ?_;refine nb o fun BN H o=>tt ?_;refine (EX B c).go fun _=>tt ?_;refine nb o fun CS H o=>tt ?_;refine sw o fun H o=>?_
 let st : AV→AV→AF:=fun x5 x6=>.cells 7 [iI c.AR,iL c.AH,iL c.to,iL c.Aw,BD c.comp,x5,x6] 0
 refine tt ?_;refine AD [1,2,4,5] (G:=AV) (fun k X=>[(6,some (.int .i64 (k : Int)))]) (fun k X H=>Cb iI H0 H ((CS,st X .A1)::[(BN,.cells 7 z7 0)]) X (List.replicate k n)) c.AR.toNat .A1 (.inl ⟨rfl,rfl,o⟩) rfl ?_;clear o
 rintro k X H hk hX;refine tt ?_;apply bk <;> intro h1
 ·have AU:=A7 h1
  have w:=ws k;refine tt ?_;refine Al hX.obj (by simp [st]) (tt ?_);refine hX.app n rfl (by simp only [List.length_replicate,AK]; omega) fun Aw H o=>?_;rw [← OP] at o ⊢;refine tt ?_;refine sw o.swap fun H o=>?_;refine tw w ?_;exact A5 _ (by omega) (.inr ⟨Aw,rfl,o.swap⟩) rfl
 ·have AU:=A9 h1
  obtain rfl : k=c.AR.toNat:=by omega
  obtain ⟨p5,o,h5⟩:=hX.split
  have o : AB H0 H ((CS,st X .A1)::(p5++[(BN,.cells 7 z7 0)])):=o.perm List.perm_middle;clear hX;refine tt ?_;refine AD [1,2,4,5] (G:=AV) (fun a Y=>[(7,some (.int .i64 (a : Int)))]) (fun a Y H=>Cb iL H0 H ((CS,st X Y)::(p5++[(BN,.cells 7 z7 0)])) Y (List.replicate a ((List.range n.toNat).map Int.ofNat))) c.AH.length .A1 (.inl ⟨rfl,rfl,o⟩) rfl ?_;clear o
  rintro a Y H ha hY
  replace hY : Cb iL H0 H ((CS,st X Y)::(p5++[(BN,.cells 7 z7 0)])) Y (List.replicate a ((List.range n.toNat).map Int.ofNat)):=hY;refine tt ?_;apply bk <;> intro h2
  ·have Ah:=A7 h2
   have w2:=ws a
   obtain ⟨q,o,hq⟩:=hY.split;clear hY;refine tt ?_;refine Ae iI o fun Ec H o=>tt ?_
   refine AD [1,2,4,5,7] (G:=Nat × List Int) (fun e g=>[(8,some (.buf g.1 g.2.length)),(9,some (.int .i64 (e : Int)))])
    (fun e g H=>g.2=(List.range e).map Int.ofNat∧AB H0 H ((g.1,.cells 1 (g.2.map iI) 0)::(q++((CS,st X Y)::(p5++[(BN,.cells 7 z7 0)]))))) n.toNat (Ec,[]) ⟨rfl,o⟩ rfl ?_
   clear o
   rintro e ⟨Ec,row⟩ H he ⟨B4,o⟩;dsimp only at B4 o
   have Lu : row.length=e:=by rw [B4]; simp
   refine tt ?_;apply bk <;> intro h3
   ·have BB:=A7 h3
    have w3:=ws e;refine tt ?_;refine Ac (e : Int) o rfl rfl (by simp only [AK]; omega) fun Ec H o=>?_;refine tw w3 ?_;exact A5 (_,_) (by omega) ⟨by rw [B4,List.range_succ]; simp,o⟩ rfl
   ·have BB:=A9 h3
    obtain rfl : e=n.toNat:=by omega
    refine tt ?_;refine Ak o rfl fun H o=>?_
    have hY:=Cb.mk o hq;clear o;refine tt ?_;refine Al hY.obj (by simp [st]) (tt ?_);refine hY.app row rfl (by simp only [List.length_replicate,AK]; omega) fun Aw H o=>?_;rw [B4,← OP] at o ⊢;refine tt ?_;refine sw o.swap fun H o=>?_;refine tw w2 ?_;exact A5 _ (by omega) (.inr ⟨Aw,rfl,o.swap⟩) rfl
  ·have Ah:=A9 h2
   obtain rfl : a=c.AH.length:=by omega
   refine tt ?_;refine Ef 6 hY rfl fun H o=>?_;have o:=s1 o
   have hX:=Cb.mk (o.perm List.perm_middle.symm) h5;clear o;refine Ef 5 hX rfl fun H o=>AX ?_;have o:=s1 o;refine tt ?_;refine AZ o (by simp) (tt ?_);refine sw o.swap fun H o=>tt ?_
   have hr:=o.rc 7 0 (by simp);simp only [List.drop_zero] at hr;rw [hr];exact A6 rfl o.sub
theorem Oj (B : Nat) (c : B0) (hc : c.Shape) (n : Int) (hn : 0≤n∧n≤100) : PB B 265 [.agg c.cells,iI n] (.agg (D7 c n).cells) :=
 Rj B c (by have:=hc.o; omega) (by have:=hc.m; omega) n hn
def eu (c : B0) (os : List Int) (r : AV) : Prop:=r=.agg (F7 c os).cells∧(F7 c os).Pre c 120
theorem Td (B : Nat) (c : B0) (hc : c.Is) (os : List Int) (rM : os.length≤3) : LH B 263 [.agg c.cells,iL os] (eu c os):=by
 intro H0;refine cm.go fun _=>?_
 have hm:=hc.1.m
 have Fh:=hc.1.o
 have Hg:=hc.1.He
 have o : AB H0 H0 []:=.nil _;refine tt ?_;refine nb o fun BN H o=>tt ?_;refine ⟨⟨by omega,by simp only [AK]; omega⟩, ?_⟩;rw [Jl];refine Af o fun FM H o=>tt ?_
 refine AD [1,2,4,5] (G:=List AV × List (List (List Int)) × List (Nat × AF)) (fun k _=>[(6,some (.int .i64 (k : Int)))])
  (fun k g H=>AB H0 H ((FM,.cells 1 g.1 0)::(g.2.2++[(BN,.cells 7 z7 0)]))∧Ez iL g.1 g.2.1 g.2.2∧GQ c os k 0 g.2.1) os.length (List.replicate c.AR.toNat .A1,List.replicate c.AR.toNat [],[]) ⟨o,Ez.rep iL _,.zero Fh.1⟩ rfl ?_
 clear o
 rintro k ⟨Xs,LL,ob⟩ H hk ⟨o,hR,hI⟩;dsimp only at o hR hI;refine tt ?_;apply bk <;> intro h1
 ·have AU:=A7 h1
  have w1:=ws k;refine tt ?_
  refine AD [1,2,4,5,6] (G:=List AV × List (List (List Int)) × List (Nat × AF)) (fun h _=>[(7,some (.int .i64 (h : Int)))])
   (fun h g H=>AB H0 H ((FM,.cells 1 g.1 0)::(g.2.2++[(BN,.cells 7 z7 0)]))∧Ez iL g.1 g.2.1 g.2.2∧GQ c os k h g.2.1) c.AH.length (Xs,LL,ob) ⟨o,hR,hI⟩ rfl ?_
  clear o hR hI Xs LL ob
  rintro h ⟨Xs,LL,ob⟩ H hh ⟨o,hR,hI⟩;dsimp only at o hR hI;refine tt ?_;apply bk <;> intro h2
  ·have Ah:=A7 h2
   have w2:=ws h
   have Cu:=hc.1.C7 (f:=(h : Int)) (by simpa using Ah);rw [AJ] at Cu
   have JN:=hR.len
   have l9:=hI.len
   have Ss:=hI.bd (c.to.getD h default).toNat
   have lV : k*c.AH.length≤2*40:=Nat.mul_le_mul (by omega) hm;refine tt ?_;refine ⟨Ah,AU, ?_⟩;apply bk <;> intro h3
   ·have BB : c.AH.getD h default=os.getD k default:=A7 h3;refine tt ?_;refine ⟨by omega,by omega,⟨Cu.1,by omega⟩,Al o.h0 (by omega) ?_⟩;refine tt ?_;refine HP o hR (by omega) [(k : Int),(h : Int)] rfl (by show (LL.getD _ default).length+1≤AK; simp only [AK]; omega) fun X' o' H T7 hR o=>?_;try simp only [go_sem,↓reduceIte,reduceEqDiff,reduceAdd,reduceMul,reduceLeDiff,reduceLT,AV.cells_one T7]
    refine ⟨⟨Cu.1,by omega⟩,Aq o (by omega) rfl (by simp only [Bu,CZ]; exact ⟨T7,trivial⟩) fun H o=>?_⟩;simp only [Fw,Ht] at o;refine tw w2 ?_;exact A5 (_,_,_) (by omega) ⟨o,hR,hI.WV hc.1 AU Ah BB⟩ rfl
   ·refine tw w2 ?_;exact A5 (_,_,_) (by omega) ⟨o,hR,hI.skip (A9 h3)⟩ rfl
  ·have Ah:=A9 h2
   obtain rfl : h=c.AH.length:=by omega
   refine tw w1 ?_;exact A5 (_,_,_) (by omega) ⟨o,hR,hI.next⟩ rfl
 ·have AU:=A9 h1
  obtain rfl : k=os.length:=by omega
  have l9:=hI.len;refine tt ?_;refine Cy hR [] H o fun H o=>AX ?_;rw [List.nil_append] at o;clear hR;refine tt ?_;refine Ak (f:=BD) o (by omega) fun H o=>tt ?_;refine (EX B c).go fun _=>tt ?_;refine nb o fun Ec H o=>tt ?_;refine sw o fun H o=>?_
  let st : AV→AV→AF:=fun x5 x6=>.cells 7 [iI c.AR,iL c.AH,iL c.to,iL c.Aw,BD c.comp,x5,x6] 0
  refine tt ?_
  have Ll:=fC hc hI.toFreeI (N:=120) (by have:=Nat.mul_le_mul rM hm; omega)
  have Ju:=hI.of
  have RI:=hI.full;clear hI;refine AD [2,4,5,8] (G:=AV) (fun k X=>[(9,some (.int .i64 (k : Int)))]) (fun k X H=>Cb iI H0 H ((Ec,st X .A1)::[(BN,.cells 7 z7 0)]) X ((LL.take k).map fun l=>(l.length : Int))) LL.length .A1 (.inl ⟨rfl,rfl,o⟩) rfl ?_;clear o
  rintro k X H hk hX;refine tt ?_;apply bk <;> intro h4
  ·have DC:=A7 h4
   have w:=ws k;refine tt ?_;refine Al hX.obj (by simp [st]) (tt ?_);refine ⟨DC, ?_⟩;refine hX.app ((LL.getD k default).length : Int) rfl (by simp only [List.length_map,List.length_take,AK]; omega) fun Aw H o=>?_
   have e5 : ((LL.take k).map fun l=>(l.length : Int))++[((LL.getD k default).length : Int)]=(LL.take (k+1)).map fun l=>(l.length : Int):=by rw [take_one LL DC]; simp
   rw [e5] at o ⊢;refine tt ?_;refine sw o.swap fun H o=>?_;refine tw w ?_;exact A5 _ (by omega) (.inr ⟨Aw,rfl,o.swap⟩) rfl
  ·have DC:=A9 h4
   obtain rfl : k=LL.length:=by omega
   rw [List.take_length] at hX
   obtain ⟨p5,o,su⟩:=hX.split
   have o : AB H0 H ((Ec,st X .A1)::(p5++[(BN,.cells 7 z7 0)])):=o.perm List.perm_middle;clear hX;refine tt ?_;refine AD [2,4,5,8] (G:=AV) (fun a Y=>[(10,some (.int .i64 (a : Int)))]) (fun a Y H=>Cb iL H0 H ((Ec,st X Y)::(p5++[(BN,.cells 7 z7 0)])) Y ((List.range a).map (Dp c LL))) c.AH.length .A1 (.inl ⟨rfl,rfl,o⟩) rfl ?_;clear o
   rintro a Y H ha hY
   replace hY : Cb iL H0 H ((Ec,st X Y)::(p5++[(BN,.cells 7 z7 0)])) Y ((List.range a).map (Dp c LL)):=hY;refine tt ?_;apply bk <;> intro h5
   ·have Hj:=A7 h5
    have w2:=ws a
    have Pk:=hc.1.Cl (f:=(a : Int)) (by simpa using Hj)
    have Cu:=hc.1.C7 (f:=(a : Int)) (by simpa using Hj);rw [AJ] at Pk Cu
    obtain ⟨q,o,hq⟩:=hY.split;clear hY;refine tt ?_;refine Ae iI o fun Ed H o=>tt ?_;refine ⟨Hj,⟨Pk.1,by omega⟩,by omega,⟨Cu.1,by omega⟩, ?_⟩
    have eF : ix LL (c.AH.getD a default)=LL.getD (c.AH.getD a default).toNat default:=rfl
    have eT : ix LL (c.to.getD a default)=LL.getD (c.to.getD a default).toNat default:=rfl
    have Li : Dp c LL a=(LL.getD (c.AH.getD a default).toNat default).map fun q=>indexOf (LL.getD (c.to.getD a default).toNat default) [ix q 0,(ix c.comp (ix q 1)).getD a default]:=rfl
    have hofF:=Ju (c.AH.getD a default).toNat (by omega);rw [eF,eT]
    generalize hF : LL.getD (c.AH.getD a default).toNat default=F at *
    generalize hT : LL.getD (c.to.getD a default).toNat default=T at *
    have hFl : F.length≤200:=by
     have:=Ll.sz (F.length : Int) (List.mem_map.mpr ⟨F,by rw [← hF]; exact AE.mpr ⟨_,by omega,rfl⟩,rfl⟩);omega
    refine AD [2,4,5,8,10,12,13] (G:=Nat × List Int) (fun e g=>[(11,some (.buf g.1 g.2.length)),(14,some (.int .i64 (e : Int)))])
     (fun e g H=>g.2=(F.take e).map (fun q=>indexOf T [ix q 0,(ix c.comp (ix q 1)).getD a default])∧AB H0 H ((g.1,.cells 1 (g.2.map iI) 0)::(q++((Ec,st X Y)::(p5++[(BN,.cells 7 z7 0)]))))) F.length (Ed,[]) ⟨by simp,o⟩ rfl ?_
    clear o
    rintro e ⟨Ed,row⟩ H he ⟨B4,o⟩;dsimp only at B4 o
    have Lu : row.length=e:=by rw [B4,List.length_map,List.length_take]; omega
    refine tt ?_;apply bk <;> intro h6
    ·have Lo:=A7 h6
     have w3:=ws e
     obtain ⟨i,j,eq,hi,hj,_,_⟩:=hofF (F.getD e default) (AE.mpr ⟨e,Lo,rfl⟩)
     have e0 : ix (F.getD e default) 0=(i : Int):=by rw [eq]; rfl
     have e1 : ix (F.getD e default) 1=(j : Int):=by rw [eq]; rfl
     have el : (F.getD e default).length=2:=by rw [eq]; rfl
     have Ma:=hc.1.cl
     have hrw:=hc.1.Ld (a:=(j : Int)) (by simpa using hj);refine tt ?_;refine ⟨Lo,⟨by omega,by rw [el]; decide⟩,Lo,⟨by omega,by rw [el]; decide⟩, ?_⟩;rw [e0,e1];refine ⟨_,(FE B c (j : Int) (a : Int) ⟨by omega,by rw [Int.toNat_natCast,Ma]; exact hj⟩ ⟨by omega,by rw [hrw]; simpa using Hj⟩).run,tt ?_⟩;refine ⟨_,(Gm B T [(i : Int),(ix c.comp (j : Int)).getD a default]).run,tt ?_⟩;refine Ac (indexOf T [(i : Int),(ix c.comp (j : Int)).getD a default]) o rfl rfl (by simp only [AK]; omega) fun Ed H o=>?_;refine tw w3 ?_;refine A5 (_,_) (by omega) ⟨?_,o⟩ rfl;rw [take_one F Lo,List.map_append,← B4,List.map_cons,List.map_nil,e0,e1]
    ·have Lo:=A9 h6
     obtain rfl : e=F.length:=by omega
     rw [List.take_length,← Li] at B4;refine tt ?_;refine Ak o rfl fun H o=>?_
     have hY:=Cb.mk o hq;clear o;refine tt ?_;refine Al hY.obj (by simp [st]) (tt ?_)
     have e7 : (List.range a).map (Dp c LL)++[row]=(List.range (a+1)).map (Dp c LL):=by rw [Bg,B4]
     refine hY.app row rfl (by simp only [List.length_map,List.length_range,AK]; omega) fun Aw H o=>tt ?_;refine sw o.swap fun H o=>?_
     have hY : Cb iL H0 H ((Ec,st X (.buf Aw ((List.range a).map (Dp c LL)++[row]).length))::(p5++[(BN,.cells 7 z7 0)])) (.buf Aw ((List.range a).map (Dp c LL)++[row]).length) ((List.range a).map (Dp c LL)++[row]):=.inr ⟨Aw,rfl,o.swap⟩
     generalize (AV.buf Aw ((List.range a).map (Dp c LL)++[row]).length)=Y' at hY;rw [e7] at hY;refine tw w2 ?_;exact A5 Y' (by omega) hY rfl
   ·have Hj:=A9 h5
    obtain rfl : a=c.AH.length:=by omega
    refine tt ?_;refine Ef 6 hY rfl fun H o=>?_;have o:=s1 o
    have hX:=Cb.mk (o.perm List.perm_middle.symm) su;clear o;refine Ef 5 hX rfl fun H o=>AX ?_;have o:=s1 o;refine tt ?_;refine AZ o (by simp) (tt ?_);refine sw o.swap fun H o=>tt ?_
    have hr:=o.rc 7 0 (by simp);simp only [List.drop_zero] at hr;rw [hr];exact Ce ⟨by rw [F7,← RI]; rfl,by rw [F7,← RI]; exact Ll⟩ o.sub
def AnyF (r : AV) : Prop:=∃ f : SF,r=.agg f.cells
def wE (c : B0) (r : AV) : Prop:=∃ f : SF,r=.agg f.cells∧f.shape=c∧f.Aa.length≤40
def Lb (sz : List Int) (PP : List (List (List Int))) : Prop:=PP.length=sz.length∧∀ x : Nat,x<sz.length→∀ q,q∈PP.getD x default→2≤q.length∧(0≤q.getD 0 default∧q.getD 0 default<sz.getD x default)∧(0≤q.getD 1 default∧q.getD 1 default<sz.getD x default)
def bz (f : SF) (r : AV) : Prop:=∃ (CC : List (List Int)) (g : SF),r=.agg g.cells∧Kt f.A4 CC∧Xy f CC g
theorem TM (B : Nat) (f : SF) (c : B0) (hc : c.Is) (hf : f.Pre c 120) (PP : List (List (List Int))) (hP : Lb f.A4 PP) : LH B 264 [.agg f.cells,Gi PP] (bz f):=by
 intro H0;refine wL.go fun _=>?_
 obtain ⟨rfl,Gd,Pz,CW,Li⟩:=hf
 have hm:=hc.1.m
 have Fh:=hc.1.o
 have Hg:=hc.1.He
 have o : AB H0 H0 []:=.nil _
 have St : ∀ x,x<f.A4.length→0≤f.A4.getD x default∧f.A4.getD x default≤120:=fun x hx=>CW _ (AE.mpr ⟨x,hx,rfl⟩);refine tt ?_;refine nb o fun BN H o=>tt ?_;refine Ae iL o fun CS H o=>tt ?_
 refine AD [1,2,4] (G:=Nat × List (List Int)) (fun k g=>[(5,some (.buf g.1 g.2.length)),(6,some (.int .i64 (k : Int)))])
  (fun k g H=>g.2=(List.range k).map (Ku f.A4 PP)∧AB H0 H [(g.1,.cells 1 (g.2.map iL) 0),(BN,.cells 7 z7 0)]) f.A4.length (CS,[]) ⟨rfl,o⟩ rfl ?_
 clear o
 rintro k ⟨CS,CC⟩ H hk ⟨vE,o⟩
 replace vE : CC=(List.range k).map (Ku f.A4 PP):=vE
 replace o : AB H0 H [(CS,.cells 1 (CC.map iL) 0),(BN,.cells 7 z7 0)]:=o
 have NV : CC.length=k:=by rw [vE]; simp
 refine tt ?_;apply bk <;> intro h1
 ·have AU:=A7 h1
  have w1:=ws k
  have jH:=St k AU
  obtain ⟨n,hn⟩ : ∃ n : Nat,f.A4.getD k default=n:=⟨_,(Int.toNat_of_nonneg jH.1).symm⟩
  have hPk:=hP.2 k AU
  have Ma : Ku f.A4 PP k=IQ n (PP.getD k default):=by rw [Ku,hn,Int.toNat_natCast]
  rw [hn] at hPk jH;refine tt ?_;refine ⟨AU,by rw [hP.1]; exact AU, ?_⟩;rw [hn];refine ⟨_,(Tu B n (by omega) (PP.getD k default) fun q hq=>?_).run, ?_⟩
  ·have:=hPk q hq; omega
  refine tt ?_;refine Ac (IQ n (PP.getD k default)) o rfl rfl (by simp only [AK]; omega) fun CS H o=>?_;refine tw w1 ?_;exact A5 (_,_) (by omega) ⟨by rw [vE,Bg,Ma],o⟩ rfl
 ·have AU:=A9 h1
  obtain rfl : k=f.A4.length:=by omega
  have hK : Kt f.A4 CC:=by rw [vE]; exact Yx (fun y hy=>(CW y hy).1) PP
  clear vE;refine tt ?_;rw [NV];refine tt ?_
  refine De [2,4,5] (G:=Bool × List (List Int)) (fun g=>[(7,some (.bool g.1))]) (fun m g H=>(m=Pw g.2+(if g.1=true then 1 else 0)∧Kt f.A4 g.2∧(g.1=false→Cg f g.2 f.Aa.length))∧AB H0 H [(CS,.cells 1 (g.2.map iL) 0),(BN,.cells 7 z7 0)])
   (Pw CC+1) (true,CC) ⟨⟨by simp,hK,fun h=>absurd h (by simp)⟩,o⟩ rfl ?_
  clear o hK NV CC
  rintro m ⟨more,CC⟩ H ⟨⟨aU,hK,hG⟩,o⟩
  replace hG : more=false→Cg f CC f.Aa.length:=hG
  replace aU : m=Pw CC+(if more=true then 1 else 0):=aU
  replace hK : Kt f.A4 CC:=hK
  replace o : AB H0 H [(CS,.cells 1 (CC.map iL) 0),(BN,.cells 7 z7 0)]:=o
  cases more;rotate_left 1
  ·refine tt ?_
   obtain ⟨P0,hP0⟩ : ∃ P0,P0=Pw CC:=⟨_,rfl⟩;rw [← hP0] at aU
   refine AD [2,4,5] (G:=Bool × List (List Int)) (fun a g=>[(7,some (.bool g.1)),(8,some (.int .i64 (a : Int)))])
    (fun a g H=>(Pw g.2≤P0∧(g.1=true→Pw g.2<P0)∧Kt f.A4 g.2∧(g.1=false→Cg f g.2 a))∧AB H0 H [(CS,.cells 1 (g.2.map iL) 0),(BN,.cells 7 z7 0)]) f.Aa.length (false,CC) ⟨⟨by simp [hP0],by simp,hK,fun _ a h=>absurd h (Nat.not_lt_zero a)⟩,o⟩ rfl ?_
   clear o hK hG hP0 CC
   rintro a ⟨more,CC⟩ H ha ⟨⟨JO,Fi,hK,hG⟩,o⟩
   replace hG : more=false→Cg f CC a:=hG
   replace JO : Pw CC≤P0:=JO
   replace Fi : more=true→Pw CC<P0:=Fi
   replace hK : Kt f.A4 CC:=hK
   replace o : AB H0 H [(CS,.cells 1 (CC.map iL) 0),(BN,.cells 7 z7 0)]:=o;refine tt ?_;apply bk <;> intro h2
   ·have Ah:=A7 h2
    have w2:=ws a
    have T6 : a<f.shape.AH.length:=by omega
    have Pk:=hc.1.Cl (f:=(a : Int)) (by simpa using T6)
    have Cu:=hc.1.C7 (f:=(a : Int)) (by simpa using T6)
    have Po:=Li a T6;rw [AJ] at Pk Cu
    obtain ⟨x,hx⟩ : ∃ x : Nat,f.shape.AH.getD a default=x:=⟨_,(Int.toNat_of_nonneg Pk.1).symm⟩
    obtain ⟨y,hy⟩ : ∃ y : Nat,f.shape.to.getD a default=y:=⟨_,(Int.toNat_of_nonneg Cu.1).symm⟩;rw [hx,hy,AJ,AJ] at Po;rw [hx] at Pk;rw [hy] at Cu
    have Pp : x<f.A4.length:=by omega
    have iC : y<f.A4.length:=by omega
    have rp:=St x Pp
    have hzy:=St y iC
    obtain ⟨n,hn⟩ : ∃ n : Nat,f.A4.getD x default=n:=⟨_,(Int.toNat_of_nonneg rp.1).symm⟩
    obtain ⟨ny,jh⟩ : ∃ n : Nat,f.A4.getD y default=n:=⟨_,(Int.toNat_of_nonneg hzy.1).symm⟩;rw [hn] at Po rp;rw [jh] at Po hzy
    have hlen : (f.Aa.getD a default).length=n:=by omega
    refine tt ?_;refine ⟨T6,by omega, ?_⟩;rw [hx,hy];refine tt ?_
    refine AD [2,4,5,8,9,10] (G:=Bool × List (List Int)) (fun d g=>[(7,some (.bool g.1)),(11,some (.int .i64 (d : Int)))])
     (fun d g H=>(Pw g.2≤P0∧(g.1=true→Pw g.2<P0)∧Kt f.A4 g.2∧(g.1=false→Cg f g.2 a∧mD f g.2 a d))∧AB H0 H [(CS,.cells 1 (g.2.map iL) 0),(BN,.cells 7 z7 0)]) n (more,CC) ⟨⟨JO,Fi,hK,fun q=>⟨hG q,fun d h=>absurd h (Nat.not_lt_zero d)⟩⟩,o⟩ rfl ?_
    clear o JO Fi hK hG
    rintro d ⟨more,CC⟩ H hd ⟨⟨JO,Fi,hK,hG⟩,o⟩
    replace hG : more=false→Cg f CC a∧mD f CC a d:=hG
    replace JO : Pw CC≤P0:=JO
    replace Fi : more=true→Pw CC<P0:=Fi
    replace hK : Kt f.A4 CC:=hK
    replace o : AB H0 H [(CS,.cells 1 (CC.map iL) 0),(BN,.cells 7 z7 0)]:=o
    have jF:=hK.row x Pp
    have Nc:=hK.len;rw [hn] at jF;refine tt ?_;refine ⟨Pp,BX o (by omega) ?_⟩
    have ecl : (CC.getD x default).length=n:=by omega
    refine tw ecl ?_;apply bk <;> intro h3
    ·have BB:=A7 h3
     have w3:=ws d;refine tt ?_
     refine AD [2,4,5,8,9,10,11] (G:=Bool × List (List Int)) (fun e g=>[(7,some (.bool g.1)),(12,some (.int .i64 (e : Int)))])
      (fun e g H=>(Pw g.2≤P0∧(g.1=true→Pw g.2<P0)∧Kt f.A4 g.2∧(g.1=false→Cg f g.2 a∧mD f g.2 a d∧CgD f g.2 a d e))∧AB H0 H [(CS,.cells 1 (g.2.map iL) 0),(BN,.cells 7 z7 0)]) d (more,CC) ⟨⟨JO,Fi,hK,fun q=>⟨(hG q).1,(hG q).2,fun e h=>absurd h (Nat.not_lt_zero e)⟩⟩,o⟩ rfl ?_
     clear o JO Fi hK hG jF Nc ecl
     rintro e ⟨more,CC⟩ H he ⟨⟨JO,Fi,hK,hG⟩,o⟩
     replace hG : more=false→Cg f CC a∧mD f CC a d∧CgD f CC a d e:=hG
     replace JO : Pw CC≤P0:=JO
     replace Fi : more=true→Pw CC<P0:=Fi
     replace hK : Kt f.A4 CC:=hK
     replace o : AB H0 H [(CS,.cells 1 (CC.map iL) 0),(BN,.cells 7 z7 0)]:=o
     have jF:=hK.row x Pp
     have hky:=hK.row y iC
     have Nc:=hK.len;rw [hn] at jF;rw [jh] at hky;refine tt ?_;apply bk <;> intro h4
     ·have DC:=A7 h4
      have w4:=ws e
      have hu:=Po.2 _ (AE.mpr ⟨d,by omega,rfl⟩)
      have hv:=Po.2 _ (AE.mpr ⟨e,by omega,rfl⟩);refine tt ?_;refine ⟨Ah,by omega,Ah,by omega, ?_⟩
      generalize Lv : (f.Aa.getD a default).getD d default=u at hu ⊢
      generalize T8 : (f.Aa.getD a default).getD e default=v at hv ⊢;refine tt ?_;refine ⟨Pp,BX o (by omega) ?_⟩;refine tt ?_;refine ⟨by omega,Pp,BX o (by omega) ?_⟩;refine tt ?_;refine ⟨by omega, ?_⟩;apply bk <;> intro h5
      ·refine tw h5 ?_
       have rP : (CC.getD y default).length=ny:=by omega
       refine ⟨iC,BX o (by omega) ?_⟩;refine tt ?_;refine ⟨⟨hu.1,by omega⟩,iC,BX o (by omega) ?_⟩;refine tt ?_;refine ⟨⟨hv.1,by omega⟩, ?_⟩;apply bk <;> intro h6
       ·refine tt ?_
        have Lo:=dd h6
        have Lo : ix (CC.getD y default) u≠ix (CC.getD y default) v:=Lo
        have hul : 0≤u∧u.toNat<(CC.getD y default).length:=⟨hu.1,by omega⟩
        have Wz : 0≤v∧v.toNat<(CC.getD y default).length:=⟨hv.1,by omega⟩
        have sP:=Wa hul Wz;rw [rP] at sP
        have hgl:=UM (n:=ny) (ps:=Fx (CC.getD y default)++[[u,v]]) fun q hq=>⟨(sP q hq).2.1.2,(sP q hq).2.2.2⟩
        have fk:=Wf (by rw [MU,rP]) hul Wz Lo hgl
        have Ik:=hK.set iC (m:=IQ ny (Fx (CC.getD y default)++[[u,v]])) (by rw [MU,jh]) (fun w hw=>by rw [jh]; exact Qy hw) (Ou _ _)
        have gi:=YA CC y _ (by omega) fk;refine ⟨iC,iC,BX o (by omega) ?_⟩;rw [jh];refine tt ?_;refine (Si B (CC.getD y default) _ _ _ o).own fun sF A H o hA=>?_;subst hA
        have Ko : (Fx (CC.getD y default)).length=ny:=by rw [Fx,List.length_map,List.length_range,rP]
        refine tt ?_;refine Ac [u,v] o rfl rfl (by simp only [AK]; omega) fun sF H o=>tt ?_;refine LV 1 rfl o rfl fun H o=>?_;refine (Tu B ny (by omega) (Fx (CC.getD y default)++[[u,v]]) sP).go fun _=>tt ?_;refine ⟨iC,C4 (f:=iL) (IQ ny (Fx (CC.getD y default)++[[u,v]])) o rfl (by omega) fun H o=>?_⟩;refine tw w4 ?_;exact A5 (true,_) (by omega) ⟨⟨Nat.le_trans (Nat.le_of_lt gi) JO,fun _=>Nat.lt_of_lt_of_le gi JO,Ik,fun h=>absurd h (by simp)⟩,o⟩ rfl
       ·refine tw w4 ?_
        have Lo:=dd h6
        have II : kW f CC a d e:=fun _=>by rw [hy,AJ,Lv,T8]; exact Lo
        exact A5 (more,CC) (by omega) ⟨⟨JO,Fi,hK,fun q=>⟨(hG q).1,(hG q).2.1,AG (hG q).2.2 II⟩⟩,o⟩ rfl
      ·refine t2 h5 w4 ?_
       have Hj:=dd h5
       have II : kW f CC a d e:=fun q=>by rw [hx,AJ] at q; exact absurd q Hj
       exact A5 (more,CC) (by omega) ⟨⟨JO,Fi,hK,fun q=>⟨(hG q).1,(hG q).2.1,AG (hG q).2.2 II⟩⟩,o⟩ rfl
     ·have DC:=A9 h4
      obtain rfl : e=d:=by omega
      refine tw w3 ?_;exact A5 (more,CC) (by omega) ⟨⟨JO,Fi,hK,fun q=>⟨(hG q).1,AG (hG q).2.1 (hG q).2.2⟩⟩,o⟩ rfl
    ·have BB:=A9 h3
     obtain rfl : d=n:=by omega
     refine tw w2 ?_;exact A5 (more,CC) (by omega) ⟨⟨JO,Fi,hK,fun q=>AG (hG q).1 (by rw [hlen]; exact (hG q).2)⟩,o⟩ rfl
   ·have Ah:=A9 h2
    obtain rfl : a=f.Aa.length:=by omega
    refine tt ?_
    cases more
    ·exact CY (Pw CC) (false,CC) (by simp at aU; omega) ⟨⟨by simp,hK,hG⟩,o⟩ rfl
    ·have:=Fi rfl;exact CY (Pw CC+1) (true,CC) (by simp at aU; omega) ⟨⟨by simp,hK,fun h=>absurd h (by simp)⟩,o⟩ rfl
  ·clear aU
   have hCg:=hG rfl
   have Nc:=hK.len
   have hcx : ∀ x,x<f.A4.length→(CC.getD x default).length≤120:=fun x hx=>by have:=hK.row x hx; have:=St x hx; omega
   have tp : ∀ x,x<f.A4.length→(0≤Jf (CC.getD x default)∧Jf (CC.getD x default)≤f.A4.getD x default)∧∀ v,v∈CC.getD x default→v<Jf (CC.getD x default) :=
    fun x hx=>Rs (St x hx).1 (hK.Nb x hx)
   refine tt ?_;refine Ak o Nc.symm fun H o=>tt ?_;refine (EX B f.shape).go fun _=>tt ?_;refine nb o fun Ec H o=>tt ?_;refine sw o fun H o=>?_
   let st : AV→AV→AF:=fun x5 x6=>.cells 7 [iI f.shape.AR,iL f.shape.AH,iL f.shape.to,iL f.shape.Aw,BD f.shape.comp,x5,x6] 0
   refine tt ?_;refine AD [2,4,5,15] (G:=AV) (fun k X=>[(16,some (.int .i64 (k : Int)))]) (fun k X H=>Cb iI H0 H ((Ec,st X .A1)::[(BN,.cells 7 z7 0)]) X ((CC.take k).map Jf)) CC.length .A1 (.inl ⟨rfl,rfl,o⟩) rfl ?_;clear o
   rintro k X H hk hX;refine tt ?_;apply bk <;> intro h1
   ·have AU:=A7 h1
    have w1:=ws k
    obtain ⟨p,o,hp⟩:=hX.split;clear hX
    have gV:=hcx k (by omega)
    have hrk:=hK.Nb k (by omega)
    have jH:=St k (by omega);refine tt ?_;refine AD [2,4,5,15,16] (G:=Unit) (fun e _=>[(17,some (.int .i64 (Jf ((CC.getD k default).take e)))),(18,some (.int .i64 (e : Int)))]) (fun e _ H=>AB H0 H (p++((Ec,st X .A1)::[(BN,.cells 7 z7 0)]))) (CC.getD k default).length () o rfl ?_;clear o
    rintro e _ H he o;refine tt ?_;refine ⟨AU, ?_⟩;apply bk <;> intro h2
    ·have Ah:=A7 h2
     have w2:=ws e
     have hv:=hrk _ (AE.mpr ⟨e,Ah,rfl⟩)
     have w3 : IntKind.i64.wrap ((CC.getD k default).getD e default+1)=(CC.getD k default).getD e default+1:=wrap_i64 (by omega) (by omega)
     have Jo:=T9 (CC.getD k default) Ah;refine tt ?_;refine ⟨AU,Ah, ?_⟩;rw [w3,← Jo];refine tw w2 ?_;exact A5 () (by omega) o rfl
    ·have Ah:=A9 h2
     obtain rfl : e=(CC.getD k default).length:=by omega
     rw [List.take_length]
     have hX:=Cb.mk o hp;clear o;refine tt ?_;refine Al hX.obj (by simp [st]) (tt ?_)
     have e7 : (CC.take k).map Jf++[Jf (CC.getD k default)]=(CC.take (k+1)).map Jf:=by rw [take_one CC AU]; simp
     refine hX.app (Jf (CC.getD k default)) rfl (by simp only [List.length_map,List.length_take,AK]; omega) fun Aw H o=>?_;rw [e7] at o ⊢;refine tt ?_;refine sw o.swap fun H o=>?_;refine tw w1 ?_;exact A5 _ (by omega) (.inr ⟨Aw,rfl,o.swap⟩) rfl
   ·have AU:=A9 h1
    obtain rfl : k=CC.length:=by omega
    rw [List.take_length] at hX
    obtain ⟨p5,o,su⟩:=hX.split
    have o : AB H0 H ((Ec,st X .A1)::(p5++[(BN,.cells 7 z7 0)])):=o.perm List.perm_middle;clear hX;refine tt ?_;refine AD [2,4,5,15] (G:=AV × List (List Int)) (fun a Y=>[(19,some (.int .i64 (a : Int)))]) (fun a Y H=>(Y.2.length=a∧∀ i : Nat,i<a→LD f CC i (Y.2.getD i default) (f.Aa.getD i default).length)∧Cb iL H0 H ((Ec,st X Y.1)::(p5++[(BN,.cells 7 z7 0)])) Y.1 Y.2) f.Aa.length (.A1,[]) ⟨⟨rfl,fun i h=>absurd h (Nat.not_lt_zero i)⟩,.inl ⟨rfl,rfl,o⟩⟩ rfl ?_;clear o
    rintro a ⟨Y,RR⟩ H ha ⟨⟨gj,lZ⟩,hY⟩
    replace lZ : ∀ i : Nat,i<a→LD f CC i (RR.getD i default) (f.Aa.getD i default).length:=lZ
    replace gj : RR.length=a:=gj
    replace hY : Cb iL H0 H ((Ec,st X Y)::(p5++[(BN,.cells 7 z7 0)])) Y RR:=hY;refine tt ?_;apply bk <;> intro h2
    ·have Ah:=A7 h2
     have w2:=ws a
     have T6 : a<f.shape.AH.length:=by omega
     have Pk:=hc.1.Cl (f:=(a : Int)) (by simpa using T6)
     have Cu:=hc.1.C7 (f:=(a : Int)) (by simpa using T6)
     have Po:=Li a T6;rw [AJ] at Pk Cu
     obtain ⟨x,hx⟩ : ∃ x : Nat,f.shape.AH.getD a default=x:=⟨_,(Int.toNat_of_nonneg Pk.1).symm⟩
     obtain ⟨y,hy⟩ : ∃ y : Nat,f.shape.to.getD a default=y:=⟨_,(Int.toNat_of_nonneg Cu.1).symm⟩;rw [hx,hy,AJ,AJ] at Po;rw [hx] at Pk;rw [hy] at Cu
     have Pp : x<f.A4.length:=by omega
     have iC : y<f.A4.length:=by omega
     have rp:=St x Pp
     have jF:=hK.row x Pp
     have hky:=hK.row y iC
     have sN:=tp x Pp;refine tt ?_;refine ⟨T6,by omega, ?_⟩;rw [hx,hy];refine tt ?_
     obtain ⟨KC,rfl,rfl⟩:=su.sub (i:=x) (by rw [List.length_map]; omega);refine Al hY.obj (by simp [st]) (tt ?_);refine ⟨by rw [List.length_map]; omega,CD (f:=iI) (hY.get (x:=(KC,.cells 1 ((CC.map Jf).map iI) 0)) (by simp)) (by rw [List.length_map]; omega) ?_⟩;rw [B8 Jf (show x<CC.length by omega)]
     obtain ⟨n,hn⟩ : ∃ n : Nat,Jf (CC.getD x default)=n:=⟨_,(Int.toNat_of_nonneg sN.1.1).symm⟩;rw [hn] at sN ⊢
     obtain ⟨q,o,hq⟩:=hY.split;clear hY;refine tt ?_;refine ⟨⟨by omega,by simp only [AK]; omega⟩,DL iI 0 rfl o fun id22 H o=>?_⟩;refine tt ?_
     have Uz : (List.replicate n (0 : Int)).length=n:=List.length_replicate
     refine AD [2,4,5,15,19,20,21,22] (G:=List Int) (fun e _=>[(23,some (.int .i64 (e : Int)))])
      (fun e A H=>(A.length=n∧LD f CC a A e)∧AB H0 H ((id22,.cells 1 (A.map iI) 0)::(q++((Ec,st (.buf KC (CC.map Jf).length) Y)::([(KC,.cells 1 ((CC.map Jf).map iI) 0)]++[(BN,.cells 7 z7 0)]))))) (CC.getD x default).length (List.replicate n 0) ⟨⟨Uz,by rw [hx,AJ,hn,Uz],fun e h=>absurd h (Nat.not_lt_zero e)⟩,o⟩ rfl ?_
     clear o
     rintro e A H he ⟨⟨hA,Mf⟩,o⟩;refine tt ?_;refine ⟨by omega, ?_⟩;apply bk <;> intro h3
     ·have BB:=A7 h3
      have w3:=ws e
      have Im:=sN.2 _ (AE.mpr ⟨e,BB,rfl⟩)
      have Sw:=hK.Nb x Pp _ (AE.mpr ⟨e,BB,rfl⟩)
      have Ew:=Po.2 _ (AE.mpr ⟨e,by omega,rfl⟩);refine tt ?_;refine ⟨by omega,BB,by omega,Ah,by omega,⟨Ew.1,by omega⟩,⟨Sw.1,by omega⟩, ?_⟩
      have Ik:=Mf.set (hCg a Ah) (by omega) (fun e' se=>by rw [hx,AJ]; exact (hK.Nb x Pp _ (AE.mpr ⟨e',by omega,rfl⟩)).1) (by rw [hx,AJ]; omega);rw [hx,hy,AJ,AJ] at Ik;refine C4 (f:=iI) _ o rfl (by omega) fun H o=>?_;refine tw w3 ?_;exact A5 (A.set _ _) (by omega) ⟨⟨by rw [List.length_set]; exact hA,Ik⟩,o⟩ rfl
     ·have BB:=A9 h3
      obtain rfl : e=(CC.getD x default).length:=by omega
      have hAe : LD f CC a A (f.Aa.getD a default).length:=by rw [show (f.Aa.getD a default).length=(CC.getD x default).length by omega]; exact Mf
      refine tt ?_;refine Ak o hA.symm fun H o=>?_
      have hY:=Cb.mk o hq;clear o;refine tt ?_;refine Al hY.obj (by simp [st]) (tt ?_);refine hY.app A rfl (by simp only [AK]; omega) fun Aw H o=>tt ?_;refine sw o.swap fun H o=>?_;refine tw w2 ?_;exact A5 (.buf Aw (RR++[A]).length,RR++[A]) (by omega) ⟨⟨by show (RR++[A]).length=_; simp [gj],ZV (P:=fun i r=>LD f CC i r (f.Aa.getD i default).length) gj lZ hAe⟩,.inr ⟨Aw,rfl,o.swap⟩⟩ rfl
    ·have Ah:=A9 h2
     obtain rfl : a=f.Aa.length:=by omega
     refine tt ?_;refine Ef 6 hY rfl fun H o=>?_;have o:=s1 o
     have hX:=Cb.mk (o.perm List.perm_middle.symm) su;clear o;refine Ef 5 hX rfl fun H o=>AX ?_;have o:=s1 o;refine tt ?_;refine AZ o (by simp) (tt ?_);refine sw o.swap fun H o=>tt ?_
     have hr:=o.rc 7 0 (by simp);simp only [List.drop_zero] at hr;rw [hr];exact Ce ⟨CC,⟨f.shape,CC.map Jf,RR⟩,rfl,hK,rfl,rfl,gj,lZ⟩ o.sub
end Go.Proofs.Shf
namespace Go.Shf
open Go.AW
theorem R9 {α : Type} [Inhabited α] (n : Nat) (a : α) {i : Nat} (h : i<n) : (List.replicate n a).getD i default=a:=by
 rw [gE,List.getElem?_replicate,if_pos h]; rfl
section
variable {c : B0} {n : Nat}
theorem Ms (hc : c.Shape) {x : Int} (hx : 0≤x∧x<c.AR) : ix (D7 c n).A4 x=n:=R9 _ _ (by have:=hc.o; omega)
theorem GA {a : Int} (ha : a.toNat<c.AH.length) : ix (D7 c n).Aa a=(List.range n).map Int.ofNat:=R9 _ _ ha
theorem Ox {i : Nat} (hi : i<n) : ((List.range n).map Int.ofNat).getD i default=i:=by rw [B8 _ (by simpa using hi)]; simp [gE,hi]
theorem Z7 (hc : c.Is) (hn : n≤16) : (D7 c n).Shape where
 is:=hc
 sl:=by have:=hc.1.o; simp only [D7,List.length_replicate]; omega
 al:=by simp [D7]
 sz y hy:=by
  have:=List.eq_of_mem_replicate hy;omega
 act a ha:=by
  have iS : a<c.AH.length:=by simpa [D7] using ha
  have e1 : (D7 c n).Aa.getD a default=(List.range n).map Int.ofNat:=by
   have:=GA (c:=c) (n:=n) (a:=(a : Int)) (by simpa using iS)
   rwa [AJ] at this
  have hf:=hc.1.Cl (f:=(a : Int)) (by simpa using iS)
  have ht:=hc.1.C7 (f:=(a : Int)) (by simpa using iS);rw [AJ] at hf ht;rw [e1];refine ⟨?_,fun y hy=>?_⟩
  ·rw [show (D7 c n).shape=c from rfl,Ms hc.1 hf]; simp
  ·rw [show (D7 c n).shape=c from rfl,Ms hc.1 ht]
   obtain ⟨i,hi,rfl⟩:=List.mem_map.mp hy;rw [List.mem_range] at hi;simp only [Int.ofNat_eq_natCast]; omega
theorem ZD (hc : c.Is) (hn : n≤16) : (D7 c n).Is:=by
 refine ⟨Z7 hc hn,fun x hx e he=>?_,fun a b ha hb Ic e he=>?_⟩
 ·have QX : x<c.Aw.length:=hx
  have hi:=hc.1.Aw _ (AE.mpr ⟨x,QX,rfl⟩)
  have e1 : ix (D7 c n).Aa ((D7 c n).shape.Aw.getD x default)=(List.range n).map Int.ofNat:=GA (by show (c.Aw.getD x default).toNat<_; omega);rw [e1] at he ⊢;exact Ox (by simpa using he)
 ·have iS : a<c.AH.length:=ha
  have Zz : b<c.AH.length:=hb
  have hy:=hc.1.yes a b iS Zz Ic
  have e1 : (D7 c n).Aa.getD a default=(List.range n).map Int.ofNat:=by
   have:=GA (c:=c) (n:=n) (a:=(a : Int)) (by simpa using iS)
   rwa [AJ] at this
  have e2 : (D7 c n).Aa.getD b default=(List.range n).map Int.ofNat:=by
   have:=GA (c:=c) (n:=n) (a:=(b : Int)) (by simpa using Zz)
   rwa [AJ] at this
  have e3 : ix (D7 c n).Aa (((D7 c n).shape.comp.getD a default).getD b default)=(List.range n).map Int.ofNat:=GA (by show ((c.comp.getD a default).getD b default).toNat<_; omega);rw [e1] at he ⊢
  have iZ : e<n:=by simpa using he
  rw [e3,e2,Ox iZ,AJ,Ox iZ]
end
end Go.Shf
namespace Go.Proofs.Shf
open Go.AW Go.Proofs Go.Shf
theorem Nn (B : Nat) : Rd B 297 [] kQ:=by
 intro id s H0 H hs o;refine zA.go fun _=>?_;refine tt ?_;refine Am o fun ES H o=>tt ?_;refine (AY B 3).go hs o.swap fun r s H _ ⟨v,e,_⟩ hs o=>?_;subst e;refine tt ?_;apply bk <;> intro h1
 focus
  refine tt ?_;refine (Pa B 2 6).go hs o fun r s H _ ⟨c,e⟩ hs o=>?_
 rotate_left 1
 focus
  refine tt ?_;refine (Pa B 4 12).go hs o fun r s H _ ⟨c,e⟩ hs o=>?_
 all_goals
  subst e;refine tt ?_;refine sw o.swap fun H o=>tt ?_
  have BZ:=o.rc 5 0 (by simp);simp only [List.drop_zero] at BZ;rw [BZ];exact Az (n8 _ _ _ _ _) hs o.swap
theorem XW {α : Type} (n x : Nat) : (List.replicate n ([] : List α)).getD x default=[]:=by
 rw [gE,List.getElem?_replicate]
 split <;> rfl
theorem Lb.add {sz : List Int} {PP : List (List (List Int))} (h : Lb sz PP) {x : Nat} (hx : x<sz.length) {a b : Int} (ha : 0≤a∧a<sz.getD x default) (hb : 0≤b∧b<sz.getD x default) :
  Lb sz (PP.set x (PP.getD x default++[[a,b]])):=by
 refine ⟨by rw [List.length_set]; exact h.1,fun y hy q hq=>?_⟩;rw [FC _ _ (by rw [h.1]; exact hx)] at hq
 by_cases e : y=x
 ·rw [if_pos e] at hq;subst e
  rcases List.mem_append.mp hq with hq | hq
  ·exact h.2 y hy q hq
  ·rw [List.mem_singleton] at hq;subst hq;exact ⟨by simp,ha,hb⟩
 ·rw [if_neg e] at hq; exact h.2 y hy q hq
def ak (c : B0) (size : Int) (r : AV) : Prop:=∃ f : SF,r=.agg f.cells∧f.shape=c∧f.Aa.length≤40∧(size≤16→f.Is∧∀ y,y∈f.A4→y≤max size 2)
theorem J0 (B : Nat) (c : B0) (hc : c.Is) (size : Int) (KA : 0≤size∧size≤1000) : Rd B 196 [.agg c.cells,iI size] (ak c size):=by
 intro id s H0 H hs o;refine xF.go fun _=>?_
 have hm:=hc.1.m
 have Fh:=hc.1.o;refine tt ?_;refine nb o fun F8 H o=>tt ?_;refine AD [0,2,4,6] (G:=Src) (fun k _=>[(7,some (.int .i64 (k : Int)))]) (fun k s H=>s.Ok∧AB H0 H [(id,s.obj),(F8,.cells 7 z7 0)]) 6 s ⟨hs,o.swap⟩ rfl ?_;clear o hs
 rintro k s H hk ⟨hs,o⟩;refine tt ?_;apply bk <;> intro h1
 ·have AU:=A7 h1
  have w1:=ws k;refine tt ?_;refine Ae iI o fun Ec H o=>tt ?_;refine (AY B 4).go hs o.swap fun r s H _ ⟨v,e,v0,v1,_⟩ hs o=>?_;subst e
  have hv:=v1 (by omega)
  obtain ⟨n,rfl⟩ : ∃ n : Nat,v=n:=⟨_,(Int.toNat_of_nonneg v0).symm⟩;clear v0 v1;refine tt ?_
  refine De [0,2,4,6,7] (G:=Src × (Nat × List Int) × Nat) (fun g=>[(8,some (.buf g.2.1.1 g.2.1.2.length)),(9,some (.int .i64 (g.2.2 : Int)))])
   (fun m g H=>m=g.2.2∧g.1.Ok∧g.2.1.2.length+g.2.2≤3∧AB H0 H [(id,g.1.obj),(g.2.1.1,.cells 1 (g.2.1.2.map iI) 0),(F8,.cells 7 z7 0)]) n (s,(Ec,[]),n) ⟨rfl,hs,by simp; omega,o⟩ rfl ?_
  clear o hs
  rintro m ⟨s,⟨Ec,os⟩,n⟩ H ⟨hmn,hs,rM,o⟩;dsimp only at hmn hs rM o;refine tt ?_;apply bk <;> intro h2
  focus
   refine tw h2 ?_;apply bk <;> intro h3
   focus
    have Ah:=A7 h2
    have w2 : IntKind.i64.wrap ((n : Int) - 1)=((n - 1 : Nat) : Int):=by rw [wrap_i64 (by omega) (by omega)]; omega
    refine tw h3 ?_;refine (AY B c.AR).go hs o fun r s H _ ⟨v,e,_⟩ hs o=>?_;subst e;refine tt ?_;refine Ac v o.swap rfl rfl (by simp only [AK]; omega) fun Ec H o=>?_;refine tw w2 ?_;exact CY (n - 1) (s,(Ec,os++[v]),n - 1) (by omega) ⟨rfl,hs,by simp; omega,o.swap⟩ rfl
   refine tw h3 ?_
  rotate_left 1
  focus
   refine tw h2 ?_
  all_goals
   refine Ak o.swap rfl fun H o=>tt ?_;refine (Td B c hc os (by omega)).go fun r _ ⟨e,hf⟩=>?_
   obtain ⟨f,hfq⟩ : ∃ f,f=F7 c os:=⟨_,rfl⟩;rw [← hfq] at e hf;subst e;refine tt ?_;refine nb o fun Ln H o=>tt ?_;refine sw o fun H o=>tt ?_;refine ⟨⟨by omega,by simp only [AK]; omega⟩, ?_⟩;rw [Jl];refine Af o fun Ed H o=>tt ?_;refine (AY B 4).go hs (o.pull [_,_]) fun r s H _ ⟨v,e,v0,v1,_⟩ hs o=>?_;subst e
   have hv:=v1 (by omega)
   obtain ⟨n,rfl⟩ : ∃ n : Nat,v=n:=⟨_,(Int.toNat_of_nonneg v0).symm⟩;clear v0 v1;refine tt ?_
   have Gd:=hf.sl
   have hzf : ∀ x,x<f.A4.length→0≤f.A4.getD x default∧f.A4.getD x default≤120:=fun x hx=>hf.sz _ (AE.mpr ⟨x,hx,rfl⟩)
   refine De [0,2,4,6,7,10,11] (G:=Src × (List AV × List (List (List Int)) × Ob) × Nat) (fun g=>[(12,some (.int .i64 (g.2.2 : Int)))])
    (fun m g H=>m=g.2.2∧g.1.Ok∧Ez iL g.2.1.1 g.2.1.2.1 g.2.1.2.2∧Lb f.A4 g.2.1.2.1∧(∀ x,(g.2.1.2.1.getD x default).length+g.2.2≤3) ∧
     AB H0 H ((id,g.1.obj)::(Ed,.cells 1 g.2.1.1 0)::(g.2.1.2.2++[(Ln,AF.cells 7 f.cells 0),(F8,AF.cells 7 z7 0)]))) n (s,(List.replicate c.AR.toNat .A1,List.replicate c.AR.toNat [],[]),n)
    ⟨rfl,hs,Ez.rep iL _,⟨by rw [List.length_replicate]; omega,fun x hx q hq=>by rw [show (List.replicate c.AR.toNat ([] : List (List Int))).getD x default=[] from XW _ _] at hq; simp at hq⟩,fun x=>by
     rw [show (List.replicate c.AR.toNat ([] : List (List Int))).getD x default=[] from XW _ _]; simp; omega,o⟩ rfl ?_
   clear o hs
   rintro m ⟨s,⟨Xs,PP,ob⟩,n⟩ H ⟨hmn,hs,hR,ke,vI,o⟩;dsimp only at hmn hs hR ke vI o
   have JN:=hR.len
   have hPPl:=ke.1
   have hn3 : n≤3:=by have:=vI 0; omega
   refine tt ?_;apply bk <;> intro k2
   focus
    refine tw k2 ?_;apply bk <;> intro k3
    focus
     have k2p:=A7 k2
     have k3p:=A7 k3
     have w2 : IntKind.i64.wrap ((n : Int) - 1)=((n - 1 : Nat) : Int):=by rw [wrap_i64 (by omega) (by omega)]; omega
     refine tw k3 ?_;refine (AY B c.AR).go hs o fun r s H _ ⟨x,e,x0,x1,_⟩ hs o=>?_;subst e
     have gK:=x1 (by omega)
     obtain ⟨x,rfl⟩ : ∃ n : Nat,x=n:=⟨_,(Int.toNat_of_nonneg x0).symm⟩;clear x0 x1
     have Pp : x<f.A4.length:=by omega
     have rp:=hzf x Pp
     have gY : H.get Ln=some (.cells 7 f.cells 0):=o.get (Ln,_) (by simp);refine tt ?_;refine Al gY (by simp [SF.cells]) (tt ?_);refine ⟨Pp, ?_⟩;apply bk <;> intro k4
     ·have k4p:=A7 k4;refine tt ?_;refine ⟨by omega,⟨_,_,o.tl.h0⟩,Al o.tl.h0 (by omega) ?_⟩;refine tt ?_;refine ⟨⟨_,_,gY⟩,Al gY (by simp [SF.cells]) ?_⟩;refine tt ?_;refine ⟨Pp,⟨_,_,gY⟩,Al gY (by simp [SF.cells]) ?_⟩;refine tt ?_;refine ⟨Pp, ?_⟩;refine (AY B _).FU hs o fun r s H _ ⟨a,e,a0,a1,_⟩ hs o hz=>⟨hz, ?_⟩;subst e
      have ha1:=a1 (by omega);refine tt ?_;refine (AY B _).FU hs o fun r s H _ ⟨b,e,b0,b1,_⟩ hs o hz=>⟨hz, ?_⟩;subst e
      have jt:=b1 (by omega);refine tt ?_
      have o : AB H0 H ((Ed,.cells 1 Xs 0)::(ob++[(id,s.obj),(Ln,.cells 7 f.cells 0),(F8,.cells 7 z7 0)])):=o.pm;refine HP o hR (by omega) [a,b] rfl (by show (PP.getD _ default).length+1≤AK; have:=vI x; simp only [AK]; omega) fun X' o' H T7 hR o=>?_;try simp only [go_sem,↓reduceIte,reduceEqDiff,reduceAdd,reduceMul,reduceLeDiff,reduceLT,AV.cells_one T7]
      refine ⟨by omega,Aq o (by omega) rfl (by simp only [Bu,CZ]; exact ⟨T7,trivial⟩) fun H o=>?_⟩;simp only [Fw,Ht] at o;refine tw w2 ?_;refine CY (n - 1) (s,(Xs.set x X',PP.set x (PP.getD x default++[[a,b]]),o'),n - 1) (by omega) ⟨rfl,hs,hR,ke.add Pp ⟨a0,ha1⟩ ⟨b0,jt⟩,fun y=>?_,(by simp only [SF.cells] at o; exact o.pm)⟩ rfl
      show ((PP.set x (PP.getD x default++[[a,b]])).getD y default).length+(n - 1)≤3
      rw [FC _ _ (by omega)]
      have:=vI y
      split
      ·rename_i e; subst e; rw [List.length_append,List.length_singleton]; omega
      ·omega
     ·refine tw w2 ?_;exact CY (n - 1) (s,(Xs,PP,ob),n - 1) (by omega) ⟨rfl,hs,hR,ke,fun x=>by have:=vI x; show (PP.getD x default).length+(n - 1)≤3; omega,o⟩ rfl
    refine tw k3 ?_
   rotate_left 1
   focus
    refine tw k2 ?_
   all_goals
    have o : AB H0 H ((Ed,.cells 1 Xs 0)::(ob++[(id,s.obj),(Ln,.cells 7 f.cells 0),(F8,.cells 7 z7 0)])):=o.pm;refine Cy hR [] H o fun H o=>AX ?_;rw [List.nil_append] at o
    have o : AB H0 H ((Ed,.cells 1 (PP.map BD) 0)::[(id,s.obj),(Ln,.cells 7 f.cells 0),(F8,.cells 7 z7 0)]):=o;refine tt ?_;refine Ak (f:=BD) o (by omega) fun H o=>tt ?_;refine AZ o.tl (by simp [SF.cells]) (tt ?_);refine (TM B f c hc hf PP ke).go fun r Uy ⟨CC,f2,e,NV,hQ⟩=>?_;subst e
    have G7:=AL (Uy.agg (c:=iL f2.A4) (by simp [SF.cells]));simp only [AK] at G7;clear Uy;refine tt ?_;refine Aq o.swap (by simp [SF.cells]) (by (try simp only [go_sem]); (try simp)) (by first | (simp only [go_sem]; done) | ((try simp only [go_sem]); simp [AV.one,EJ])) fun H o=>?_;have o:=s2 o;refine tt ?_;refine AD [0,2,4,6,7,10] (G:=Bool) (fun k b=>[(14,some (.bool b)),(15,some (.int .i64 (k : Int)))]) (fun k b H=>(b=true→∀ i : Nat,i<k→f2.A4.getD i default≤size)∧AB H0 H [(Ln,AF.cells 7 f2.cells 0),(id,s.obj),(F8,AF.cells 7 z7 0)]) f2.A4.length true ⟨fun _ i h=>absurd h (Nat.not_lt_zero i),o⟩ rfl ?_;clear o
    rintro q sm H hq ⟨Kl,o⟩
    replace o : AB H0 H [(Ln,.cells 7 f2.cells 0),(id,s.obj),(F8,.cells 7 z7 0)]:=o;refine tt ?_;refine AN o (by simp [SF.cells]) (tt ?_);apply bk <;> intro j1
    ·have j1p:=A7 j1
     have w3:=ws q;refine tt ?_
     cases sm
     ·refine tw w3 ?_;exact A5 false (by omega) ⟨fun h=>absurd h (by simp),o⟩ rfl
     ·refine tt ?_;refine AN o (by simp [SF.cells]) (tt ?_);refine ⟨j1p, ?_⟩;refine tw w3 ?_;exact A5 _ (by omega) ⟨fun h=>AG (Kl rfl) (by simpa using h),o⟩ rfl
    ·have j1p:=A9 j1;refine tt ?_
     cases sm
     ·refine tw w1 ?_;exact A5 s (by omega) ⟨hs,o.tl⟩ rfl
     ·refine tt ?_;refine AZ o (by simp [SF.cells]) (tt ?_);refine sw (o.pull [_,_]) fun H o=>tt ?_
      have hr:=o.rc 7 0 (by simp);simp only [List.drop_zero] at hr;rw [hr]
      have hle : ∀ y,y∈f2.A4→y≤size:=fun y hy=>by
       obtain ⟨i,hi,rfl⟩:=AE.mp hy;exact Kl rfl i (by omega)
      have Pz:=hQ.al
      have Pj:=hf.al;exact Az ⟨f2,rfl,hQ.sh.trans hf.sh,by omega,fun h16=>⟨Xy.is (os:=os) hc (by rw [← hfq]; exact NV.toClsOk) (fun x hx=>NV.ct x (by rw [← NV.len]; exact hx)) (by rw [← hfq]; exact hQ) fun y hy=>by have:=hle y hy; omega,fun y hy=>by have:=hle y hy; omega⟩⟩ hs (o.pull [_,_])
 ·have AU:=A9 h1;refine tt ?_
  have hw : IntKind.i64.wrap ((if false=true then if 2 > size then 2 else size else if 2<size then 2 else size)+1)=min size 2+1:=by
   rw [if_neg (by decide)]
   split <;> rw [wrap_i64 (by omega) (by omega)] <;> omega
  rw [hw];refine (AY B _).go hs o fun r s H _ ⟨v,e,v0,v1,_⟩ hs o=>?_;subst e
  have hv:=v1 (by omega);refine tt ?_;refine ⟨_,(Oj B c hc.1 v ⟨v0,by omega⟩).run,tt ?_⟩;refine sw o.swap fun H o=>tt ?_
  have hr:=o.rc 7 0 (by simp);simp only [List.drop_zero] at hr;rw [hr]
  obtain ⟨w,rfl⟩ : ∃ w : Nat,v=w:=⟨_,(Int.toNat_of_nonneg v0).symm⟩
  exact Az ⟨D7 c w,rfl,rfl,by simp [D7]; omega,fun h16=>⟨ZD hc (by omega),fun y hy=>by
   simp only [D7,List.mem_replicate,List.mem_map] at hy; omega⟩⟩ hs o.swap
theorem W0 (B : Nat) (c : B0) (hc : c.Is) (size : Int) (KA : 0≤size∧size≤1000) : Rd B 196 [.agg c.cells,iI size] (wE c):=fun id s H0 H hs o=>(J0 B c hc size KA id s H0 H hs o).mono fun r H' ⟨⟨f,e,h1,h2,_⟩,h⟩=>⟨⟨f,e,h1,h2⟩,h⟩
end Go.Proofs.Shf
namespace Go.Shf
open Go.AW
theorem B0.Shape.sh {c : B0} (h : c.Shape) : c.Sh 40:=⟨by have:=h.o; omega,h.il,h.m,h.He,h.cl,h.row⟩
end Go.Shf
namespace Go.Proofs.Shf
open Go.AW Go.Proofs Go.Shf
theorem cC (i : Decidable True) : @decide True i=true:=decide_eq_true trivial
def OFb (f : SF) (p : Ob) (X : AV) : Prop:=∃ z d Xs ob,X=.agg [iI f.shape.AR,iL f.shape.AH,iL f.shape.to,iL f.shape.Aw,BD f.shape.comp,.buf z f.A4.length,.buf d Xs.length]∧Ez iI Xs f.Aa ob ∧
 p=(z,.cells 1 (f.A4.map iI) 0)::(d,.cells 1 Xs 0)::ob
theorem WQ (B : Nat) (f : SF) : IX Tryz.prog B 182 [.agg f.cells] (OFb f):=by
 refine ⟨fun H0=>xO.go fun _=>?_⟩
 have o : AB H0 H0 []:=.nil _;refine tt ?_;refine nb o fun id H o=>tt ?_;refine ⟨_,(EX B f.shape).run,tt ?_⟩;refine IX.go' (FA B f.A4) o fun X1 p1 H ⟨z,e1,e2⟩ o hs=>⟨hs, ?_⟩;subst e1 e2;refine tt ?_;refine IX.go' (Iq B f.Aa) o fun X1 p1 H ⟨d,Xs,ob,e1,h,e2⟩ o hs=>⟨hs, ?_⟩;subst e1 e2;refine tt ?_
 have o : AB H0 H ((id,AF.cells 7 [.int .i64 0,.A1,.A1,.A1,.A1,.A1,.A1] 0)::(z,AF.cells 1 (f.A4.map iI) 0)::(d,AF.cells 1 Xs 0)::ob):=o.pm;refine sw o fun H o=>tt ?_
 have hr:=o.rc 7 0 (by simp);simp only [List.drop_zero] at hr;rw [hr];exact ⟨H,.refl H,_,⟨z,d,Xs,ob,rfl,h,rfl⟩,o.tl⟩
theorem xK {F : Env→AA→Prop} {σ : Env} {H0 H : AA} {l : Ob} {id fr : Nat} {c : B0} {z d : Nat} {S : List Int} {Xs : List AV} {As : List (List Int)} {ob : Ob} (h : Ez iI Xs As ob)
  (o : AB H0 H ((id,.cells 7 [iI c.AR,iL c.AH,iL c.to,iL c.Aw,BD c.comp,.buf z S.length,.buf d Xs.length] fr)::(z,.cells 1 (S.map iI) 0)::(d,.cells 1 Xs 0)::(ob++l)))
  (hk : ∀ H',AB H0 H' ((id,.cells 7 (SF.cells ⟨c,S,As⟩) fr)::l)→Gb F σ H') : Gb F σ H:=by
 have hl:=h.len
 have od : AB H0 H ((d,.cells 1 Xs 0)::(ob++((id,.cells 7 [iI c.AR,iL c.AH,iL c.to,iL c.Aw,BD c.comp,.buf z S.length,.buf d Xs.length] fr)::(z,.cells 1 (S.map iI) 0)::l))):=o.pm;refine Cy h [] H od fun H o=>?_;simp only [List.nil_append] at o;rw [hl] at o
 have o : AB H0 H ((id,.cells 7 [iI c.AR,iL c.AH,iL c.to,iL c.Aw,BD c.comp,.buf z S.length,.buf d As.length] fr)::(z,.cells 1 (S.map iI) 0)::(d,.cells 1 (As.map iL) 0)::l):=o.pm;refine B7 5 o rfl rfl fun H o=>?_;have o:=s1 o;refine B7 6 o rfl rfl fun H o=>?_;have o:=s1 o;exact hk H o
@[go_sem] def ED (Ch : Nat) (c : B0) (z : Nat) (S : List Int) (d : Nat) (Xs : List AV) (l : Ob) : Ob :=
 (Ch,.cells 7 [iI c.AR,iL c.AH,iL c.to,iL c.Aw,BD c.comp,.buf z S.length,.buf d Xs.length] 0)::(z,.cells 1 (S.map iI) 0)::(d,.cells 1 Xs 0)::l
theorem Vf (B : Nat) (f : SF) (hc : f.shape.Shape) (hA40 : f.Aa.length≤40) : Rd B 235 [.agg f.cells] AnyF:=by
 intro id s H0 H hs o
 obtain ⟨c,S,A⟩:=f;dsimp only at hA40;refine yX.go fun Gc=>?_
 have G7:=AL (Gc.2.1.agg (c:=iL S) (by simp [SF.cells]))
 have gP:=AL (Gc.2.1.agg (c:=BD A) (by simp [SF.cells]));simp only [AK] at G7 gP;clear Gc;refine tt ?_;refine nb o fun Ch H o=>tt ?_;refine nb o fun BN H o=>tt ?_;refine AZ o.tl (by simp) (tt ?_);refine IX.go' (WQ B ⟨c,S,A⟩) o fun X1 p1 H ⟨z,d,Xs,ob,e1,hX,e2⟩ o _=>?_;subst e1 e2
 have JN:=hX.len;simp only at hX JN;refine tt ?_
 have o : AB H0 H ((Ch,AF.cells 7 [iI c.AR,iL c.AH,iL c.to,iL c.Aw,BD c.comp,iL S,BD A] 0)::(z,.cells 1 (S.map iI) 0)::(d,.cells 1 Xs 0)::(ob++[(id,s.obj),(BN,AF.cells 7 [.int .i64 0,.A1,.A1,.A1,.A1,.A1,.A1] 0)])):=o.pm;refine sw o fun H o=>tt ?_
 have F3 : ∀ {H : AA} {s : Src} {Xs : List AV} {ob : Ob} {c : B0} {z d : Nat} {S : List Int},AB H0 H (ED Ch c z S d Xs (ob++[(id,s.obj),(BN,AF.cells 7 [.int .i64 0,.A1,.A1,.A1,.A1,.A1,.A1] 0)])) →
   AB H0 H ((id,s.obj)::ED Ch c z S d Xs (ob++[(BN,AF.cells 7 [.int .i64 0,.A1,.A1,.A1,.A1,.A1,.A1] 0)])):=by
  intro H s Xs ob c z d S o;unfold ED at o ⊢;exact o.pm
 have o:=F3 (by unfold ED; exact o);refine (AY B 5).go hs o fun r s H _ ⟨v,e,v0,v1,_⟩ hs o=>?_;subst e;unfold ED at o;refine tt ?_
 have XH : ∀ {c' : B0} {z' d' : Nat} {S' : List Int} {Xs' : List AV} {A' : List (List Int)} {ob' : Ob} {F : Env→AA→Prop} {σ : Env} {H : AA} {s : Src},Ez iI Xs' A' ob' →
   AB H0 H ((id,s.obj)::ED Ch c' z' S' d' Xs' (ob'++[(BN,AF.cells 7 [.int .i64 0,.A1,.A1,.A1,.A1,.A1,.A1] 0)])) →
   (∀ H',AB H0 H' ((Ch,.cells 7 (SF.cells ⟨c',S',A'⟩) 0)::[(id,s.obj),(BN,AF.cells 7 [.int .i64 0,.A1,.A1,.A1,.A1,.A1,.A1] 0)])→F σ H')→Gb F σ H:=by
  intro c' z' d' S' Xs' A' ob' F σ H s hR o hk;unfold ED at o
  have od : AB H0 H ((Ch,.cells 7 [iI c'.AR,iL c'.AH,iL c'.to,iL c'.Aw,BD c'.comp,.buf z' S'.length,.buf d' Xs'.length] 0)::(z',.cells 1 (S'.map iI) 0)::(d',.cells 1 Xs' 0)::(ob'++[(id,s.obj),(BN,AF.cells 7 [.int .i64 0,.A1,.A1,.A1,.A1,.A1,.A1] 0)])):=o.pm;exact xK hR od fun H o=>AX (hk H o)
 apply bk <;> intro h0
 focus
  refine tt ?_;refine AZ o.tl (by simp) (tt ?_);refine (PG B 40 (by omega) c (show c.Shape from hc).sh).go hs o fun r s H _ ⟨c2,e⟩ hs o=>?_;subst e;refine tt ?_;refine sw o.swap fun H o=>?_
  have o : AB H0 H ((id,s.obj)::ED Ch c2 z S d Xs (ob++[(BN,AF.cells 7 [.int .i64 0,.A1,.A1,.A1,.A1,.A1,.A1] 0)])):=by unfold ED; exact o.swap
  refine tt ?_;refine XH hX o fun H o=>?_
 rotate_left 1
 focus
  refine tt ?_;apply bk <;> intro h1
  focus
   refine tt ?_;refine AN o.tl (by simp) (tt ?_);apply bk <;> intro h2
   focus
    have Ah:=A7 h2;refine tt ?_
    have Zp:=o.tl.h0;simp only at Zp;refine ⟨⟨_,_,Zp⟩,Al Zp (by simp) ?_⟩;refine tt ?_;refine ⟨⟨_,_,Zp⟩,Al Zp (by simp) ?_⟩;refine tt ?_;refine (AY B _).FU hs o fun r s H _ ⟨i,e,i0,i1,_⟩ hs o hz=>⟨hz, ?_⟩;subst e
    have hi:=i1 (by omega);refine tt ?_;refine (KW B [-1,0,1,2,17] (by simp)).FU hs o fun r s H _ ⟨y,e,_⟩ hs o hz=>⟨hz, ?_⟩;subst e;refine tt ?_;refine ⟨⟨i0,by omega⟩, ?_⟩;refine C4 (f:=iI) y (o.pull [_,_]) rfl (by omega) fun H o=>?_
    have o : AB H0 H ((id,s.obj)::ED Ch c z (S.set i.toNat y) d Xs (ob++[(BN,AF.cells 7 [.int .i64 0,.A1,.A1,.A1,.A1,.A1,.A1] 0)])):=by unfold ED; rw [List.length_set]; exact o.pm
    refine tt ?_;refine XH hX o fun H o=>?_
   rotate_left 1
   focus
    have o : AB H0 H ((id,s.obj)::ED Ch c z S d Xs (ob++[(BN,AF.cells 7 [.int .i64 0,.A1,.A1,.A1,.A1,.A1,.A1] 0)])):=by unfold ED; exact o
    refine tt ?_;refine XH hX o fun H o=>?_
  rotate_left 2
  focus
   have Nd:=A9 h0
   have AU:=A9 h1
   have v5:=v1 (by omega)
   have c32 : decide ((3 : Int)=2)=false:=rfl
   have c42 : decide ((4 : Int)=2)=false:=rfl
   have c43 : decide ((4 : Int)=3)=false:=rfl
   obtain rfl | rfl | rfl : v=2∨v=3∨v=4:=by omega
   rotate_left 2
   focus
    try simp only [go_sem,↓reduceIte,reduceEqDiff,reduceAdd,reduceMul,reduceLeDiff,reduceLT,c42,c43,cC]
    refine AN o.tl (by simp) (tt ?_);refine Af o fun Qc H o=>tt ?_
    have o : AB H0 H ((d,.cells 1 Xs 0)::((Qc,.cells 1 [] 0)::(id,s.obj)::(Ch,.cells 7 [iI c.AR,iL c.AH,iL c.to,iL c.Aw,BD c.comp,.buf z S.length,.buf d Xs.length] 0)::(z,.cells 1 (S.map iI) 0)::(ob++[(BN,AF.cells 7 [.int .i64 0,.A1,.A1,.A1,.A1,.A1,.A1] 0)]))):=o.pm;refine Na o rfl rfl rfl (by simp only [AK]; omega) fun d H o=>tt ?_;refine sw (o.pull [_,_,_]) fun H o=>?_
    have Wx:=hX.XX (p:=[(Qc,.cells 1 [] 0)]) (X:=.buf Qc 0) (A:=[]) (.inr ⟨Qc,rfl,rfl⟩)
    have o : AB H0 H ((id,s.obj)::ED Ch c z S d (Xs++[.buf Qc 0]) ((ob++[(Qc,.cells 1 [] 0)])++[(BN,AF.cells 7 [.int .i64 0,.A1,.A1,.A1,.A1,.A1,.A1] 0)])):=by
     unfold ED;rw [List.length_append,List.length_singleton];exact o.pm
    refine tt ?_;refine XH Wx o fun H o=>tt ?_;refine AZ o (by simp [SF.cells]) (tt ?_);refine sw (o.pull [_,_]) fun H o=>tt ?_
    have hr:=o.rc 7 0 (by simp);simp only [List.drop_zero] at hr;rw [hr];exact Az ⟨⟨_,_,_⟩,rfl⟩ hs (o.pull [_,_])
   all_goals
    try simp only [go_sem,↓reduceIte,reduceEqDiff,reduceAdd,reduceMul,reduceLeDiff,reduceLT,c32,cC]
    refine AN o.tl (by simp) (tt ?_);refine (AY B _).go hs o fun r s H _ ⟨a,e,a0,a1,a2⟩ hs o=>?_;subst e
    obtain ⟨a,rfl⟩ : ∃ n : Nat,a=n:=⟨_,(Int.toNat_of_nonneg a0).symm⟩;clear a0 a2
    have Zp:=o.tl.h0;simp only at Zp
    have IJ : H.get d=some (.cells 1 Xs 0):=o.get (d,.cells 1 Xs 0) (by simp);refine tt ?_;refine Al Zp (by simp) (tt ?_);apply bk <;> intro k1
    focus
     have k1p:=A7 k1
     have ha:=a1 (by omega)
     have hi : a<Xs.length:=by omega
     obtain ⟨pr,rr,_,hLs,_⟩:=hX.split a hi
     have hlr:=hLs.FF;refine tw k1 ?_;refine Al Zp (by simp) (tt ?_);refine ⟨hi,Al IJ hi ?_⟩;refine tw hlr ?_;apply bk <;> intro k2
     focus
      have k2p:=A7 k2
      obtain ⟨BW,er,Ik⟩:=hX.row hi (by omega);refine tw k2 ?_;refine ⟨⟨_,_,Zp⟩,Al Zp (by simp) ?_⟩;refine tt ?_;refine ⟨hi,⟨_,_,IJ⟩,Al IJ hi ?_⟩;refine tt ?_;refine ⟨⟨_,_,Zp⟩,Al Zp (by simp) ?_⟩;refine tt ?_;refine ⟨hi,⟨_,_,IJ⟩,Al IJ hi ?_⟩;rw [er];refine tt ?_;refine (AY B _).FU hs o fun r s H _ ⟨i,e,i0,i1,_⟩ hs o hz=>⟨hz, ?_⟩;subst e
      have XI:=i1 (by omega);refine (AY B _).FU hs o fun r s H _ ⟨y1,e,_⟩ hs o hz=>⟨hz, ?_⟩;subst e;refine (AY B _).FU hs o fun r s H _ ⟨y2,e,_⟩ hs o hz=>⟨hz, ?_⟩;subst e;refine tt ?_;refine ⟨by omega, ?_⟩
      generalize IntKind.i64.wrap (y1 - _)=y3;refine ⟨⟨i0,by omega⟩, ?_⟩
      have od : AB H0 H ((d,.cells 1 Xs 0)::(ob++[(id,s.obj),(Ch,.cells 7 [iI c.AR,iL c.AH,iL c.to,iL c.Aw,BD c.comp,.buf z S.length,.buf d Xs.length] 0),(z,.cells 1 (S.map iI) 0),(BN,AF.cells 7 [.int .i64 0,.A1,.A1,.A1,.A1,.A1,.A1] 0)])):=o.pm;refine Ik od i.toNat (by omega) y3 rfl fun H ob' Jw o=>?_
      have o : AB H0 H ((id,s.obj)::ED Ch c z S d Xs (ob'++[(BN,AF.cells 7 [.int .i64 0,.A1,.A1,.A1,.A1,.A1,.A1] 0)])):=by unfold ED; exact o.pm
      refine tt ?_;refine XH Jw o fun H o=>?_
     rotate_left 1
     focus
      refine tw k2 ?_
      have o : AB H0 H ((id,s.obj)::ED Ch c z S d Xs (ob++[(BN,AF.cells 7 [.int .i64 0,.A1,.A1,.A1,.A1,.A1,.A1] 0)])):=by unfold ED; exact o
      refine XH hX o fun H o=>?_
    rotate_left 2
    focus
     refine tw k1 ?_
     have o : AB H0 H ((id,s.obj)::ED Ch c z S d Xs (ob++[(BN,AF.cells 7 [.int .i64 0,.A1,.A1,.A1,.A1,.A1,.A1] 0)])):=by unfold ED; exact o
     refine XH hX o fun H o=>?_
 all_goals
  refine tt ?_;refine AZ o (by simp [SF.cells]) (tt ?_);refine sw (o.pull [_,_]) fun H o=>tt ?_
  have hr:=o.rc 7 0 (by simp);simp only [List.drop_zero] at hr;rw [hr];exact Az ⟨⟨_,_,_⟩,rfl⟩ hs (o.pull [_,_])
theorem Kc (B : Nat) (c : B0) (size : Int) (KA : 0≤size∧size≤1000) : Rd B 154 [.agg c.cells,iI size] AnyF:=by
 intro id s H0 H hs o;refine zC.go fun _=>?_;refine tt ?_;refine nb o fun F8 H o=>tt ?_;refine (JG B c).go fun _=>tt ?_
 by_cases hc : c.Is
 ·rw [Ay hc];refine tt ?_;refine (W0 B c hc size KA).go hs o.swap fun r s H _ ⟨f,e,N8,Pj⟩ hs o=>?_;subst e;refine tt ?_;refine nb o fun Cv H o=>tt ?_;refine sw o fun H o=>tt ?_;refine (AY B 40).go hs o.swap fun r s H _ ⟨v,e,_⟩ hs o=>?_;subst e;refine tt ?_;apply bk <;> intro h1
  ·refine tt ?_;refine AZ o.tl (by simp) (tt ?_);refine (Vf B f (by rw [N8]; exact hc.1) Pj).go hs o fun r s H _ ⟨f2,e⟩ hs o=>?_;subst e;refine tt ?_;refine sw (o.pull [_,_]) fun H o=>tt ?_;refine AX ?_
   have hr:=o.rc 7 0 (by simp);simp only [List.drop_zero] at hr;refine tt ?_;rw [hr];exact Az ⟨f2,rfl⟩ hs o.swap
  ·refine tt ?_;refine AZ o.tl (by simp) (tt ?_);refine sw (o.pull [_,_]) fun H o=>tt ?_;refine AX ?_
   have hr:=o.rc 7 0 (by simp);simp only [List.drop_zero] at hr;refine tt ?_;rw [hr];exact Az ⟨f,rfl⟩ hs o.swap
 ·rw [Ab hc];refine tt ?_;refine sw o fun H o=>tt ?_;refine Vg 5 o rfl fun H o=>?_;have o:=s1 o;refine Vg 6 o rfl fun H o=>AX ?_;have o:=s1 o
  have hr:=o.rc 7 0 (by simp);simp only [List.drop_zero] at hr;refine tt ?_;rw [hr];exact Az ⟨⟨c,[],[]⟩,rfl⟩ hs o.swap
end Go.Proofs.Shf
namespace Go.AW
theorem L5 {P : Program} {B : Nat} {l : List Nat} {a b : SC} {Q : AQ} {σ : Env} {H : AA} (M : Env→AA→Prop) (h1 : FN P B a (zS l M Q) σ H) (h2 : ∀ σ' H',M σ' H'→FN P B b Q σ' H') : FN P B (.cut l a b) Q σ H:=⟨M,h1,h2⟩
end Go.AW
namespace Go.Proofs.Shf
open Go.AW Go.Proofs Go.Shf
theorem dTr' {p : Decidable True} : @decide True p=true:=@decide_eq_true True p trivial
theorem Wh (B : Nat) : Rd B 172 [] zN:=by
 intro id s H0 H hs o;refine zJ.go fun _=>?_;refine tt ?_;refine nb o fun ES H o=>tt ?_;refine (AY B 12).go hs o.swap fun r s H _ ⟨v,e,_⟩ hs o=>?_;subst e;refine tt ?_;apply bk <;> intro g1
 ·refine tt ?_;refine (Vq B).go hs o fun r s H _ ⟨j,e⟩ hs o=>?_;subst e;refine tt ?_;refine sw o.swap fun H o=>tt ?_;refine AX ?_
  have BZ:=o.rc 6 0 (by simp);simp only [List.drop_zero] at BZ;refine tt ?_;rw [BZ];refine tt ?_;exact Az ⟨j,rfl⟩ hs o.swap
 ·refine tt ?_;refine (I8 B 3 7).go hs o fun r s H _ ⟨c,e,_⟩ hs o=>?_;subst e;refine tt ?_;refine (Mn B c hs o).mono ?_
  rintro r H ⟨s,C,p,hs,⟨Ex,Xs,ob,rfl,hX,⟨jt,Zz⟩,rfl⟩,o⟩
  have JN:=hX.len;refine tt ?_
  have o : AB H0 H ((ES,AF.cells 6 [.int .i64 0,.A1,.A1,.A1,.A1,.A1] 0)::(id,s.obj)::(Ex,.cells 1 Xs 0)::ob):=o.pm;refine sw o fun H o=>tt ?_
  have od : AB H0 H ((Ex,.cells 1 Xs 0)::(ob++[(ES,Ip c (.buf Ex Xs.length)),(id,s.obj)])):=by
   simp only [Ip];exact o.pm
  refine Cy hX [] H od fun H o=>?_;simp only [List.nil_append] at o
  have o : AB H0 H ((ES,Ip c (.buf Ex Xs.length))::(Ex,.cells 1 (C.map (mL iL)) 0)::[(id,s.obj)]):=o.pm;simp only [Ip] at o;refine B7 (f:=mL iL) 5 o rfl JN fun H o=>AX ?_;have o:=s1 o
  have BZ:=o.rc 6 0 (by simp);simp only [List.drop_zero] at BZ;refine tt ?_;rw [BZ];refine tt ?_;exact Az ⟨⟨c,C⟩,rfl⟩ hs (o.pull [_])
theorem oV (f : SF) (V : List (List Int)) : ∃ a1 a2 a3 a4 a5 a6 a7 a8,JH f V=[a1,a2,a3,a4,a5,a6,a7,a8]∧∀ c,c∈[a1,a2,a3,a4,a5,a6,a7,a8]→c.one=true:=by
 unfold JH
 split
 ·exact ⟨_,_,_,_,_,_,_,_,rfl,by simp only [Bu,CZ]; exact ⟨rfl,rfl,rfl,rfl,rfl,rfl,rfl,rfl,trivial⟩⟩
 ·exact ⟨_,_,_,_,_,_,_,_,rfl,by simp only [Bu,CZ]; exact ⟨rfl,rfl,rfl,rfl,rfl,rfl,rfl,rfl,trivial⟩⟩
end Go.Proofs.Shf
namespace Go.Shf
open Go.AW
def On (f g : SF) (p : List (List Int)) (x : Nat) : Prop:=((p.getD x default).length : Int)=f.A4.getD x default∧∀ y,y∈p.getD x default→0≤y∧y<g.A4.getD x default
def JV (f g : SF) (p : List (List Int)) : Prop:=p.length=f.A4.length∧∀ x,x<p.length→On f g p x
def Qq (f g : SF) (p : List (List Int)) (a e : Nat) : Prop:=ix (ix p (f.shape.to.getD a default)) ((f.Aa.getD a default).getD e default)=ix (g.Aa.getD a default) ((ix p (f.shape.AH.getD a default)).getD e default)
def Y0 (f g : SF) (p : List (List Int)) : Prop:=∀ a,a<f.Aa.length→∀ e : Nat,e<(f.Aa.getD a default).length→Qq f g p a e
structure SM.Is (m : SM) : Prop where
 s : m.src.Is
 t : m.Bm.Is
 eq : m.src.shape=m.Bm.shape
 p : JV m.src m.Bm m.parts
 n : Y0 m.src m.Bm m.parts
structure eC (f g : SF) (p : List (List Int)) : Prop where
 sf : f.Shape
 sg : g.Shape
 eq : f.shape=g.shape
 po : JV f g p
structure SM.Shape (m : SM) : Prop where
 s : m.src.Is
 t : m.Bm.Is
 eq : m.src.shape=m.Bm.shape
 p : JV m.src m.Bm m.parts
theorem SF.Shape.sl' {f g : SF} (hf : f.Shape) (hg : g.Shape) (e : f.shape=g.shape) : g.A4.length=f.A4.length:=by
 have:=hf.sl; have:=hg.sl; rw [← e] at this; omega
theorem SM.Shape.d {m : SM} (h : m.Shape) : eC m.src m.Bm m.parts:=⟨h.s.1,h.t.1,h.eq,h.p⟩
theorem SM.VK {m : SM} : m.Is↔m.Shape∧Y0 m.src m.Bm m.parts:=⟨fun h=>⟨⟨h.s,h.t,h.eq,h.p⟩,h.n⟩,fun ⟨h,n⟩=>⟨h.s,h.t,h.eq,h.p,n⟩⟩
theorem eC.at {f g : SF} {p : List (List Int)} (h : eC f g p) {a e : Nat} (ha : a<f.Aa.length) (he : e<(f.Aa.getD a default).length) :
  (0≤f.shape.AH.getD a default∧(f.shape.AH.getD a default).toNat<p.length)∧(0≤f.shape.to.getD a default∧(f.shape.to.getD a default).toNat<p.length)∧a<g.Aa.length ∧
  e<(ix p (f.shape.AH.getD a default)).length∧(0≤(f.Aa.getD a default).getD e default∧((f.Aa.getD a default).getD e default).toNat<(ix p (f.shape.to.getD a default)).length) ∧
  (0≤(ix p (f.shape.AH.getD a default)).getD e default∧((ix p (f.shape.AH.getD a default)).getD e default).toNat<(g.Aa.getD a default).length):=by
 have Pz:=h.sf.al
 have XE:=h.sg.al
 have f1:=h.sf.is.1.QL (f:=a) (by omega)
 have f2:=h.sf.is.1.uX (f:=a) (by omega)
 have YX:=h.sf.is.1.il
 have Gd:=h.sf.sl
 have hp:=h.po.1
 have p1:=h.po.2 _ (show (f.shape.AH.getD a default).toNat<p.length by omega)
 have p2:=h.po.2 _ (show (f.shape.to.getD a default).toNat<p.length by omega)
 have a1:=h.sf.act a ha
 have a2:=h.sg.act a (by rw [XE,← h.eq]; omega)
 have a3:=a1.2 _ (AE.mpr ⟨e,he,rfl⟩);rw [← h.eq] at a2;simp only [On] at p1 p2;simp only [ix] at *
 have p3:=p1.2 ((p.getD (f.shape.AH.getD a default).toNat default).getD e default) (AE.mpr ⟨e,by omega,rfl⟩);refine ⟨⟨f1.1,by omega⟩,⟨f2.1,by omega⟩,by rw [XE,← h.eq]; omega,by omega,⟨a3.1,by omega⟩,p3.1,by omega⟩
end Go.Shf
namespace Go.Proofs.Shf
open Go.AW Go.Proofs Go.Shf
theorem Tp (B : Nat) (f g : SF) (p : List (List Int)) (hg : g.A4.length=f.A4.length) : PB B 201 [.agg f.cells,.agg g.cells,BD p] (.bool (dec (JV f g p))):=by
 refine ⟨fun H0=>xt.go fun ⟨_,_,hp,_⟩=>?_⟩
 have hl:=AL hp;simp only [AK] at hl;refine tt ?_;apply bk <;> intro h0
 ·refine tt ?_
  have Nd:=dd h0;exact A6 (by rw [Ab]; intro h; exact Nd (by rw [h.1])) (.refl _)
 have Nd:=dd h0
 have h0q : p.length=f.A4.length:=by omega
 refine tt ?_;refine AD [2,3,4] (fun k _=>[(7,some (.int .i64 (k : Int)))]) (fun k _ H=>H=H0∧∀ i,i<k→On f g p i) p.length () ⟨rfl,by simp⟩ rfl ?_
 rintro k _ H hk ⟨rfl,Aj⟩;refine tt ?_;apply bk <;> intro h1
 ·have AU:=dd h1
  have w1:=ws k;refine tt ?_;refine ⟨AU,by omega, ?_⟩;apply bn <;> intro h2
  rotate_left
  ·refine tw h2 ?_
   have Ah:=dd h2;exact A6 (by rw [Ab]; intro h; exact Ah (h.2 k AU).1) (.refl _)
  ·refine tw h2 ?_
   have Ah:=dd h2;refine ⟨by omega,AU,_,(HX B (p.getD k default) (g.A4.getD k default)).run,tt ?_⟩;apply bk <;> intro h3
   ·refine tt ?_
    have BB:=dd h3;exact A6 (by rw [Ab]; intro h; exact BB (h.2 k AU).2) (.refl _)
   ·refine tw w1 ?_
    have BB:=dd h3;exact A5 () (by omega) ⟨rfl,AG Aj ⟨Ah,BB⟩⟩ rfl
 ·refine tt ?_
  have AU:=dd h1;exact A6 (by rw [Ay]; exact ⟨h0q,fun x hx=>Aj x (by omega)⟩) (.refl _)
theorem jW (B : Nat) (m : SM) (hg : m.Bm.A4.length=m.src.A4.length) (hz : ∀ y,y∈m.Bm.A4→0≤y∧y<17) : PB B 260 [.ptr m.cells] (.bool (dec (JV m.src m.Bm m.parts))):=by
 refine ⟨fun H0=>zr.go fun ⟨hp,_⟩=>?_⟩
 have hl:=AL (hp.ptr (c:=BD m.parts) (by simp [SM.cells]));simp only [AK] at hl;refine tt ?_;apply bk <;> intro h0
 ·refine tt ?_
  have Nd:=dd h0;exact A6 (by rw [Ab]; intro h; exact Nd (by rw [h.1])) (.refl _)
 have Nd:=dd h0
 have h0q : m.parts.length=m.src.A4.length:=by omega
 refine tt ?_;refine AD [0,20,21] (fun k _=>[(22,some (.int .i64 (k : Int)))]) (fun k _ H=>H=H0∧∀ i,i<k→On m.src m.Bm m.parts i) m.parts.length () ⟨rfl,by simp⟩ rfl ?_
 rintro k _ H hk ⟨rfl,Aj⟩;refine tt ?_;apply bk <;> intro h1
 ·have AU:=dd h1
  have w1:=ws k;refine tt ?_
  have jH:=hz _ (AE.mpr ⟨k,by omega,rfl⟩);refine ⟨AU,by omega,by omega,_,(Np B (m.parts.getD k default) (m.src.A4.getD k default) (m.Bm.A4.getD k default) (by omega)).run,tt ?_⟩;apply bk <;> intro h3
  ·refine tt ?_
   have BB:=dd h3;exact A6 (by rw [Ab]; intro h; exact BB (h.2 k AU)) (.refl _)
  ·refine tw w1 ?_
   have BB:=dd h3;exact A5 () (by omega) ⟨rfl,AG Aj BB⟩ rfl
 ·refine tt ?_
  have AU:=dd h1;exact A6 (by rw [Ay]; exact ⟨h0q,fun x hx=>Aj x (by omega)⟩) (.refl _)
def qN (P : Prop) (H0 : AA) : Ap:=fun r H'=>H'=H0∧∃ a e : Int,r=.CK [.int .i64 a,.int .i64 e]∧(a<0↔P)
theorem NZ {P : Prop} {H0 H : AA} {a e : Int} (h : a<0↔P) (hs : H0.sub H) : Ig (qN P H0) (.CK [.int .i64 a,.int .i64 e]) H:=⟨H0,hs,rfl,a,e,rfl,h⟩
theorem NB (B : Nat) (f g : SF) (p : List (List Int)) (h : eC f g p) (H0 : AA) : CB B 202 [.agg f.cells,.agg g.cells,BD p] H0 (qN (Y0 f g p) H0):=by
 refine yh.go fun ⟨_,_,hp,_⟩=>?_
 have hl:=AL hp;simp only [AK] at hl
 have hm:=h.sf.is.1.m
 have Pz:=h.sf.al
 have Hg:=h.sf.is.1.He;refine tt ?_;refine AD [2,3,4] (fun k _=>[(8,some (.int .i64 (k : Int)))]) (fun k _ H=>H=H0∧∀ a,a<k→∀ e : Nat,e<(f.Aa.getD a default).length→Qq f g p a e) f.Aa.length () ⟨rfl,by simp⟩ rfl ?_
 rintro a _ H ha ⟨rfl,Aj⟩;refine tt ?_;apply bk <;> intro h1
 ·have AU:=dd h1
  have w1:=ws a
  have f1:=h.sf.is.1.QL (f:=a) (by omega)
  have YX:=h.sf.is.1.il
  have Gd:=h.sf.sl
  have a1:=(h.sf.act a AU).1
  have hz:=h.sf.sz _ (Bi (l:=f.A4) (i:=f.shape.AH.getD a default) (by omega));refine tt ?_;refine ⟨by omega,by omega, ?_⟩;refine AD [2,3,4,8,9,10] (fun k _=>[(11,some (.int .i64 (k : Int)))]) (fun k _ H'=>H'=H∧∀ e : Nat,e<k→Qq f g p a e) (f.Aa.getD a default).length () ⟨rfl,by simp⟩ rfl ?_
  rintro e _ H he ⟨rfl,E7⟩;refine tt ?_;refine ⟨by omega, ?_⟩;apply bk <;> intro h2
  ·have Ah:=dd h2
   have w2:=ws e
   have II:=h.at (a:=a) (e:=e) AU (by omega);refine tt ?_;refine ⟨by omega,by omega,by omega,by omega,by omega,by omega,by omega,by omega, ?_⟩;apply bk <;> intro h3
   ·refine tt ?_
    have BB:=dd h3;exact NZ ⟨fun e=>by omega,fun hn=>absurd (hn a AU e (by omega)) BB⟩ (.refl _)
   ·refine tw w2 ?_
    have BB:=dd h3;exact A5 () (by omega) ⟨rfl,AG E7 BB⟩ rfl
  ·refine tw w1 ?_
   have Ah:=dd h2;exact A5 () (by omega) ⟨rfl,AG Aj fun e he=>E7 e (by omega)⟩ rfl
 ·refine tt ?_
  have AU:=dd h1;exact NZ ⟨fun _ a ha e he=>Aj a (by omega) e he,fun _=>by omega⟩ (.refl _)
theorem Sm (B : Nat) (m : SM) (h : eC m.src m.Bm m.parts) (H0 : AA) : CB B 194 [.ptr m.cells] H0 (qN (Y0 m.src m.Bm m.parts) H0):=by
 refine c194.go fun ⟨hp,_⟩=>?_
 have hl:=AL (hp.ptr (c:=BD m.parts) (by simp [SM.cells]));simp only [AK] at hl
 have hm:=h.sf.is.1.m
 have Pz:=h.sf.al
 have Hg:=h.sf.is.1.He;refine tt ?_;refine AD [0,4,16] (fun k _=>[(17,some (.int .i64 (k : Int)))]) (fun k _ H=>H=H0∧∀ a,a<k→∀ e : Nat,e<(m.src.Aa.getD a default).length→Qq m.src m.Bm m.parts a e) m.src.Aa.length () ⟨rfl,by simp⟩ rfl ?_
 rintro a _ H ha ⟨rfl,Aj⟩;refine tt ?_;apply bk <;> intro h1
 ·have AU:=dd h1
  have w1:=ws a
  have a1:=(h.sf.act a (by omega)).1
  have f1:=h.sf.is.1.QL (f:=a) (by omega)
  have YX:=h.sf.is.1.il
  have Gd:=h.sf.sl
  have hz:=h.sf.sz _ (Bi (l:=m.src.A4) (i:=m.src.shape.AH.getD a default) (by omega));refine tt ?_;refine ⟨by omega, ?_⟩;refine AD [0,4,5,16,17,27,28] (fun k _=>[(29,some (.int .i64 (k : Int)))]) (fun k _ H'=>H'=H∧∀ e : Nat,e<k→Qq m.src m.Bm m.parts a e) (m.src.Aa.getD a default).length () ⟨rfl,by simp⟩ rfl ?_
  rintro e _ H he ⟨rfl,E7⟩;refine tt ?_;apply bk <;> intro h2
  ·have Ah:=dd h2
   have w2:=ws e
   have II:=h.at (a:=a) (e:=e) (by omega) (by omega);refine tt ?_;refine ⟨by omega, ?_⟩;refine ⟨by omega,by omega,by omega,by omega,by omega,by omega,by omega,by omega, ?_⟩;apply bk <;> intro h3
   ·refine tt ?_
    have BB:=dd h3;exact NZ ⟨fun e=>by omega,fun hn=>absurd (hn a (by omega) e (by omega)) BB⟩ (.refl _)
   ·refine tw w2 ?_
    have BB:=dd h3;exact A5 () (by omega) ⟨rfl,AG E7 BB⟩ rfl
  ·refine tw w1 ?_
   have Ah:=dd h2;exact A5 () (by omega) ⟨rfl,AG Aj fun e he=>E7 e (by omega)⟩ rfl
 ·refine tt ?_
  have AU:=dd h1;exact NZ ⟨fun _ a ha e he=>Aj a (by omega) e he,fun _=>by omega⟩ (.refl _)
theorem K6 (B : Nat) (f g : SF) : PB B 200 [.agg f.cells,.agg g.cells] (.bool (dec (f.Is∧g.Is∧f.shape=g.shape))):=by
 refine ⟨fun H0=>ue.go fun _=>tt ?_⟩;refine (OK B f).go fun _=>?_
 by_cases hf : f.Is
 ·rw [Ay hf];refine tt ?_;refine (OK B g).go fun _=>?_
  by_cases hg : g.Is
  ·rw [Ay hg];refine tt ?_;refine (Oh B f.shape g.shape).go fun _=>tt ?_;exact A6 (by congr 1; exact Bc ⟨fun h=>⟨hf,hg,h⟩,fun h=>h.2.2⟩) (.refl _)
  ·rw [Ab hg];refine tt ?_;exact A6 (by rw [Ab]; exact fun h=>hg h.2.1) (.refl _)
 ·rw [Ab hf];refine tt ?_;exact A6 (by rw [Ab]; exact fun h=>hf h.1) (.refl _)
theorem U2 (B : Nat) (m : SM) : PB B 193 [.ptr m.cells] (.bool (dec m.Shape)):=by
 refine ⟨fun H0=>vq.go fun _=>tt ?_⟩;refine ⟨_,(HA B [m.src,m.Bm]).run, ?_⟩
 by_cases hf : m.src.Is∧m.Bm.Is
 ·rw [Ay (by simpa using hf)];refine tt ?_;refine ⟨_,(Fe B m.src.shape m.Bm.shape).run, ?_⟩
  by_cases he : m.src.shape=m.Bm.shape
  ·rw [Ay he];refine tt ?_;refine ⟨_,(jW B m (hf.1.1.sl' hf.2.1 he) hf.2.1.sz).run,tt ?_⟩;exact A6 (by congr 1; exact Bc ⟨fun h=>⟨hf.1,hf.2,he,h⟩,fun h=>h.p⟩) (.refl _)
  ·rw [Ab he];refine tt ?_;exact A6 (by rw [Ab]; exact fun h=>he h.eq) (.refl _)
 ·rw [Ab (by simpa using hf)];refine tt ?_;exact A6 (by rw [Ab]; exact fun h=>hf ⟨h.s,h.t⟩) (.refl _)
theorem Hx (B : Nat) (m : SM) : PB B 110 [.ptr m.cells] (.bool (dec m.Is)):=by
 refine ⟨fun H0=>c110.go fun _=>tt ?_⟩;refine (U2 B m).go fun _=>?_
 by_cases h : m.Shape
 ·rw [Ay h];refine tn ?_
  refine (Sm B m h.d H0).J7 ?_
  rintro _ _ _ ⟨rfl,a,e,rfl,hk⟩;refine tt ?_;exact A6 (by rw [BO]; congr 1; exact Bc ⟨fun q=>SM.VK.mpr ⟨h,hk.mp q⟩,fun q=>hk.mpr q.n⟩) (.refl _)
 ·rw [Ab h];refine tn ?_
  exact A6 (by rw [Ab]; exact fun q=>h (SM.VK.mp q).1) (.refl _)
theorem UW (B : Nat) (m : SM) : PB B 115 [.agg m.cells] (.bool (dec m.Is)):=by
 refine ⟨fun H0=>c115.go fun _=>tt ?_⟩;refine (K6 B m.src m.Bm).go fun _=>?_
 by_cases hf : m.src.Is∧m.Bm.Is∧m.src.shape=m.Bm.shape
 ·rw [Ay hf]
  obtain ⟨h1,h2,he⟩:=hf;refine tn ?_
  refine (Tp B m.src m.Bm m.parts (h1.1.sl' h2.1 he)).go fun _=>?_
  by_cases h : JV m.src m.Bm m.parts
  ·rw [Ay h]
   have hs : m.Shape:=⟨h1,h2,he,h⟩;refine tn ?_
   refine (NB B m.src m.Bm m.parts hs.d H0).J7 ?_
   rintro _ _ _ ⟨rfl,a,e,rfl,hk⟩;refine tt ?_;exact A6 (by rw [BO]; congr 1; exact Bc ⟨fun q=>SM.VK.mpr ⟨hs,hk.mp q⟩,fun q=>hk.mpr q.n⟩) (.refl _)
  ·rw [Ab h];refine tn ?_
   exact A6 (by rw [Ab]; exact fun q=>h q.p) (.refl _)
 ·rw [Ab hf];refine tn ?_
  exact A6 (by rw [Ab]; exact fun q=>hf ⟨q.s,q.t,q.eq⟩) (.refl _)
theorem j9 {f : SF} {x : Int} {s t : List Int} (h : f.Shape) (hs : f.shape.Ax x s) (ht : NQ f s t) : ∀ y,y∈t→0≤y∧y<255:=fun y hy=>by
 obtain ⟨j,hj,rfl⟩:=AE.mp hy
 have aO : j<s.length:=by rw [← ht.len]; exact hj
 have h1:=ht.Nb j aO
 have h2:=(D0 h hs (i:=j) aO);rw [h2.1] at h2;omega
theorem Lc (B : Nat) (f g : SF) (h : f.Shape) (hg : g.Shape) (e : f.shape=g.shape) (p : List (List Int)) (m : Cz f g p) (V : List (List Int)) (c : BT f.shape V) (Bf : Bh f V) :
  PB B 116 [.agg f.shape.cells,BD V,.agg (CM f V),.agg (CM g V),BD p] (BD (Bb f g V p)):=by
 refine ⟨fun H0=>zK.go fun Gc=>?_⟩
 have hm:=h.is.1.m
 have Fh:=h.is.1.o
 have Hg:=h.is.1.He
 have G7:=h.sl
 have Wz:=c.len
 have Qb : (B9 f V).length=V.length:=by simp [B9]
 have hgll : (B9 g V).length=V.length:=by simp [B9]
 have Ko:=m.len;refine tt ?_;refine Ae iL (.nil _) fun Ed H o=>tt ?_
 refine AD [1,4,5,7,8] (G:=Nat) (fun k g=>[(11,some (.buf g k)),(12,some (.int .i64 (k : Int)))])
  (fun k id H=>AB H0 H [(id,.cells 1 (((List.range k).map (Cs f g V p)).map iL) 0)]) V.length Ed o rfl ?_
 clear o
 rintro k Ed H hk o
 replace o : AB H0 H [(Ed,.cells 1 (((List.range k).map (Cs f g V p)).map iL) 0)]:=o;refine tt ?_;apply bk <;> intro h1
 ·have AU:=A7 h1
  have w:=ws k
  have EZ:=c.sv k (by omega)
  have sE:=EZ.len
  have aN : (B9 f V).getD k default=Au f V k:=by rw [B9,AS _ _ (by omega)]
  have hgk : (B9 g V).getD k default=Au g V k:=by rw [B9,AS _ _ (by omega)]
  have sK : (Au f V k).length≤16:=Bf k (by omega);refine tt ?_;refine Ae iI o fun Jv H o=>tt ?_
  refine AD [1,4,5,7,8,11,12] (G:=Nat × List Int) (fun i g=>[(13,some (.buf g.1 g.2.length)),(14,some (.int .i64 (i : Int)))])
   (fun i r H=>r.2=((Au f V k).take i).map (fun t=>indexOf (Au g V k) (D9 f.shape p (V.getD k default) t))∧AB H0 H [(r.1,.cells 1 (r.2.map iI) 0),(Ed,.cells 1 (((List.range k).map (Cs f g V p)).map iL) 0)]) (Au f V k).length (Jv,[]) ⟨rfl,o⟩ rfl ?_
  clear o
  rintro i ⟨Jv,row⟩ H hi ⟨B4,o⟩;dsimp only at B4 o
  have Lu : row.length=i:=by rw [B4,List.length_map,List.length_take]; omega
  refine tt ?_;refine ⟨by omega, ?_⟩;rw [aN];apply bk <;> intro h2
  ·have Ah:=A7 h2
   have w2:=ws i
   have N6:=((Ba h EZ).mem _).mp (show (Au f V k).getD i default∈BQ f (V.getD k default) from AE.mpr ⟨i,Ah,rfl⟩)
   generalize ht : (Au f V k).getD i default=t at *;refine tt ?_;refine Ae iI o fun NU H o=>tt ?_
   refine AD [1,4,5,7,8,11,12,13,14] (G:=Nat × List Int) (fun n g=>[(15,some (.buf g.1 g.2.length)),(16,some (.int .i64 (n : Int)))])
    (fun n r H=>r.2=(List.range n).map (fun j=>ix (ix p (ix f.shape.to ((V.getD k default).getD j default))) (t.getD j default))∧AB H0 H [(r.1,.cells 1 (r.2.map iI) 0),(Jv,.cells 1 (row.map iI) 0),(Ed,.cells 1 (((List.range k).map (Cs f g V p)).map iL) 0)]) (V.getD k default).length (NU,[]) ⟨rfl,o⟩ rfl ?_
   clear o
   rintro n ⟨NU,fam⟩ H hn ⟨Gj,o⟩;dsimp only at Gj o
   have je : fam.length=n:=by rw [Gj]; simp
   refine tt ?_;refine ⟨AU, ?_⟩;apply bk <;> intro h3
   ·have BB:=A7 h3
    have w3:=ws n
    have ha:=EZ.arr (AE.mpr ⟨n,BB,rfl⟩)
    have Cu:=h.is.1.C7 ha.1.2
    have th:=(m.pl _ Cu).1
    have hrn:=N6.Nb n BB
    have Hg:=N6.len;refine tt ?_;rw [aN,ht];refine ⟨AU,BB,by omega,by omega,by omega,by omega,by omega,by omega, ?_⟩;refine Ac (f:=iI) (ix (ix p (ix f.shape.to ((V.getD k default).getD n default))) (t.getD n default)) o rfl rfl (by simp only [AK]; omega) fun NU H o=>?_
    have e8 : fam++[ix (ix p (ix f.shape.to ((V.getD k default).getD n default))) (t.getD n default)]=(List.range (n+1)).map (fun j=>ix (ix p (ix f.shape.to ((V.getD k default).getD j default))) (t.getD j default)):=by
     rw [Gj,List.range_succ]; simp [-List.getD_eq_getElem?_getD]
    refine tw w3 ?_;exact A5 (_,_) (by omega) ⟨e8,o⟩ rfl
   ·have BB:=A9 h3
    have gT : fam=D9 f.shape p (V.getD k default) t:=by rw [Gj,D9,show n=(V.getD k default).length by omega]
    refine tt ?_;refine Ak o rfl fun H o=>tt ?_;refine ⟨by omega, ?_⟩;rw [hgk];refine (Hm B (Au g V k) fam).go fun _=>tt ?_;rw [gT];refine Ac (f:=iI) (indexOf (Au g V k) (D9 f.shape p (V.getD k default) t)) o rfl rfl (by simp only [AK]; omega) fun Jv H o=>?_
    have e8 : row++[indexOf (Au g V k) (D9 f.shape p (V.getD k default) t)]=((Au f V k).take (i+1)).map (fun t=>indexOf (Au g V k) (D9 f.shape p (V.getD k default) t)):=by
     rw [B4,BS _ _ Ah,ht]
    refine tw w2 ?_;exact A5 (_,_) (by omega) ⟨e8,o⟩ rfl
  ·have Ah:=A9 h2
   have Dr : row=Cs f g V p k:=by rw [B4,List.take_of_length_le (by omega)]; rfl
   refine tt ?_;refine Ak o rfl fun H o=>tt ?_;refine Ac (f:=iL) row o rfl (by simp) (by simp only [List.length_map,List.length_range,AK]; omega) fun HC H o=>?_
   have e7 : (List.range k).map (Cs f g V p)++[row]=(List.range (k+1)).map (Cs f g V p):=by rw [List.range_succ,List.map_append,Dr]; rfl
   rw [e7] at o ⊢;refine tw w ?_;exact A5 HC (by omega) o (by simp)
 ·have AU:=A9 h1
  obtain rfl : k=V.length:=by omega
  refine tt ?_;refine Ak o (by simp) fun H o=>tt ?_;exact A6 rfl o.sub
theorem Uq (B : Nat) (f g : SF) (h : f.Shape) (hg : g.Shape) (e : f.shape=g.shape) (p : List (List Int)) (m : Cz f g p) (V : List (List Int)) (c : BT f.shape V) (Bf : Bh f V) (gv : Bh g V) :
  PB B 113 [Eu f V,Eu g V,BD p] (BD (Bb f g V p)):=by
 refine ⟨fun H0=>yU.go fun Gc=>?_⟩
 have hm:=h.is.1.m
 have Fh:=h.is.1.o
 have Hg:=h.is.1.He
 have G7:=h.sl
 have Wz:=c.len
 have Qb : (B9 f V).length=V.length:=by simp [B9]
 have hgll : (B9 g V).length=V.length:=by simp [B9]
 have Ko:=m.len
 have c':=c;rw [e] at c';refine tt ?_;refine Ae iL (.nil _) fun Ed H o=>tt ?_
 refine AD [0,1,2,7,25,26] (G:=Nat) (fun k g=>[(8,some (.buf g k)),(27,some (.int .i64 (k : Int)))])
  (fun k id H=>AB H0 H [(id,.cells 1 (((List.range k).map (Cs f g V p)).map iL) 0)]) V.length Ed o (by rw [Qb]; rfl) ?_
 clear o
 rintro k Ed H hk o
 replace o : AB H0 H [(Ed,.cells 1 (((List.range k).map (Cs f g V p)).map iL) 0)]:=o;refine tt ?_;apply bk <;> intro h1
 ·have AU:=A7 h1;rw [Qb] at AU
  have w:=ws k
  have EZ:=c.sv k (by omega)
  have XL:=c'.sv k (by omega)
  have sE:=EZ.len
  have aN : (B9 f V).getD k default=Au f V k:=by rw [B9,AS _ _ (by omega)]
  have hgk : (B9 g V).getD k default=Au g V k:=by rw [B9,AS _ _ (by omega)]
  have sK : (Au f V k).length≤16:=Bf k (by omega)
  have hgkl : (Au g V k).length≤16:=gv k (by omega)
  have HK : (Au g V k).Nodup:=(Ba hg XL).nodup
  have Pm : ∀ t,t∈Au g V k→∀ y,y∈t→0≤y∧y<255:=fun t ht=>j9 hg XL (((Ba hg XL).mem t).mp ht);refine tt ?_;refine ⟨by omega, ?_⟩;refine Ae iI o fun Jv H o=>tt ?_;rw [aN]
  refine AD [0,1,2,7,8,9,25,26,27,33,34] (G:=Nat × List Int) (fun i g=>[(11,some (.buf g.1 g.2.length)),(35,some (.int .i64 (i : Int)))])
   (fun i r H=>r.2=((Au f V k).take i).map (fun t=>indexOf (Au g V k) (D9 f.shape p (V.getD k default) t))∧AB H0 H [(r.1,.cells 1 (r.2.map iI) 0),(Ed,.cells 1 (((List.range k).map (Cs f g V p)).map iL) 0)]) (Au f V k).length (Jv,[]) ⟨rfl,o⟩ rfl ?_
  clear o
  rintro i ⟨Jv,row⟩ H hi ⟨B4,o⟩;dsimp only at B4 o
  have Lu : row.length=i:=by rw [B4,List.length_map,List.length_take]; omega
  refine tt ?_;apply bk <;> intro h2
  ·have Ah:=A7 h2
   have w2:=ws i
   have N6:=((Ba h EZ).mem _).mp (show (Au f V k).getD i default∈BQ f (V.getD k default) from AE.mpr ⟨i,Ah,rfl⟩)
   generalize ht : (Au f V k).getD i default=t at *;refine tt ?_;refine ⟨Ah, ?_⟩;rw [ht];refine Ae iI o fun NU H o=>tt ?_;refine ⟨AU, ?_⟩
   refine AD [0,1,2,7,8,9,11,13,25,26,27,33,34,35,46,47] (G:=Nat × List Int) (fun n g=>[(14,some (.buf g.1 g.2.length)),(48,some (.int .i64 (n : Int)))])
    (fun n r H=>r.2=(List.range n).map (fun j=>ix (ix p (ix f.shape.to ((V.getD k default).getD j default))) (t.getD j default))∧AB H0 H [(r.1,.cells 1 (r.2.map iI) 0),(Jv,.cells 1 (row.map iI) 0),(Ed,.cells 1 (((List.range k).map (Cs f g V p)).map iL) 0)]) (V.getD k default).length (NU,[]) ⟨rfl,o⟩ rfl ?_
   clear o
   rintro n ⟨NU,fam⟩ H hn ⟨Gj,o⟩;dsimp only at Gj o
   have je : fam.length=n:=by rw [Gj]; simp
   refine tt ?_;apply bk <;> intro h3
   ·have BB:=A7 h3
    have w3:=ws n
    have ha:=EZ.arr (AE.mpr ⟨n,BB,rfl⟩)
    have Cu:=h.is.1.C7 ha.1.2
    have th:=(m.pl _ Cu).1
    have hrn:=N6.Nb n BB
    have Hg:=N6.len;refine tt ?_;refine ⟨BB,by omega,by omega,by omega,by omega, ?_⟩;refine Ac (f:=iI) (ix (ix p (ix f.shape.to ((V.getD k default).getD n default))) (t.getD n default)) o rfl rfl (by simp only [AK]; omega) fun NU H o=>?_
    have e8 : fam++[ix (ix p (ix f.shape.to ((V.getD k default).getD n default))) (t.getD n default)]=(List.range (n+1)).map (fun j=>ix (ix p (ix f.shape.to ((V.getD k default).getD j default))) (t.getD j default)):=by
     rw [Gj,List.range_succ]; simp [-List.getD_eq_getElem?_getD]
    refine tw w3 ?_;exact A5 (_,_) (by omega) ⟨e8,o⟩ rfl
   ·have BB:=A9 h3
    have gT : fam=D9 f.shape p (V.getD k default) t:=by rw [Gj,D9,show n=(V.getD k default).length by omega]
    have CH : fam∈Au g V k:=((Ba hg XL).mem _).mpr (by rw [gT]; exact Iw h hg e m EZ N6);refine tt ?_;refine Ak o rfl fun H o=>tt ?_;refine ⟨by omega,_,(Rg B [fam] (by simp only [Du,List.flatMap_cons,List.flatMap_nil,List.append_nil,List.length_append,List.length_map,List.length_cons,List.length_nil]; omega)).run, ?_⟩;rw [hgk];simp only [kC];refine tt ?_;refine ⟨JQ _ _ _, ?_⟩;rw [SJ HK Pm CH];simp only [Option.getD_some];rw [gT];refine ⟨⟨rfl,fun c hc=>by cases List.mem_singleton.mp hc; rfl⟩, ?_⟩;refine Ac (f:=iI) (indexOf (Au g V k) (D9 f.shape p (V.getD k default) t)) o rfl rfl (by simp only [AK]; omega) fun Jv H o=>?_
    have e8 : row++[indexOf (Au g V k) (D9 f.shape p (V.getD k default) t)]=((Au f V k).take (i+1)).map (fun t=>indexOf (Au g V k) (D9 f.shape p (V.getD k default) t)):=by
     rw [B4,BS _ _ Ah,ht]
    refine tw w2 ?_;exact A5 (_,_) (by omega) ⟨e8,o⟩ rfl
  ·have Ah:=A9 h2
   have Dr : row=Cs f g V p k:=by rw [B4,List.take_of_length_le (by omega)]; rfl
   refine tt ?_;refine Ak o rfl fun H o=>tt ?_;refine Ac (f:=iL) row o rfl (by simp) (by simp only [List.length_map,List.length_range,AK]; omega) fun HC H o=>?_
   have e7 : (List.range k).map (Cs f g V p)++[row]=(List.range (k+1)).map (Cs f g V p):=by rw [List.range_succ,List.map_append,Dr]; rfl
   rw [e7] at o ⊢;refine tw w ?_;exact A5 HC (by omega) o (by simp)
 ·have AU:=A9 h1;rw [Qb] at AU
  obtain rfl : k=V.length:=by omega
  refine tt ?_;refine Ak o (by simp) fun H o=>tt ?_;exact A6 rfl o.sub
end Go.Proofs.Shf
