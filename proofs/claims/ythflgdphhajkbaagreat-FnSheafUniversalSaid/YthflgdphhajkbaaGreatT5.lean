/- Contracts, part 5. -/
import Derived.Test.YthflgdphhajkbaaGreatT4
import Derived.WalkSmall
import Derived.Test.YthflgdphhajkbaaGreatProg
import Derived.Recover
import Derived.Tactics
set_option linter.unusedVariables false
set_option linter.unusedSimpArgs false
set_option linter.unusedSectionVars false
open Nat (reduceEqDiff reduceAdd reduceMul reduceLeDiff reduceLT)
namespace Go.Proofs.Shf
open Go.AW Go.Proofs Go.Shf
theorem Yx (B : Nat) (v : NQ) (cnt : AV) {H0 H : AB} {l : Ob} {gid : Nat} {b : Bool} {K : Am} {x s : Int} (o : AA H0 H ((gid,.cells 1 [.bool b] 0)::l)) (hx : 0≤x∧x.toNat<v.marks.length) (hs : 0≤s∧s.toNat<(ix v.marks x).length)
  (hk : ∀ H',AA H0 H' ((gid,.cells 1 [.bool (b && mg v.marks x s)] 0)::l)→K (.CG []) H') : CB B 314 [.int .i64 x,.int .i64 s,.ref gid 0,.ptr [.ptr (v.cells cnt)]] H K:=by
 refine kJ.go fun _=>?_
 have hg : H.get gid=some (.cells 1 [.bool b] 0):=o.h0;refine tt ?_;refine Af hg (by simp) ?_
 have e : (ix v.marks x).getD s.toNat default=mg v.marks x s:=rfl
 cases b with
 | false =>
  refine tt ?_;refine sw o fun H o=>tt ?_;exact ⟨H,.refl H,hk H o⟩
 | true =>
  refine tt ?_;refine ⟨hx,hs, ?_⟩;refine sw o fun H o=>tt ?_;refine ⟨H,.refl H,hk H ?_⟩;rw [Bool.true_and,← e]; exact o
theorem UT (B : Nat) (j : Dw) (hF : j.Form) (hf : Bg j.shape) (cnt : AV) {H0 H : AB} {l : Ob} {gid : Nat} {K : Am} (o : AA H0 H ((gid,.cells 1 [.bool true] 0)::l))
  (hk : ∀ b H',(b=true↔Ia j.shape j.AP)→AA H0 H' ((gid,.cells 1 [.bool b] 0)::l)→K (.CG []) H') :
  CB B 313 [.ptr ((BS j).cells cnt),.fn (.func 314) [.ref gid 0,.ptr [.ptr ((BS j).cells cnt)]]] H K:=by
 have tab:=Hj hF.is hf
 have hc:=hF.is
 have F3:=hc.1.o
 have hm:=hc.1.m
 have IQ:=hc.1.HN
 have hL:=tab.len
 have Kl:=EW hF hf
 have K8 : DU (AN j.shape) (BS j).marks:=GH
 have TF:=kE hF hf K8.len
 have EZ : (BS j).BI=AN j.shape:=rfl
 have FL : (BS j).shape=j.shape:=rfl
 have sM : (BS j).cells cnt=[.ptr (Dt j.shape (AN j.shape) (iL (CS (AN j.shape))) (BA (BC j.shape (AN j.shape)))),.ptr j.shape.cells,mL (mL AV.bool) (BS j).marks,cnt]:=rfl
 have jg:=kW B j.shape (AN j.shape) tab (iL (CS (AN j.shape))) (BA (BC j.shape (AN j.shape)))
 have lZ:=fun (H0 H : AB) (l : Ob) (gid : Nat) (b : Bool) (K : Am) (x s : Int)=>Yx B (BS j) cnt (H0:=H0) (H:=H) (l:=l) (gid:=gid) (b:=b) (K:=K) (x:=x) (s:=s)
 have l4 : ∀ x s t : Nat,x<(AN j.shape).length→s<((AN j.shape).getD x default).length→t<((AN j.shape).getD x default).length →
   PB B 329 [.ptr ((BS j).cells cnt),iL (((AN j.shape).getD x default).getD t default),iL (((AN j.shape).getD x default).getD s default)] (.bool (dec (Tu (BS j) (((AN j.shape).getD x default).getD t default) (((AN j.shape).getD x default).getD s default)))):=by
  intro x s t hx hs ht;refine W8 B (BS j) hc cnt _ _ x (tab.sv hx ht) (fun a ha=>?_) hL K8.len (fun y hy=>⟨?_,fun s hs=>?_⟩) ?_
  ·have:=(tab.sv hx hs).arr ha; exact ⟨this.1.1,this.1.2,this.2⟩
  ·have nY : 0≤y∧y<j.shape.AO:=hy
   have:=K8.row y.toNat (by omega); exact this
  ·have nY : 0≤y∧y<j.shape.AO:=hy;exact ((tab.at nY.1 (by omega)).mem s).mpr hs
  ·have:=(tab.sv hx hs).len; omega
 rw [sM] at lZ l4 ⊢;refine fu.go fun _=>?_
 have E6:=K8.len
 have B3:=K8.row
 have Bc:=tab.Yh
 have Gm : ∀ x : Nat,x<(AN j.shape).length→0≤(C4 j.shape (AN j.shape)).getD x default∧((C4 j.shape (AN j.shape)).getD x default).toNat<((AN j.shape).getD x default).length:=fun x hx=>(tab.top hx).1
 have jv : (C4 j.shape (AN j.shape)).length=(AN j.shape).length:=Hg
 have Na : ∀ a : Nat,a<j.shape.AJ.length→0≤j.shape.AJ.getD a default∧(j.shape.AJ.getD a default).toNat<(AN j.shape).length:=fun a ha=>by
  have:=tab.AJ (a:=a) ⟨by omega,by simpa using ha⟩
  rwa [AH] at this
 have DS : ∀ a : Nat,a<j.shape.AJ.length→0≤j.shape.to.getD a default∧(j.shape.to.getD a default).toNat<(AN j.shape).length:=fun a ha=>by
  have:=tab.to (a:=a) ⟨by omega,by simpa using ha⟩
  rwa [AH] at this
 have Kn : ∀ a s : Nat,a<j.shape.AJ.length→s<((AN j.shape).getD (j.shape.AJ.getD a default).toNat default).length→(s<((BC j.shape (AN j.shape)).getD a default).length) ∧
   0≤((BC j.shape (AN j.shape)).getD a default).getD s default∧(((BC j.shape (AN j.shape)).getD a default).getD s default).toNat<((AN j.shape).getD (j.shape.to.getD a default).toNat default).length:=fun a s ha hs=>by
  have Ge : 0≤(a : Int)∧(a : Int).toNat<j.shape.AJ.length:=⟨by omega,by simpa using ha⟩
  have h1:=tab.pull Ge (k:=s) (by rw [AH]; exact hs)
  have h2:=Ja (L:=AN j.shape) Ge;simp only [AH] at h1 h2;refine ⟨?_,h1.1⟩;rw [h2]; exact hs
 have hpll : (BC j.shape (AN j.shape)).length=j.shape.AJ.length:=JY
 have aD : ∀ x s : Nat,WZ (BS j).marks x s=((BS j).marks.getD x default).getD s default:=fun _ _=>rfl
 generalize hLv : AN j.shape=L at *
 have hP3 : ∀ x t i,mQ (BS j) x t i↔∀ s,s<i→WZ (BS j).marks x s=true→WZ (BS j).marks x t=false→Tu (BS j) ((L.getD x default).getD t default) ((L.getD x default).getD s default)→WZ (BS j).marks x t=true:=fun x t i=>by
  rw [mQ,EZ]
 have sF : ∀ x k,mW (BS j) x k↔∀ t,t<k→mQ (BS j) x t ((BS j).marks.getD x default).length:=fun _ _=>Iff.rfl
 have tL : ∀ k,P3 (BS j) k↔∀ x,x<k→mW (BS j) x (L.getD x default).length:=fun k=>by rw [P3,EZ]
 generalize hMv : (BS j).marks=M at *;refine tt ?_;refine jg.go fun _=>tt ?_
 refine AD [0,1,18,19] (G:=Bool) (fun k g=>[(20,some (.int .i64 (k : Int)))])
  (fun k b H=>(b=true↔P1 j.shape L M k)∧AA H0 H ((gid,.cells 1 [.bool b] 0)::l)) (C4 j.shape L).length true ⟨by simp [P1],o⟩ rfl ?_
 clear o
 rintro x b H hx ⟨hb,o⟩
 replace o : AA H0 H ((gid,.cells 1 [.bool b] 0)::l):=o;refine tt ?_;apply bk <;> intro h1
 ·have AR:=A7 h1
  have w:=ws x
  have h2:=Gm x (by omega);refine tt ?_;refine ⟨AR, ?_⟩;refine lZ H0 H l gid b _ x _ o ⟨by omega,by simpa using (by omega : x<M.length)⟩ ⟨h2.1,by rw [AH,B3 x (by omega)]; exact h2.2⟩ fun H o=>?_;refine tw w ?_;refine A5 (b && mg M x ((C4 j.shape L).getD x default)) AR ⟨?_,o⟩ rfl;rw [P1,all_succ,Bool.and_eq_true,hb,P1]
 have AR:=A9 h1
 obtain rfl : x=(C4 j.shape L).length:=by omega
 rw [jv] at hb;refine tt ?_
 refine AD [0,1,37] (G:=Bool) (fun k g=>[(38,some (.int .i64 (k : Int)))])
  (fun k b H=>(b=true↔P1 j.shape L M L.length∧P2 j.shape L M k)∧AA H0 H ((gid,.cells 1 [.bool b] 0)::l)) j.shape.AJ.length b ⟨by rw [hb,P2]; simp,o⟩ rfl ?_
 clear o hb h1 b hx H AR
 rintro a b H ha ⟨hb,o⟩
 replace o : AA H0 H ((gid,.cells 1 [.bool b] 0)::l):=o;refine tt ?_;apply bk <;> intro h1
 ·have AR:=A7 h1
  have w:=ws a
  have Q5:=Na a AR
  have lr:=DS a AR;refine tt ?_;refine ⟨AR,⟨Q5.1,by omega⟩,_,(RW B (M.getD (j.shape.AJ.getD a default).toNat default)).run, ?_⟩
  have Mc:=B3 _ Q5.2
  have nQ:=Bc _ Q5.2;refine tt ?_
  refine AD [0,1,6,37,38,57,58] (G:=Bool) (fun k g=>[(59,some (.int .i64 (k : Int)))])
   (fun i b H=>(b=true↔P1 j.shape L M L.length∧P2 j.shape L M a∧aX j.shape L M a i)∧AA H0 H ((gid,.cells 1 [.bool b] 0)::l)) (M.getD (j.shape.AJ.getD a default).toNat default).length b ⟨by rw [hb,aX]; simp,o⟩ rfl ?_
  clear o hb b H
  rintro s b H hs ⟨hb,o⟩
  replace o : AA H0 H ((gid,.cells 1 [.bool b] 0)::l):=o;refine tt ?_;apply bk <;> intro h2
  ·have Ah:=A7 h2
   have w2:=ws s
   have hp:=Kn a s AR (by omega);refine tt ?_;refine ⟨Ah, ?_⟩
   cases Jm : WZ M (j.shape.AJ.getD a default).toNat s with
   | false =>
    have Lm:=Jm;rw [aD] at Lm;refine tw Lm ?_;refine tw w2 ?_;refine A5 b Ah ⟨?_,o⟩ rfl
    have : aX j.shape L M a (s+1)↔aX j.shape L M a s:=by
     rw [aX,all_succ,aX,Jm]; simp
    rw [this]; exact hb
   | true =>
    have Lm:=Jm;rw [aD] at Lm;refine tw Lm ?_;refine ⟨by omega,by omega,hp.1, ?_⟩;refine lZ H0 H l gid b _ _ _ o ⟨lr.1,by omega⟩ ⟨hp.2.1,by rw [ix,B3 _ lr.2]; exact hp.2.2⟩ fun H o=>?_;refine tw w2 ?_;refine A5 (b && mg M (j.shape.to.getD a default) (((BC j.shape L).getD a default).getD s default)) Ah ⟨?_,o⟩ rfl
    have : aX j.shape L M a (s+1)↔aX j.shape L M a s∧mg M (j.shape.to.getD a default) (((BC j.shape L).getD a default).getD s default)=true:=by
     rw [aX,all_succ,aX,Jm]; simp
    rw [this,Bool.and_eq_true,hb,and_assoc,and_assoc]
  ·have Ah:=A9 h2
   obtain rfl : s=(M.getD (j.shape.AJ.getD a default).toNat default).length:=by omega
   refine tw w ?_;refine A5 b AR ⟨?_,o⟩ rfl
   have : P2 j.shape L M (a+1)↔P2 j.shape L M a∧aX j.shape L M a (M.getD (j.shape.AJ.getD a default).toNat default).length:=by rw [P2,all_succ,P2]
   rw [this]; exact hb
 have AR:=A9 h1
 obtain rfl : a=j.shape.AJ.length:=by omega
 refine tt ?_
 refine AD [0,1,99,100] (G:=Bool) (fun k g=>[(101,some (.int .i64 (k : Int)))])
  (fun k b H=>(b=true↔P1 j.shape L M L.length∧P2 j.shape L M j.shape.AJ.length∧P3 (BS j) k)∧AA H0 H ((gid,.cells 1 [.bool b] 0)::l)) L.length b ⟨by rw [hb,tL]; simp,o⟩ rfl ?_
 clear o hb h1 b ha H AR
 rintro x b H hx ⟨hb,o⟩
 replace o : AA H0 H ((gid,.cells 1 [.bool b] 0)::l):=o;refine tt ?_;apply bk <;> intro h1
 ·have AR:=A7 h1
  have w:=ws x
  have Mc:=B3 x AR
  have nQ:=Bc x AR;refine tt ?_;refine ⟨AR, ?_⟩
  refine AD [0,1,9,10,99,100,101,107] (G:=Bool) (fun k g=>[(108,some (.int .i64 (k : Int)))])
   (fun t b H=>(b=true↔(P1 j.shape L M L.length∧P2 j.shape L M j.shape.AJ.length∧P3 (BS j) x)∧mW (BS j) x t)∧AA H0 H ((gid,.cells 1 [.bool b] 0)::l)) (L.getD x default).length b ⟨by rw [hb,sF]; simp,o⟩ rfl ?_
  clear o hb b H
  rintro t b H ht ⟨hb,o⟩
  replace o : AA H0 H ((gid,.cells 1 [.bool b] 0)::l):=o;refine tt ?_;apply bk <;> intro h2
  ·have Ah:=A7 h2
   have w2:=ws t;refine tt ?_;refine ⟨by omega, ?_⟩;refine (RW B (M.getD x default)).go fun _=>tt ?_
   refine AD [0,1,9,10,11,99,100,101,107,108,118,119] (G:=Bool) (fun k g=>[(120,some (.int .i64 (k : Int)))])
    (fun i b H=>(b=true↔((P1 j.shape L M L.length∧P2 j.shape L M j.shape.AJ.length∧P3 (BS j) x)∧mW (BS j) x t)∧mQ (BS j) x t i)∧AA H0 H ((gid,.cells 1 [.bool b] 0)::l)) (M.getD x default).length b ⟨by rw [hb,hP3]; simp,o⟩ rfl ?_
   clear o hb b H
   rintro s b H hs ⟨hb,o⟩
   replace o : AA H0 H ((gid,.cells 1 [.bool b] 0)::l):=o;refine tt ?_;apply bk <;> intro h3
   ·have B8:=A7 h3
    have w3:=ws s
    have Va:=l4 x s t AR (by omega) Ah;refine tt ?_;refine ⟨B8, ?_⟩
    have D0 : mQ (BS j) x t (s+1)↔mQ (BS j) x t s∧(WZ M x s=true→WZ M x t=false→Tu (BS j) ((L.getD x default).getD t default) ((L.getD x default).getD s default)→WZ M x t=true):=by
     rw [hP3,all_succ,hP3]
    cases Jm : WZ M x s with
    | false =>
     have Lm:=Jm;rw [aD] at Lm;refine tw Lm ?_;refine tw w3 ?_;refine A5 b B8 ⟨?_,o⟩ rfl;rw [D0,Jm]
     simpa using hb
    | true =>
     have Lm:=Jm;rw [aD] at Lm
     cases jf : WZ M x t with
     | true =>
      have aI:=jf;rw [aD] at aI;refine tw Lm ?_;refine t2 Lm aI ?_
      refine ⟨by omega,by omega, ?_⟩;refine tw w3 ?_;refine A5 b B8 ⟨?_,o⟩ rfl;rw [D0,jf]
      simpa using hb
     | false =>
      have aI:=jf;rw [aD] at aI;refine tw Lm ?_;refine t2 Lm aI ?_
      refine ⟨by omega,by omega,Ah,by omega,_,Va.run, ?_⟩
      by_cases hl : Tu (BS j) ((L.getD x default).getD t default) ((L.getD x default).getD s default)
      ·rw [Aw hl];refine tt ?_;refine lZ H0 H l gid b _ x t o ⟨by omega,by simpa using (by omega : x<M.length)⟩ ⟨by omega,by rw [AH]; simpa using (by omega : t<(M.getD x default).length)⟩ fun H o=>?_
       have wE : mg M (x : Int) (t : Int)=false:=by
        rw [mg,AH,AH]; exact aI
       rw [wE,Bool.and_false] at o;refine tw w3 ?_;refine A5 false B8 ⟨?_,o⟩ rfl;rw [D0];refine ⟨fun e=>(by cases e),fun e=>?_⟩
       have:=e.2.2 Jm jf hl;rw [jf] at this; cases this
      ·rw [Aa hl];refine tw w3 ?_;refine A5 b B8 ⟨?_,o⟩ rfl;rw [D0,hb];exact ⟨fun e=>⟨e.1,e.2,fun _ _ h=>absurd h hl⟩,fun e=>⟨e.1,e.2.1⟩⟩
   ·have B8:=A9 h3
    obtain rfl : s=(M.getD x default).length:=by omega
    refine tw w2 ?_;refine A5 b Ah ⟨?_,o⟩ rfl
    have : mW (BS j) x (t+1)↔mW (BS j) x t∧mQ (BS j) x t (M.getD x default).length:=by rw [sF,all_succ,sF]
    rw [this,← and_assoc]; exact hb
  ·have Ah:=A9 h2
   obtain rfl : t=(L.getD x default).length:=by omega
   refine tw w ?_;refine A5 b AR ⟨?_,o⟩ rfl
   have : P3 (BS j) (x+1)↔P3 (BS j) x∧mW (BS j) x (L.getD x default).length:=by rw [tL,all_succ,tL]
   rw [this,hb]
   constructor
   ·rintro ⟨⟨a1,a2,a3⟩,a4⟩; exact ⟨a1,a2,a3,a4⟩
   ·rintro ⟨a1,a2,a3,a4⟩; exact ⟨⟨a1,a2,a3⟩,a4⟩
 ·have AR:=A9 h1
  obtain rfl : x=L.length:=by omega
  refine tt ?_;exact ⟨H,.refl H,hk b H (by rw [hb]; exact TF) o⟩
theorem QY (B : Nat) (j : Dw) (hF : j.Form) (hf : Bg j.shape) (cnt : AV) : PB B 293 [.ptr ((BS j).cells cnt)] (.bool (dec (Ia j.shape j.AP))):=by
 have hfol:=fun (H0 H : AB) (l : Ob) (gid : Nat) (K : Am)=>UT B j hF hf cnt (H0:=H0) (H:=H) (l:=l) (gid:=gid) (K:=K)
 generalize (BS j).cells cnt=cv at *;refine ⟨fun H0=>di.go fun _=>tt ?_⟩;refine Ai (.nil _) fun gid H o=>tt ?_;refine sw o fun H o=>tt ?_;refine hfol H0 H [] gid _ o fun b H hb o=>tt ?_;refine AK o (by simp) (tt ?_);refine A6 ?_ o.sub
 cases b with
 | true=>rw [Aw (hb.mp rfl)]
 | false=>rw [Aa (fun e=>by have:=hb.mpr e; cases this)]
def dD (j : Dw) (code : Int) (H0 : AB) : Am:=fun r H'=>H'=H0∧∃ X,r=.CG [X,.int .i64 code]∧(code=0→∃ cnt,X=.ptr ((BS j).cells cnt))
theorem EH {j : Dw} {code n : Int} {H0 H : AB} {X : AV} (hs : H0.sub H) (hn : n=code) (h : code=0→∃ cnt,X=.ptr ((BS j).cells cnt)) : Ik (dD j code H0) (.CG [X,.int .i64 n]) H :=
 ⟨H0,hs,rfl,X,by rw [hn],h⟩
theorem SZ (B : Nat) (j : Dw) (hF : j.Form) (H0 : AB) : CB B 253 [.ptr j.cells] H0 (dD j (DO j) H0):=by
 refine ba.go fun _=>?_;refine tt ?_;refine Sr B j hF (.nil H0) (fun hf X=>?_) fun hf id ic X n q H hX o=>?_
 ·have e : DO j=3:=by rw [DO,if_neg (fun e=>e hF),if_pos hf]
  refine tt ?_;exact EH (.refl _) e.symm (fun e2=>by rw [e] at e2; cases e2)
 ·refine tt ?_;refine qE 4 hX o rfl fun H o=>AY ?_
  have Kl : [AV.ptr (QO j.shape),.ptr j.shape.cells,mL (mL AV.bool) (marksOf (AN j.shape) j.AP),.ref ic 0]=(BS j).cells (.ref ic 0):=rfl
  have Gm:=QY B j hF hf (.ref ic 0);rw [Kl]
  generalize rO : (BS j).cells (.ref ic 0)=cv at *;refine tt ?_;refine Gm.go fun _=>?_
  by_cases ht : Ia j.shape j.AP
  ·have e : DO j=0:=by rw [DO,if_neg (fun e=>e hF),if_neg (fun e=>e hf),if_pos ht]
   rw [Aw ht];refine tt ?_;exact EH o.sub e.symm fun _=>⟨_,by rw [rO]⟩
  ·have e : DO j=5:=by rw [DO,if_neg (fun e=>e hF),if_neg (fun e=>e hf),if_neg ht]
   rw [Aa ht];refine tt ?_;exact EH o.sub e.symm (fun e2=>by rw [e] at e2; cases e2)
open Classical in
noncomputable def Fj (j : Dw) (f : SF) : Int:=if DO j=0∧¬ j.shape=f.shape then 5 else DO j
open Classical in
theorem RM (B : Nat) (j : Dw) (f : SF) (hF : j.Form) (H0 : AB) : CB B 176 [.ptr j.cells,mL nx [f]] H0 (dD j (Fj j f) H0):=by
 refine c176.go fun _=>?_;refine tt ?_;refine (SZ B j hF H0).mono ?_
 rintro r H ⟨rfl,X,rfl,hX⟩
 by_cases h0 : DO j=0
 ·obtain ⟨cnt,rfl⟩:=hX h0
  have e0 : Fj j f=if j.shape=f.shape then 0 else 5:=by
   rw [Fj]
   by_cases h : j.shape=f.shape
   ·rw [if_neg (fun e=>e.2 h),if_pos h,h0]
   ·rw [if_pos ⟨h0,h⟩,if_neg h]
  rw [h0]
  generalize rO : (BS j).cells cnt=cv at *;refine tt ?_;refine ⟨fun e=>(by simp at e),fun _=>At.mk ?_⟩;refine tt ?_;refine AD [0,6,18,19] (G:=Unit) (fun k _=>[(20,some (.int .i64 (k : Int)))]) (fun k _ H'=>H'=H∧(0<k→j.shape=f.shape)) 1 () ⟨rfl,by simp⟩ rfl ?_
  rintro k _ H' hk ⟨rfl,Ak⟩;refine tt ?_;apply bk <;> intro h1
  ·have AR:=A7 h1
   obtain rfl : k=0:=by simp at AR; omega
   have w:=ws 0;refine tt ?_;refine ⟨_,(EG B j.shape f.shape).run, ?_⟩
   by_cases h : j.shape=f.shape
   ·rw [Aw h];refine tw w ?_;exact A5 () (by omega) ⟨rfl,fun _=>h⟩ rfl
   ·rw [Aa h];refine tt ?_;rw [if_neg h] at e0;exact EH (.refl _) e0.symm (fun e2=>by rw [e0] at e2; cases e2)
  ·have AR:=A9 h1
   have TG : 0<k:=by simp at AR; omega
   rw [if_pos (Ak TG)] at e0;refine tt ?_;exact EH (.refl _) e0.symm fun _=>⟨_,by rw [rO]⟩
 ·have e0 : Fj j f=DO j:=by rw [Fj,if_neg (fun e=>h0 e.1)]
  refine tt ?_;refine ⟨fun _=>At.mk ?_,fun e=>?_⟩;rotate_left
  ·exact absurd (by simpa using e) h0
  refine tt ?_;exact EH (.refl _) e0.symm (fun e2=>absurd (e0.symm.trans e2) h0)
theorem Sg (B : Nat) (j : Dw) (f : SF) (H0 : AB) : CB B 96 [.ptr j.cells,mL nx [f]] H0 (dD j (codeF j f) H0):=by
 refine c96.go fun _=>?_;refine tt ?_;refine (Og B j).go fun _=>?_
 by_cases hF : j.Form
 ·rw [Aw hF];refine tt ?_;refine (Eg B [f]).go fun _=>?_
  by_cases hf : f.Is
  ·have e0 : codeF j f=Fj j f:=by rw [codeF,if_neg (fun e=>e ⟨hF,hf⟩),Fj]
   rw [Aw (by simpa using hf)];refine tt ?_;refine (RM B j f hF H0).mono ?_
   rintro r H ⟨rfl,X,rfl,hX⟩;refine tt ?_;rw [← e0] at hX ⊢;exact EH (.refl _) rfl hX
  ·have e0 : codeF j f=1:=by rw [codeF,if_pos (fun e=>hf e.2)]
   rw [Aa (by simpa using hf)];refine tt ?_;exact EH (.refl _) e0.symm (fun e2=>by rw [e0] at e2; cases e2)
 ·have e0 : codeF j f=1:=by rw [codeF,if_pos (fun e=>hF e.1)]
  rw [Aa hF];refine tt ?_;exact EH (.refl _) e0.symm (fun e2=>by rw [e0] at e2; cases e2)
end Go.Proofs.Shf
namespace Go.AW
theorem Gk.go {P : Program} {B : Nat} {fn : FuncId} {args : List AV} {O : Ob→AV→Prop} {H0 H : AB} {l : Ob} {K : Am} (h : Gk P B fn args O) (o : AA H0 H l) (hk : ∀ r p H',O p r→AA H0 H' (p++l)→H.sub H'→K r H') : B7 P B fn args H K :=
 (h.run H).mono fun r H' ⟨p,q1,q2⟩=>hk r p H' q1 (o.trans q2) q2.sub
theorem AA.last {H0 H : AB} {q : Ob} {x : Nat × AF} (o : AA H0 H (q++[x])) : AA H0 H (x::q):=o.perm List.perm_append_comm
end Go.AW
namespace Go.Proofs.Shf
open Go.AW Go.Proofs Go.Shf
theorem ME (a b c : Ob) : (c++(b++a)).Perm (a++(b++c)):=by
 refine List.perm_append_comm.trans ?_;rw [← List.append_assoc];exact List.Perm.append_right c List.perm_append_comm
theorem Yq (a b c d : Ob) : (d++(c++(b++a))).Perm (a++(b++(c++d))):=by
 refine List.perm_append_comm.trans ?_
 have:=List.Perm.append_right d (ME a b c)
 simpa only [List.append_assoc] using this
theorem HV (B : Nat) (l : List Int) : Gk Tryz.prog B 221 [iL l] fun p X=>OL p X l :=
 ⟨fun H=>(Ji B l H H [] (.nil H)).mono fun r H' ⟨id,A,e,o,q⟩=>by
  subst e q;exact ⟨_,.inr ⟨id,_,[],rfl,by simp,mJ _⟩,o⟩⟩
theorem Kc (B : Nat) (l : List (List Int)) : Gk Tryz.prog B 179 [BA l] fun p X=>N0 p X l:=by
 refine ⟨fun H0=>nP.go fun ⟨hf,_⟩=>?_⟩
 have hl:=AM hf;simp only [AL] at hl;refine tt ?_;refine ⟨by simp only [AL]; omega,Ae (.nil _) fun id H o=>?_⟩;refine tt ?_
 refine AD [9,10] (G:=AV × Ob) (fun k g=>[(3,some g.1),(11,some (.int .i64 (k : Int)))])
  (fun k g H=>N0 g.2 g.1 (l.take k)∧AA H0 H (g.2++[])) l.length (.buf id 0,[(id,.cells 1 [] 0)]) ⟨.inr ⟨id,[],[],rfl,rfl,.nil⟩,o⟩ rfl ?_
 clear o
 rintro k ⟨X,q⟩ H hk ⟨hX,o⟩;dsimp only at hX o;refine tt ?_;apply bk <;> intro h1
 ·have AR:=A7 h1
  have w:=ws k;refine tt ?_;refine ⟨AR, ?_⟩;refine (HV B (l.getD k default)).go o fun Y p H hY o _=>?_
  have mB:=hY.one;refine tt ?_;refine ⟨by simp [DK,AV.cells_one mB,mB], ?_⟩;refine hX.app hY ⟨AV.cells_one mB,mB⟩ o (by rw [List.length_take]; simp only [AL]; omega) fun X' q' H QB HJ o=>?_;refine tw w ?_;refine A5 (X',q') AR ⟨?_,o⟩ rfl
  simp only;rw [B9 l AR]; exact HJ
 ·have AR:=A9 h1
  obtain rfl : k=l.length:=by omega
  rw [List.take_length] at hX;rw [List.append_nil] at o;refine tt ?_;exact ⟨H,.refl H,q,hX,o⟩
theorem U2 (B : Nat) (c : Ay) : Gk Tryz.prog B 220 [.ptr c.cells] fun p X=>OCat p X c:=by
 refine ⟨fun H0=>xX.go fun _=>tt ?_⟩;refine nb (.nil _) fun id H o=>tt ?_;refine (HV B c.AJ).go o fun X1 p1 H q1 o hs=>⟨hs, ?_⟩;refine tt ?_;refine (HV B c.to).go o fun X2 p2 H q2 o hs=>⟨hs, ?_⟩;refine tt ?_;refine (HV B c.Av).go o fun X3 p3 H q3 o hs=>⟨hs, ?_⟩;refine tt ?_;refine (Kc B c.comp).go o fun X4 p4 H q4 o hs=>⟨hs, ?_⟩
 have v1:=q1.one
 have v2:=q2.one
 have v3:=q3.one
 have v4:=q4.one;try simp only [go_sem,↓reduceIte,reduceEqDiff,reduceAdd,reduceMul,reduceLeDiff,reduceLT,AV.cells_one v1,AV.cells_one v2,AV.cells_one v3,AV.cells_one v4]
 have o:=AA.last (q:=p4++(p3++(p2++p1))) (by simpa only [List.append_assoc] using o);refine Ap o (by simp) rfl (by simp only [Bi,CR]; exact ⟨rfl,v1,v2,v3,v4,trivial⟩) fun H o=>?_;have o:=s2 o;refine tt ?_
 have hr:=o.rc 5 0 (by simp);simp only [List.drop_zero] at hr;rw [hr];exact ⟨H,.refl H,_,⟨X1,X2,X3,X4,p1,p2,p3,p4,rfl,rfl,q1,q2,q3,q4⟩,o.tl.perm (Yq _ _ _ _)⟩
theorem OV (B : Nat) (f : SF) : Gk Tryz.prog B 178 [.ptr f.cells] fun p X=>aU p X f:=by
 refine ⟨fun H0=>xJ.go fun _=>tt ?_⟩;refine nb (.nil _) fun id H o=>tt ?_;refine (U2 B f.shape).go o fun Z p1 H q1 o hs=>⟨hs, ?_⟩;refine tt ?_;refine (HV B f.A4).go o fun X5 p2 H q2 o hs=>⟨hs, ?_⟩;refine tt ?_;refine (Kc B f.AU).go o fun X6 p3 H q3 o hs=>⟨hs, ?_⟩
 have v5:=q2.one
 have v6:=q3.one
 obtain ⟨X1,X2,X3,X4,a1,a2,a3,a4,rfl,rfl,b1,b2,b3,b4⟩:=q1
 have v1:=b1.one
 have v2:=b2.one
 have v3:=b3.one
 have v4:=b4.one;try simp only [go_sem,↓reduceIte,reduceEqDiff,reduceAdd,reduceMul,reduceLeDiff,reduceLT,AV.cells_one v5,AV.cells_one v6]
 have o:=AA.last (q:=p3++(p2++(a1++(a2++(a3++a4))))) (by simpa only [List.append_assoc] using o);refine Ap o (by simp) rfl (by simp only [Bi,CR]; exact ⟨rfl,v1,v2,v3,v4,v5,v6,trivial⟩) fun H o=>?_;have o:=s2 o;refine tt ?_
 have hr:=o.rc 7 0 (by simp);simp only [List.drop_zero] at hr;rw [hr];refine ⟨H,.refl H,_,⟨X1,X2,X3,X4,X5,X6,a1,a2,a3,a4,p2,p3,rfl,rfl,b1,b2,b3,b4,q2,q3⟩, ?_⟩
 have o:=o.tl.perm (ME _ _ _)
 simpa only [List.append_assoc] using o
theorem aU.seven {p : Ob} {X : AV} {f : SF} (h : aU p X f) : ∃ X1 X2 X3 X4 X5 X6,X=.agg [iI f.shape.AO,X1,X2,X3,X4,X5,X6]∧X1.one=true∧X2.one=true∧X3.one=true∧X4.one=true∧X5.one=true∧X6.one=true:=by
 obtain ⟨X1,X2,X3,X4,X5,X6,a1,a2,a3,a4,a5,a6,rfl,rfl,b1,b2,b3,b4,b5,b6⟩:=h;exact ⟨_,_,_,_,_,_,rfl,b1.one,b2.one,b3.one,b4.one,b5.one,b6.one⟩
theorem PI (B : Nat) (f g : SF) (t : List (List Int)) : Gk Tryz.prog B 98 [.ptr f.cells,.ptr g.cells,BA t] fun p X=>lJ p X ⟨f,g,t⟩:=by
 refine ⟨fun H0=>c98.go fun _=>tt ?_⟩;refine nb (.nil _) fun id H o=>tt ?_;refine (OV B f).go o fun Z p1 H q1 o _=>tt ?_;refine (OV B g).go o fun Y p2 H q2 o _=>tt ?_;refine (Kc B t).go o fun W p3 H q3 o _=>?_
 obtain ⟨X1,X2,X3,X4,X5,X6,rfl,u1,u2,u3,u4,u5,u6⟩:=aU.seven q1
 obtain ⟨Y1,Y2,Y3,Y4,Y5,Y6,rfl,v1,v2,v3,v4,v5,v6⟩:=aU.seven q2
 have w:=q3.one;try simp only [go_sem,↓reduceIte,reduceEqDiff,reduceAdd,reduceMul,reduceLeDiff,reduceLT,AV.cells_one w]
 have o:=AA.last (q:=p3++(p2++p1)) (by simpa only [List.append_assoc] using o);refine Ap o (by simp) rfl (by simp only [Bi,CR]; exact ⟨rfl,u1,u2,u3,u4,u5,u6,rfl,v1,v2,v3,v4,v5,v6,w,trivial⟩) fun H o=>?_;have o:=s2 o;refine tt ?_
 have hr:=o.rc 15 0 (by simp);simp only [List.drop_zero] at hr;rw [hr];exact ⟨H,.refl H,_,⟨[_,X1,X2,X3,X4,X5,X6],[_,Y1,Y2,Y3,Y4,Y5,Y6],W,p1,p2,p3,rfl,rfl,q1,q2,q3⟩,o.tl.perm (ME _ _ _)⟩
end Go.Proofs.Shf
namespace Go.Shf
open Go.AW Go.Proofs.Shf
theorem JU {j : Dw} (hF : j.Form) (hf : Bg j.shape) : EJ (BS j)=Aq j.shape j.AP:=by
 have Kl:=EW hF hf
 have E6 : (BS j).marks.length=(AN j.shape).length:=E1;rw [EJ,Aq,E6,Kl.1];apply List.map_congr_left
 intro x hx
 have IX : x<(AN j.shape).length:=by have:=List.mem_range.mp hx; omega
 rw [KS,EI];apply List.filter_congr
 intro a ha
 have EZ : (BS j).BI=AN j.shape:=rfl
 have KC : (BS j).marks.getD x default=((AN j.shape).getD x default).map fun s=>decide (s∈j.AP.getD x default):=MY IX;rw [EZ,KC,List.length_map,E4,Bool.eq_iff_iff,SE,List.all_eq_true,decide_eq_true_eq]
 constructor
 ·intro h s hs
  obtain ⟨n,hn,rfl⟩:=AE.mp (Kl.2 x IX s hs).2
  have:=h n (List.mem_range.mpr hn);rw [BB _ hn] at this;simp only [Bool.or_eq_true,Bool.not_eq_true',decide_eq_true_eq,decide_eq_false_iff_not] at this;exact this.resolve_left fun e=>e hs
 ·intro h n hn
  have hn:=List.mem_range.mp hn;rw [BB _ hn]
  by_cases hs : ((AN j.shape).getD x default).getD n default∈j.AP.getD x default
  ·simp only [Bool.or_eq_true,decide_eq_true_eq];exact .inr (h _ hs)
  ·simp only [Bool.or_eq_true,Bool.not_eq_true',decide_eq_false_iff_not];exact .inl hs
def yf : SF:=⟨⟨0,[],[],[],[]⟩,[],[]⟩
def nK : SM:=⟨yf,yf,[]⟩
theorem YE : aU [] (.agg [.int .i64 0,.A1,.A1,.A1,.A1,.A1,.A1]) yf :=
 ⟨.A1,.A1,.A1,.A1,.A1,.A1,[],[],[],[],[],[],rfl,rfl,.inl ⟨rfl,rfl,rfl⟩,.inl ⟨rfl,rfl,rfl⟩,.inl ⟨rfl,rfl,rfl⟩,.inl ⟨rfl,rfl,rfl⟩,.inl ⟨rfl,rfl,rfl⟩,.inl ⟨rfl,rfl,rfl⟩⟩
theorem LO : lJ [] (.agg [.int .i64 0,.A1,.A1,.A1,.A1,.A1,.A1,.int .i64 0,.A1,.A1,.A1,.A1,.A1,.A1,.A1]) nK :=
 ⟨[_,_,_,_,_,_,_],[_,_,_,_,_,_,_],.A1,[],[],[],rfl,rfl,YE,YE,.inl ⟨rfl,rfl,rfl⟩⟩
end Go.Shf
namespace Go.AW
def mw {α : Type} (O : Ob→AV→α→Prop) (code : Int) (p : Ob) (X : AV) (a : α) : Prop:=∃ Y,X=.CG [Y,.int .i64 code]∧O p Y a
theorem Ow.ib {α : Type} {O : Ob→AV→α→Prop} {f : α→AV} (h : Ow O f) (code : Int) : Ow (mw O code) fun a=>.CG [f a,.int .i64 code] :=
 (Ow.CG fun a=>[f a,.int .i64 code]).of fun p X a ⟨Y,e,hY⟩=>⟨_,e,by
  have:=FR.cons h hY (fq code .nil);rw [List.append_nil] at this; exact this⟩
end Go.AW
namespace Go.Proofs.Shf
open Go.AW Go.Proofs Go.Shf
theorem lJ.YS {p : Ob} {X : AV} {m : SM} (h : lJ p X m) : ∃ Xs,X=.agg Xs∧Xs.length=15∧∀ c,c∈Xs→c.one=true:=by
 obtain ⟨Xs,Ys,Z,p1,p2,p3,rfl,rfl,h1,h2,h3⟩:=h
 obtain ⟨X1,X2,X3,X4,X5,X6,e,u1,u2,u3,u4,u5,u6⟩:=aU.seven h1
 obtain ⟨Y1,Y2,Y3,Y4,Y5,Y6,e2,v1,v2,v3,v4,v5,v6⟩:=aU.seven h2
 injection e with e
 injection e2 with e2
 subst e e2;refine ⟨_,rfl,rfl, ?_⟩;simp only [List.cons_append,List.nil_append,Bi,CR];exact ⟨rfl,u1,u2,u3,u4,u5,u6,rfl,v1,v2,v3,v4,v5,v6,h3.one,trivial⟩
theorem nI {l : List AV} (h : l.length=15) : ∃ a b c d e f g h i j k m n o p,l=[a,b,c,d,e,f,g,h,i,j,k,m,n,o,p]:=by
 match l,h with
 | [a,b,c,d,e,f,g,h,i,j,k,m,n,o,p],_=>exact ⟨a,b,c,d,e,f,g,h,i,j,k,m,n,o,p,rfl⟩
end Go.Proofs.Shf
namespace Go.Shf
open Go.AW
def thenS (s t : List (List Int)) : List (List Int):=(List.range s.length).map fun x=>(s.getD x default).map fun y=>ix (t.getD x default) y
def CQ (f : SF) (V : List (List Int)) : Prop:=Bu f V∧Bu (AS f V) V
theorem eJ {f : SF} {V : List (List Int)} (h : f.Shape) (hc : f.DJ) (v : Ba f.shape V) {x : Nat} (hx : x<f.A4.length) : ∀ y,y∈(BP f V).getD x default→0≤y∧y.toNat<(B2 f V x).length:=by
 intro y hy
 have Fc:=h.sl
 have VZ:=v.len;rw [BP,AX _ _ hx,Di] at hy
 obtain ⟨e,he,rfl⟩:=List.mem_map.mp hy
 obtain ⟨n,hn,rfl⟩:=List.mem_map.mp he
 have hn:=List.mem_range.mp hn
 have hs:=v.sv x (by omega)
 have hm:=HY (e:=(n : Int)) h hc hs ⟨by omega,by omega⟩
 have:=BD (((C5 h hs).mem _).mpr hm);exact ⟨this.1,this.2.1⟩
theorem bX {f : SF} {V : List (List Int)} (h : f.Shape) (v : Ba f.shape V) {x : Nat} (hx : x<f.A4.length) : ((BP (AS f V) V).getD x default).length=(B2 f V x).length:=by
 have Fc:=h.sl
 have VZ:=v.len
 have h1 : (AS f V).A4.length=V.length:=by simp [AS,BM]
 rw [BP,AX _ _ (by omega),Di,List.length_map,List.length_map,List.length_range]
 have : ix (AS f V).A4 x=((B2 f V x).length : Int):=by
  show ix (BM f V) x=_
  rw [AH,BM,AX _ _ (by omega)]; rfl
 rw [this]; rfl
theorem LI {f : SF} {V : List (List Int)} (h : f.Shape) (hc : f.DJ) (v : Ba f.shape V) : (BP f V).length≤(BP (AS f V) V).length∧(BP f V).length≤8 ∧
  ∀ x,x<(BP f V).length→∀ y,y∈(BP f V).getD x default→0≤y∧y.toNat<((BP (AS f V) V).getD x default).length:=by
 have Fc:=h.sl
 have VZ:=v.len
 have ho:=h.is.1.o
 have h0 : (BP f V).length=f.A4.length:=by simp [BP]
 have h1 : (BP (AS f V) V).length=V.length:=by simp [BP,AS,BM]
 refine ⟨by omega,by omega,fun x hx y hy=>?_⟩;rw [bX h v (by omega)];exact eJ h hc v (by omega) y hy
end Go.Shf
namespace Go.Proofs.Shf
open Go.AW Go.Proofs Go.Shf
theorem fO (B : Nat) {f : SF} {V : List (List Int)} (h : f.Shape) (hc : f.DJ) (v : Ba f.shape V) : PB B 102 [BA (BP f V),BA (BP (AS f V) V)] (BA (thenS (BP f V) (BP (AS f V) V))) :=
 XB B _ _ (LI h hc v).1 (LI h hc v).2.2
theorem QM (B : Nat) {f : SF} {V : List (List Int)} (h : f.Shape) (hc : f.DJ) (v : Ba f.shape V) : PB B 119 [BA (BP f V),BA (BP (AS f V) V)] (BA (thenS (BP f V) (BP (AS f V) V))) :=
 L0 B _ _ (LI h hc v).1 (LI h hc v).2.2
open Classical in
noncomputable def JJ (f : SF) (V : List (List Int)) : List AV:=if CQ f V then Cx (AS f V) V else MN
theorem Vg (f : SF) (V : List (List Int)) : ∃ a1 a2 a3 a4 a5 a6 a7 a8,Jv f V=[a1,a2,a3,a4,a5,a6,a7,a8]∧∀ c,c∈[a1,a2,a3,a4,a5,a6,a7,a8]→c.one=true:=by
 unfold Jv
 split
 ·exact ⟨_,_,_,_,_,_,_,_,rfl,by simp only [Bi,CR]; exact ⟨rfl,rfl,rfl,rfl,rfl,rfl,rfl,rfl,trivial⟩⟩
 ·exact ⟨_,_,_,_,_,_,_,_,rfl,by simp only [Bi,CR]; exact ⟨rfl,rfl,rfl,rfl,rfl,rfl,rfl,rfl,trivial⟩⟩
theorem PE (B : Nat) (f : SF) (h : f.Shape) (V : List (List Int)) (c : Ba f.shape V) : PB B 173 [.agg f.cells,BA V] (.CG [.agg (Jv f V),.agg (JJ f V),.bool (dec (CQ f V))]):=by
 refine ⟨fun H0=>gx.go fun Gi=>tt ?_⟩;refine nb (.nil _) fun BJ H o=>tt ?_;refine nb o fun CP H o=>tt ?_;refine (P4 B f h V c).go fun _=>?_
 by_cases h1 : Bu f V
 ·rw [Xw h1,Aw h1];refine tt ?_;refine nb o fun Cq H o=>tt ?_;refine sw o fun H o=>tt ?_;refine Ac o (by simp) (tt ?_);refine (P4 B (AS f V) (CX h c h1) V c).go fun _=>?_
  obtain ⟨a1,a2,a3,a4,a5,a6,a7,a8,hA,h8⟩:=Vg (AS f V) V
  have hB : JJ f V=[a1,a2,a3,a4,a5,a6,a7,a8]:=by
   rw [← hA,JJ,Jv]
   by_cases h2 : Bu (AS f V) V
   ·rw [if_pos ⟨h1,h2⟩,if_pos h2]
   ·rw [if_neg (fun e=>h2 e.2),if_neg h2]
  have hD : dec (CQ f V)=dec (Bu (AS f V) V):=by
   by_cases h2 : Bu (AS f V) V
   ·rw [Aw h2,Aw ⟨h1,h2⟩]
   ·rw [Aa h2,Aa (fun e=>h2 e.2)]
  rw [hA,hB,hD];refine tt ?_;refine nb o fun Gf H o=>tt ?_;refine Ap o (by simp) (by (try simp only [go_sem]); (try simp)) h8 fun H o=>?_;have o:=s2 o;refine tt ?_;refine D8 9 o rfl fun H o=>?_;refine D8 7 o rfl fun H o=>AY ?_;refine tt ?_;refine sw o.swap fun H o=>tt ?_;refine Ap o.swap (by simp) (by (try simp only [go_sem]); (try simp)) h8 fun H o=>?_;have o:=s2 o;refine tt ?_
  have hr:=o.swap.rc 8 0 (by simp)
  have BV:=o.rc 8 0 (by simp);simp only [List.drop_zero] at hr BV;rw [hr,BV];exact A6 rfl o.sub
 ·have hB : JJ f V=MN:=by rw [JJ,if_neg (fun e=>h1 e.1)]
  rw [YN h1,Aa h1,hB,Aa (fun e=>h1 e.1)];refine tt ?_;refine nb o fun Cq H o=>tt ?_;refine sw o fun H o=>tt ?_;refine sw o.tl.swap fun H o=>tt ?_;refine sw o.swap fun H o=>tt ?_
  have hr:=o.swap.rc 8 0 (by simp)
  have BV:=o.rc 8 0 (by simp);simp only [List.drop_zero] at hr BV;rw [hr,BV];exact A6 rfl o.sub
open Classical in
noncomputable def NL (j : Dw) (f : SF) : List AV:=if codeF j f=0∧CQ f (Aq j.shape j.AP) then Cx f (Aq j.shape j.AP) else MN
open Classical in
noncomputable def NF (j : Dw) (f : SF) : List AV:=if codeF j f=0∧CQ f (Aq j.shape j.AP) then Cx (AS f (Aq j.shape j.AP)) (Aq j.shape j.AP) else MN
open Classical in
noncomputable def Dj (j : Dw) (f : SF) : Int:=if codeF j f=0 then (if CQ f (Aq j.shape j.AP) then 0 else 3) else codeF j f
theorem FM {j : Dw} {f : SF} (h : codeF j f=0) : j.Form∧f.Is∧j.shape=f.shape∧Ba f.shape (Aq f.shape j.AP):=by
 obtain ⟨hF,hf,JQ,FL⟩:=Ng h
 have Gm : Ia j.shape j.AP:=by
  unfold DO at JQ;rw [if_neg (fun e=>e hF)] at JQ
  split at JQ
  ·cases JQ
  ·split at JQ
   ·assumption
   ·cases JQ
 have Ev:=MT hF.is hF.len (fun x hx s hs=>by
  obtain ⟨k,hk,rfl⟩:=AE.mp hs;exact hF.sv x hx k hk) Gm
 rw [FL] at Ev;exact ⟨hF,hf,FL,Ev⟩
theorem RG (B : Nat) (j : Dw) (f : SF) : PB B 95 [.agg j.cells,.agg f.cells] (.CG [.agg (NL j f),.agg (NF j f),.int .i64 (Dj j f)]):=by
 refine ⟨fun H0=>Vw.go fun Gi=>tt ?_⟩;refine nb (.nil _) fun BJ H o=>tt ?_;refine nb o fun CP H o=>tt ?_;refine (O7 B j f).go fun _=>tt ?_;apply bk <;> intro h1
 ·have AR : ¬ codeF j f=0:=by simpa using h1
  refine tt ?_;refine sw o.swap fun H o=>tt ?_;refine sw o.swap fun H o=>tt ?_
  have hr:=o.swap.rc 8 0 (by simp)
  have BV:=o.rc 8 0 (by simp);simp only [List.drop_zero] at hr BV;rw [hr,BV];refine A6 ?_ o.sub;rw [NL,NF,Dj,if_neg (fun e=>AR e.1),if_neg (fun e=>AR e.1),if_neg AR]; rfl
 ·have AR : codeF j f=0:=by simpa using h1
  obtain ⟨hF,hf,FL,Ev⟩:=FM AR;refine tt ?_;refine ⟨_,(H9 B j).run, ?_⟩;rw [FL];refine ⟨_,(PE B f hf.1 (Aq f.shape j.AP) Ev).run, ?_⟩
  obtain ⟨a1,a2,a3,a4,a5,a6,a7,a8,hA,h8⟩:=Vg f (Aq f.shape j.AP)
  obtain ⟨b1,b2,b3,b4,b5,b6,b7,b8,hB,wF⟩ : ∃ b1 b2 b3 b4 b5 b6 b7 b8,JJ f (Aq f.shape j.AP)=[b1,b2,b3,b4,b5,b6,b7,b8]∧∀ c,c∈[b1,b2,b3,b4,b5,b6,b7,b8]→c.one=true:=by
   unfold JJ
   split
   ·exact ⟨_,_,_,_,_,_,_,_,rfl,by simp only [Bi,CR]; exact ⟨rfl,rfl,rfl,rfl,rfl,rfl,rfl,rfl,trivial⟩⟩
   ·exact ⟨_,_,_,_,_,_,_,_,rfl,by simp only [Bi,CR]; exact ⟨rfl,rfl,rfl,rfl,rfl,rfl,rfl,rfl,trivial⟩⟩
  have hAA : CQ f (Aq f.shape j.AP)→NL j f=[a1,a2,a3,a4,a5,a6,a7,a8]:=fun h=>by rw [NL,FL,if_pos ⟨AR,h⟩,← hA,Jv,if_pos h.1]
  have hBB : CQ f (Aq f.shape j.AP)→NF j f=[b1,b2,b3,b4,b5,b6,b7,b8]:=fun h=>by rw [NF,FL,if_pos ⟨AR,h⟩,← hB,JJ,if_pos h]
  rw [hA,hB]
  by_cases Bc : CQ f (Aq f.shape j.AP)
  ·have hC : Dj j f=0:=by rw [Dj,FL,if_pos AR,if_pos Bc]
   rw [Aw Bc];refine tt ?_;refine ⟨⟨by simp [AL],Ai o fun Ea H o=>?_⟩,by simp [AL],Ai o fun Gf H o=>?_⟩
   ·refine tt ?_;refine nb o fun Gf H o=>tt ?_;refine Ap o.swap (by simp) (by (try simp only [go_sem]); (try simp)) h8 fun H o=>?_;have o:=s2 o;refine tt ?_;refine Ap o.swap (by simp) (by (try simp only [go_sem]); (try simp)) wF fun H o=>?_;have o:=s2 o;refine tt ?_;refine D8 9 o rfl fun H o=>?_;refine D8 8 o rfl fun H o=>AY ?_;refine tt ?_;refine Ap o.swap (by simp) (by (try simp only [go_sem]); (try simp)) h8 fun H o=>?_;have o:=s2 o;refine tt ?_;refine Ap o.swap (by simp) (by (try simp only [go_sem]); (try simp)) wF fun H o=>?_;have o:=s2 o;refine tt ?_
    have hr:=o.swap.rc 8 0 (by simp)
    have BV:=o.rc 8 0 (by simp);simp only [List.drop_zero] at hr BV;rw [hr,BV];refine A6 ?_ o.sub;rw [hAA Bc,hBB Bc,hC]; rfl
   ·refine tt ?_;refine nb o fun Ea H o=>tt ?_;refine Ap o (by simp) (by (try simp only [go_sem]); (try simp)) h8 fun H o=>?_;have o:=s2 o;refine tt ?_;refine Ap o.swap (by simp) (by (try simp only [go_sem]); (try simp)) wF fun H o=>?_;have o:=s2 o;refine tt ?_;refine D8 9 o rfl fun H o=>?_;refine D8 8 o rfl fun H o=>AY ?_;refine tt ?_;refine Ap o.swap (by simp) (by (try simp only [go_sem]); (try simp)) h8 fun H o=>?_;have o:=s2 o;refine tt ?_;refine Ap o.swap (by simp) (by (try simp only [go_sem]); (try simp)) wF fun H o=>?_;have o:=s2 o;refine tt ?_
    have hr:=o.swap.rc 8 0 (by simp)
    have BV:=o.rc 8 0 (by simp);simp only [List.drop_zero] at hr BV;rw [hr,BV];refine A6 ?_ o.sub;rw [hAA Bc,hBB Bc,hC]; rfl
  ·have hC : Dj j f=3:=by rw [Dj,FL,if_pos AR,if_neg Bc]
   have iw : NL j f=MN:=by rw [NL,FL,if_neg (fun e=>Bc e.2)]
   have hB0 : NF j f=MN:=by rw [NF,FL,if_neg (fun e=>Bc e.2)]
   rw [Aa Bc];refine tt ?_;refine ⟨⟨by simp [AL],Ai o fun Ea H o=>?_⟩,by simp [AL],Ai o fun Gf H o=>?_⟩
   ·refine tt ?_;refine nb o fun Gf H o=>tt ?_;refine Ap o.swap (by simp) (by (try simp only [go_sem]); (try simp)) h8 fun H o=>?_;have o:=s2 o;refine tt ?_;refine Ap o.swap (by simp) (by (try simp only [go_sem]); (try simp)) wF fun H o=>?_;have o:=s2 o;refine tt ?_;refine sw o.tl.tl.swap fun H o=>tt ?_;refine sw o.swap fun H o=>tt ?_
    have hr:=o.swap.rc 8 0 (by simp)
    have BV:=o.rc 8 0 (by simp);simp only [List.drop_zero] at hr BV;rw [hr,BV];refine A6 ?_ o.sub;rw [iw,hB0,hC]; rfl
   ·refine tt ?_;refine nb o fun Ea H o=>tt ?_;refine Ap o (by simp) (by (try simp only [go_sem]); (try simp)) h8 fun H o=>?_;have o:=s2 o;refine tt ?_;refine Ap o.swap (by simp) (by (try simp only [go_sem]); (try simp)) wF fun H o=>?_;have o:=s2 o;refine tt ?_;refine sw o.tl.tl.swap fun H o=>tt ?_;refine sw o.swap fun H o=>tt ?_
    have hr:=o.swap.rc 8 0 (by simp)
    have BV:=o.rc 8 0 (by simp);simp only [List.drop_zero] at hr BV;rw [hr,BV];refine A6 ?_ o.sub;rw [iw,hB0,hC]; rfl
theorem nH (j : Dw) (f : SF) : ∃ a1 a2 a3 a4 a5 a6 a7 a8,NF j f=[a1,a2,a3,a4,a5,a6,a7,a8]∧∀ c,c∈[a1,a2,a3,a4,a5,a6,a7,a8]→c.one=true:=by
 unfold NF
 split
 ·exact ⟨_,_,_,_,_,_,_,_,rfl,by simp only [Bi,CR]; exact ⟨rfl,rfl,rfl,rfl,rfl,rfl,rfl,rfl,trivial⟩⟩
 ·exact ⟨_,_,_,_,_,_,_,_,rfl,by simp only [Bi,CR]; exact ⟨rfl,rfl,rfl,rfl,rfl,rfl,rfl,rfl,trivial⟩⟩
theorem mT (j : Dw) (f : SF) : ∃ a1 a2 a3 a4 a5 a6 a7 a8,NL j f=[a1,a2,a3,a4,a5,a6,a7,a8]∧∀ c,c∈[a1,a2,a3,a4,a5,a6,a7,a8]→c.one=true:=by
 unfold NL
 split
 ·exact ⟨_,_,_,_,_,_,_,_,rfl,by simp only [Bi,CR]; exact ⟨rfl,rfl,rfl,rfl,rfl,rfl,rfl,rfl,trivial⟩⟩
 ·exact ⟨_,_,_,_,_,_,_,_,rfl,by simp only [Bi,CR]; exact ⟨rfl,rfl,rfl,rfl,rfl,rfl,rfl,rfl,trivial⟩⟩
open Classical in
noncomputable def WI (j : Dw) (f : SF) : List AV:=if codeF j f=0∧CQ f (Aq j.shape j.AP) then
  SM.cells ⟨f,AS (AS f (Aq j.shape j.AP)) (Aq j.shape j.AP),thenS (BP f (Aq j.shape j.AP)) (BP (AS f (Aq j.shape j.AP)) (Aq j.shape j.AP))⟩ else
 [.int .i64 0,.A1,.A1,.A1,.A1,.A1,.A1,.int .i64 0,.A1,.A1,.A1,.A1,.A1,.A1,.A1]
theorem U7 {j : Dw} {f : SF} (hz : Dj j f=0) : codeF j f=0∧CQ f (Aq j.shape j.AP):=by
 have gJ : codeF j f=0:=by
  apply Classical.byContradiction; intro e;rw [Dj,if_neg e] at hz; exact e hz
 refine ⟨gJ, ?_⟩;rw [Dj,if_pos gJ] at hz;apply Classical.byContradiction; intro e;rw [if_neg e] at hz; cases hz
theorem T4 (B : Nat) (j : Dw) (f : SF) : PB B 38 [.agg j.cells,.agg f.cells] (.CG [.agg (WI j f),.int .i64 (Dj j f)]):=by
 refine ⟨fun H0=>c38p.go fun Gi=>tt ?_⟩;refine nb (.nil _) fun BJ H o=>tt ?_;refine (RG B j f).go fun _=>?_
 by_cases hz : Dj j f=0
 ·obtain ⟨gJ,Bc⟩:=U7 hz
  obtain ⟨hF,hf,FL,Ev⟩:=FM gJ
  have hA : NL j f=Cx f (Aq j.shape j.AP):=by rw [NL,if_pos ⟨gJ,Bc⟩]
  have hB : NF j f=Cx (AS f (Aq j.shape j.AP)) (Aq j.shape j.AP):=by rw [NF,if_pos ⟨gJ,Bc⟩]
  have hU : WI j f=SM.cells ⟨f,AS (AS f (Aq f.shape j.AP)) (Aq f.shape j.AP),thenS (BP f (Aq f.shape j.AP)) (BP (AS f (Aq f.shape j.AP)) (Aq f.shape j.AP))⟩:=by
   rw [WI,if_pos ⟨gJ,Bc⟩,FL]
  rw [FL] at Bc hA hB
  have hl:=H9 B j;rw [FL] at hl
  have QD:=CX hf.1 Ev Bc.1;rw [hz,hA,hB,hU]
  generalize Aq f.shape j.AP=V at *
  have wO:=Om B f hf.1 V Ev
  have hu2:=Om B (AS f V) QD V Ev
  have ht:=fO B hf.1 hf.Ei Ev
  have K8:=Ga B f (AS (AS f V) V) (thenS (BP f V) (BP (AS f V) V));refine tt ?_;refine nb o fun F4 H o=>tt ?_;refine nb o fun Cq H o=>tt ?_;refine sw o.swap fun H o=>tt ?_;refine sw o.swap fun H o=>tt ?_;refine ⟨fun e=>(by simp at e),fun _=>At.mk ?_⟩;refine tt ?_;refine hl.go fun _=>tt ?_;refine Ac o (by simp) (tt ?_);refine Ac o.swap (by simp) (tt ?_);refine ⟨_,wO.run, ?_⟩;refine Ac o.swap (by simp) (tt ?_);refine Ac o (by simp) (tt ?_);refine ⟨_,hu2.run, ?_⟩;refine ⟨_,ht.run, ?_⟩;refine ⟨_,K8.run,tt ?_⟩;refine sw o.tl.tl fun H o=>tt ?_
  have hr:=o.rc 15 0 (by simp);simp only [List.drop_zero] at hr;rw [hr];exact A6 rfl o.sub
 ·have hU : WI j f=[.int .i64 0,.A1,.A1,.A1,.A1,.A1,.A1,.int .i64 0,.A1,.A1,.A1,.A1,.A1,.A1,.A1]:=by
   rw [WI,if_neg]
   rintro ⟨e1,e2⟩;rw [Dj,if_pos e1,if_pos e2] at hz;exact hz rfl
  obtain ⟨a1,a2,a3,a4,a5,a6,a7,a8,hA,h1⟩:=mT j f
  obtain ⟨b1,b2,b3,b4,b5,b6,b7,b8,hB,h2⟩:=nH j f;rw [hA,hB,hU]
  generalize Dj j f=cd at *;refine tt ?_;refine nb o fun F4 H o=>tt ?_;refine nb o fun Cq H o=>tt ?_;refine Ap o.swap (by simp) (by (try simp only [go_sem]); (try simp)) h1 fun H o=>?_;have o:=s2 o;refine tt ?_;refine Ap o.swap (by simp) (by (try simp only [go_sem]); (try simp)) h2 fun H o=>?_;have o:=s2 o;refine tt ?_;refine ⟨fun _=>At.mk ?_,fun e=>absurd (by simpa using e) hz⟩;refine tt ?_;refine sw o.tl.tl fun H o=>tt ?_
  have hr:=o.rc 15 0 (by simp);simp only [List.drop_zero] at hr;rw [hr];exact A6 rfl o.sub
end Go.Proofs.Shf
namespace Go.Shf
open Go.AW Go.Proofs.Shf
open Classical in
noncomputable def LH (j : Dw) (f : SF) : SM:=if codeF j f=0∧CQ f (Aq j.shape j.AP) then
 ⟨f,AS (AS f (Aq j.shape j.AP)) (Aq j.shape j.AP),thenS (BP f (Aq j.shape j.AP)) (BP (AS f (Aq j.shape j.AP)) (Aq j.shape j.AP))⟩ else nK
open Classical in
noncomputable def LM (f : SF) (V : List (List Int)) : AV:=if CQ f V then .ptr [Fu f V,Fu (AS f V) V] else .G1
end Go.Shf
namespace Go.Proofs.Shf
open Go.AW Go.Proofs Go.Shf
theorem UG (B : Nat) (v : NQ) (cnt : AV) (f : SF) (h : f.Shape) (FL : v.shape=f.shape) (E6 : (v.marks.length : Int)=f.shape.AO) (Fg : v.BI.length=v.marks.length)
  (Jm : ∀ x,x<v.marks.length→(v.marks.getD x default).length≤(v.BI.getD x default).length∧(v.marks.getD x default).length≤1000000)
  (c : Ba f.shape (EJ v)) : PB B 97 [.ptr (v.cells cnt),.ptr f.cells] (.CG [LM f (EJ v),.bool (dec (CQ f (EJ v)))]):=by
 refine ⟨fun H0=>c97.go fun Gi=>?_⟩
 have q1:=YX B v cnt f h FL E6 Fg Jm c
 have q2:=fun h1=>YX B v cnt (AS f (EJ v)) (CX h c h1) FL E6 Fg Jm c
 generalize v.cells cnt=cv at *
 generalize EJ v=V at *;refine tt ?_;refine q1.go fun _=>?_
 by_cases h1 : Bu f V
 ·rw [Kg,if_pos h1,Aw h1];refine tt ?_;refine (q2 h1).go fun _=>?_
  by_cases h2 : Bu (AS f V) V
  ·rw [Kg,if_pos h2,Aw h2,LM,if_pos ⟨h1,h2⟩,Aw ⟨h1,h2⟩];refine tt ?_;exact A6 rfl (.refl _)
  ·rw [Kg,if_neg h2,Aa h2,LM,if_neg (fun e=>h2 e.2),Aa (fun e=>h2 e.2)];refine tt ?_;exact A6 rfl (.refl _)
 ·rw [Kg,if_neg h1,Aa h1,LM,if_neg (fun e=>h1 e.1),Aa (fun e=>h1 e.1)];refine tt ?_;exact A6 rfl (.refl _)
theorem Rn (B : Nat) (f : SF) (h : f.Shape) (hc : f.DJ) (V : List (List Int)) (c : Ba f.shape V) (Bc : CQ f V) :
  PB B 99 [.ptr [Fu f V,Fu (AS f V) V]] (BA (thenS (BP f V) (BP (AS f V) V))):=by
 refine ⟨fun H0=>c99.go fun Gi=>?_⟩
 have q1:=Xz B f h hc V c Bc.1
 have q2:=Xz B (AS f V) (CX h c Bc.1) (HW h c Bc.1) V c Bc.2
 have q3:=QM B h hc c
 generalize gW : Fu f V=x1 at *
 generalize Qk : Fu (AS f V) V=x2 at *
 generalize wO : BP f V=u1 at *
 generalize hu2 : BP (AS f V) V=u2 at *
 have o1 : x1.one=true:=by rw [← gW]; rfl
 have o2 : x2.one=true:=by rw [← Qk]; rfl
 refine t2 o1 o2 ?_
 refine ⟨_,q1.run, ?_⟩;refine t2 o1 o2 ?_
 refine ⟨_,q2.run, ?_⟩;refine ⟨_,q3.run,tt ?_⟩;exact A6 rfl (.refl _)
theorem LR (B : Nat) (j : Dw) (f : SF) : Gk Tryz.prog B 37 [.agg j.cells,.agg f.cells] fun p X=>mw lJ (Dj j f) p X (LH j f):=by
 refine ⟨fun H0=>nq.go fun _=>?_⟩
 have iE:=fun H=>Sg B j f H;refine tt ?_;refine nb (.nil _) fun id H o=>tt ?_;refine (iE H).mono ?_
 rintro r H ⟨rfl,X,rfl,hX⟩
 by_cases h0 : codeF j f=0
 ·obtain ⟨cnt,rfl⟩:=hX h0
  obtain ⟨hF,hf,JQ,FL⟩:=Ng h0
  have TK : Bg j.shape:=by
   unfold DO at JQ;rw [if_neg (fun e=>e hF)] at JQ;apply Classical.byContradiction; intro e;rw [if_pos e] at JQ; cases JQ
  have Gm : Ia j.shape j.AP:=by
   unfold DO at JQ;rw [if_neg (fun e=>e hF),if_neg (fun e=>e TK)] at JQ;apply Classical.byContradiction; intro e;rw [if_neg e] at JQ; cases JQ
  have Ev:=MT hF.is hF.len (fun x hx s hs=>by
   obtain ⟨k,hk,rfl⟩:=AE.mp hs;exact hF.sv x hx k hk) Gm
  have tab:=Hj hF.is TK
  have E6 : (BS j).marks.length=(AN j.shape).length:=E1
  have K8 : DU (AN j.shape) (BS j).marks:=GH
  have D0:=UG B (BS j) cnt f hf.1 FL (by rw [E6,← FL]; exact tab.len) E6.symm (fun x hx=>by
   have IX : x<(AN j.shape).length:=by rw [← E6]; exact hx
   have h1:=K8.row x IX
   have h2:=tab.Yh x IX
   have h3 : (BS j).BI=AN j.shape:=rfl;rw [h1,h3];exact ⟨Nat.le_refl _,by omega⟩) (by rw [JU hF TK,← FL]; exact Ev)
  rw [JU hF TK] at D0;rw [h0];rw [FL] at Ev
  generalize rO : (BS j).cells cnt=cv at *
  generalize hV : Aq j.shape j.AP=V at *
  have hVs : Aq f.shape j.AP=V:=by rw [← FL]; exact hV
  rw [hVs] at Ev
  have hZ:=fun Bc=>Rn B f hf.1 hf.Ei V Ev Bc
  have Hk:=PI B f (AS (AS f V) V) (thenS (BP f V) (BP (AS f V) V));refine tt ?_;refine ⟨fun e=>(by simp at e),fun _=>At.mk ?_⟩;refine tt ?_;refine D0.go fun _=>?_
  by_cases Bc : CQ f V
  ·have hM : LH j f=⟨f,AS (AS f V) V,thenS (BP f V) (BP (AS f V) V)⟩:=by rw [LH,hV,if_pos ⟨h0,Bc⟩]
   have hC : Dj j f=0:=by rw [Dj,hV,if_pos h0,if_pos Bc]
   rw [LM,if_pos Bc,Aw Bc,hM,hC]
   replace hZ:=hZ Bc;refine tt ?_;refine ⟨_,hZ.run,tt ?_⟩;refine Hk.go o fun Y p H q o _=>?_
   obtain ⟨Ys,rfl,hl,h1⟩:=lJ.YS q;refine tt ?_
   have o:=AA.last o;refine Ap o (by simp) hl h1 fun H o=>?_
   obtain ⟨y1,y2,y3,y4,y5,y6,y7,y8,y9,y10,y11,y12,y13,y14,y15,rfl⟩:=nI hl;have o:=s2 o;refine tt ?_
   have hr:=o.rc 15 0 (by simp);simp only [List.drop_zero] at hr;rw [hr];exact ⟨H,.refl H,p,⟨_,rfl,q⟩,o.tl⟩
  ·have hM : LH j f=nK:=by rw [LH,hV,if_neg (fun e=>Bc e.2)]
   have hC : Dj j f=3:=by rw [Dj,hV,if_pos h0,if_neg Bc]
   rw [LM,if_neg Bc,Aa Bc,hM,hC];refine tt ?_;refine sw o fun H o=>tt ?_
   have hr:=o.rc 15 0 (by simp);simp only [List.drop_zero] at hr;rw [hr];exact ⟨H,.refl H,[],⟨_,rfl,LO⟩,o.tl⟩
 ·have hM : LH j f=nK:=by rw [LH,if_neg (fun e=>h0 e.1)]
  have hC : Dj j f=codeF j f:=by rw [Dj,if_neg h0]
  rw [hM,hC];refine tt ?_;refine ⟨fun _=>At.mk ?_,fun e=>?_⟩;rotate_left
  ·exact absurd (by simpa using e) h0
  refine tt ?_;refine sw o fun H o=>tt ?_
  have hr:=o.rc 15 0 (by simp);simp only [List.drop_zero] at hr;rw [hr];exact ⟨H,.refl H,[],⟨_,rfl,LO⟩,o.tl⟩
end Go.Proofs.Shf
namespace Go.AW
open Go.RowKit
def qL (g : Gh) (B : Nat) (w : World) (X : AB→Prop) (w' : World) : Prop:=∃ g' H',g.le g'∧X H'∧Ao g' B H' w'∧Below B w w'
def Chn (ch : List PanicEntry) : Prop:=∃ t v,ch=[{ v:=.iface t v,recovered:=false }]
def GK (P : Program) (B : Nat) (f : FuncId) (args : List AV) (H : AB) (K : Am) (X : AB→Prop) : Prop :=
 Enters P f∧∀ g w vs,Ao g B H w→Fi g args vs→Calls P f vs w fun e w'=>(∃ v,e=.returned v∧Dk g B w K v w')∨∃ ch,e=.panicked ch∧Chn ch∧qL g B w X w'
theorem GK.mono {P : Program} {B : Nat} {f : FuncId} {args : List AV} {H : AB} {K K' : Am} {X X' : AB→Prop} (h : GK P B f args H K X) (hk : ∀ r H,K r H→K' r H) (hx : ∀ H,X H→X' H) : GK P B f args H K' X' :=
 ⟨h.1,fun g w vs hw hv=>(h.2 g w vs hw hv).mono fun _ _ hh=>by
  rcases hh with ⟨v,e,hf⟩ | ⟨ch,e,hc,g',H',a,b,c⟩
  ·exact .inl ⟨v,e,hf.mono hk⟩
  ·exact .inr ⟨ch,e,hc,g',H',a,hx _ b,c⟩⟩
theorem GK.toH {P : Program} {B : Nat} {f : FuncId} {args : List AV} {H : AB} {K : Am} (h : GK P B f args H K fun _=>False) : B7 P B f args H K :=
 ⟨h.1,fun g w vs hw hv=>(h.2 g w vs hw hv).mono fun _ _ hh=>by
  rcases hh with hh | ⟨ch,e,hc,g',H',a,b,c⟩
  ·exact hh
  ·exact b.elim⟩
def MD (P : Program) (B : Nat) : Option AV→Option (List AV)→Am→(AB→Prop)→AB→Prop
 | some (.fn (.func f) ca),some ais,K,X,H=>GK P B f (ais++ca) H K X
 | _,_,_,_,_=>False
@[go_sem] theorem uP {P : Program} {B : Nat} {H : AB} (f : FuncId) (ca ais : List AV) (K : Am) (X : AB→Prop) : MD P B (some (.fn (.func f) ca)) (some ais) K X H=GK P B f (ais++ca) H K X:=rfl
inductive XC where
 | sc (s : SC)
 | seq (a b : XC)
 | cond (x : X) (a b : XC)
 | block (id : Nat) (c : XC)
 | loop (l : List Nat) (c : XC)
 | B6 (l : List Nat) (c : XC)
 | Ri (pre : List Cu) (d : Option Nat) (f : X) (xs : List X)
 | vZ (pre : List Cu) (x : X)
def oy : Option AV→Prop
 | some (.Rk _ _)=>True
 | _=>False
@[go_sem] theorem pz (t : TypeId) (v : AV) : oy (some (.Rk t v))=True:=rfl
def jZ (x : X) (X0 : AB→Prop) (σ : Env) (H : AB) : Prop:=oy (val σ x)∧X0 H
def Uf (P : Program) (B : Nat) (d : Option Nat) (f : X) (xs : List X) (F : Env→AB→Prop) (X0 : AB→Prop) (σ : Env) (H : AB) : Prop :=
 MD P B (val σ f) (D9 σ xs) (DN d F σ) X0 H
def NJ (P : Program) (B : Nat) : XC→AQ→(AB→Prop)→Env→AB→Prop
 | .sc s,Q,_,σ,H=>FW P B s Q σ H
 | .seq a b,Q,X0,σ,H=>NJ P B a (QW (NJ P B b Q X0) Q) X0 σ H
 | .cond x a b,Q,X0,σ,H=>O4 (val σ x) (NJ P B a Q X0) (NJ P B b Q X0) σ H
 | .block id c,Q,X0,σ,H=>NJ P B c (QJ id Q) X0 σ H
 | .loop l c,Q,X0,σ,H=>mO l (fun Q=>NJ P B c Q X0) Q (Env.B6 l σ) H
 | .B6 l c,Q,X0,σ,H=>NJ P B c Q X0 (Env.B6 l σ) H
 | .Ri pre d f xs,Q,X0,σ,H=>C9 P B pre (Uf P B d f xs (Q .norm) X0) σ H
 | .vZ pre x,_,X0,σ,H=>C9 P B pre (jZ x X0) σ H
section
variable {P : Program} {B : Nat} {Q : AQ} {X0 : AB→Prop} {σ : Env} {H : AB}
@[go_sem] theorem xwp_sc (s : SC) : NJ P B (.sc s) Q X0 σ H=FW P B s Q σ H:=rfl
@[go_sem] theorem ph (a b : XC) : NJ P B (.seq a b) Q X0 σ H=NJ P B a (QW (NJ P B b Q X0) Q) X0 σ H:=rfl
@[go_sem] theorem w9 (x : X) (a b : XC) : NJ P B (.cond x a b) Q X0 σ H=O4 (val σ x) (NJ P B a Q X0) (NJ P B b Q X0) σ H:=rfl
@[go_sem] theorem vT (id : Nat) (c : XC) : NJ P B (.block id c) Q X0 σ H=NJ P B c (QJ id Q) X0 σ H:=rfl
@[go_sem] theorem cw (l : List Nat) (c : XC) : NJ P B (.B6 l c) Q X0 σ H=NJ P B c Q X0 (Env.B6 l σ) H:=rfl
@[go_sem] theorem uC (pre : List Cu) (d : Option Nat) (f : X) (xs : List X) : NJ P B (.Ri pre d f xs) Q X0 σ H=C9 P B pre (Uf P B d f xs (Q .norm) X0) σ H:=rfl
@[go_sem] theorem oz (pre : List Cu) (x : X) : NJ P B (.vZ pre x) Q X0 σ H=C9 P B pre (jZ x X0) σ H:=rfl
@[go_sem] theorem qh (d : Option Nat) (f : X) (xs : List X) (F : Env→AB→Prop) : Uf P B d f xs F X0 σ H=MD P B (val σ f) (D9 σ xs) (DN d F σ) X0 H:=rfl
@[go_sem] theorem tq (x : X) : jZ x X0 σ H=(oy (val σ x)∧X0 H):=rfl
end
def R3 (P : Program) (N : Nat) (ops : Array Oper) (vs pm : List Nat) (draw : Bool) : Option (List Cu × Cu) :=
 let pm:=if pm.isEmpty then List.range ops.size else pm
 match Be P N ops vs pm with
 | some ss =>
  let k:=ops.size - 1
  if draw then
   if SN ops ss pm && P.follows .mixedOrders && decide (0<ops.size) && cls (ss.getD k default).i == 2 &&
    (List.range k).all (fun u=>((Vk ops ops.size 0 []).getD (pm.getD k 0) []).contains (pm.getD u 0)) && (List.range k).all (fun u=>decide (cls (ss.getD u default).i<2)) then some (ss.take k,ss.getD k default) else none
  else if pm=List.range ops.size∧0<ops.size then some (ss.take k,ss.getD k default) else none
 | none=>none
def Gs (P : Program) (N : Nat) (hs : Hints) : XC→Code→Prop
 | .sc s,c=>B4 P N hs c=some s.strip
 | .seq a b,.seq c d=>Gs P N hs a c∧Gs P N hs b d
 | .cond x a b,.cond o c d=>cx o=some x∧Gs P N hs a c∧Gs P N hs b d
 | .block i a,.block j c=>i=j∧Gs P N hs a c
 | .loop _ a,.loop c=>Gs P N hs a c
 | .B6 _ a,c=>Gs P N hs a c
 | .Ri pre d f xs,.region id ops draw=>R3 P N ops ((hs.lookup id).elim [] (·.2)) ((hs.lookup id).elim [] (·.1)) draw=some (pre,⟨d,none,.call f xs⟩)
 | .vZ pre x,.region id ops false=>∃ o y,ops[pre.length]? = some o∧ops.size=pre.length+1∧Be P N ops ((hs.lookup id).elim [] (·.2)) (List.range pre.length)=some pre∧o.op=.panic y∧o.guard=none∧cx y=some x
 | _,_=>False
def Ex (Q : AQ) (X0 : AB→Prop) (g : Gh) (B : Nat) (w0 : World) (N : Nat) (df : List Deferred) : Exit→Act→World→Prop
 | .panic ch=>fun a w=>Chn ch∧qL g B w0 X0 w∧a.tmps.size=N∧a.defers=df
 | e=>Im Q g B w0 N df e
section
variable {P : Program} {B : Nat} {Q : AQ} {X0 : AB→Prop}
theorem Im.toX {g : Gh} {w0 : World} {N : Nat} {df : List Deferred} {e : Exit} {a : Act} {w : World} (h : Im Q g B w0 N df e a w) : Ex Q X0 g B w0 N df e a w:=by
 cases e <;> first | exact h | exact h.elim
theorem Ex.from {g g1 : Gh} {w0 w1 : World} {N : Nat} {df : List Deferred} {e : Exit} {a : Act} {w : World} (hg : g.le g1) (hb : Below B w0 w1) (h : Ex Q X0 g1 B w1 N df e a w) : Ex Q X0 g B w0 N df e a w:=by
 cases e
 case panic ch =>
  obtain ⟨hc,⟨g',H',a1,a2,a3,a4⟩,h2⟩:=h;exact ⟨hc,⟨g',H',hg.trans a1,a2,a3,hb.trans a4⟩,h2⟩
 all_goals first | exact Im.from (e:=.normal) hg hb h | exact Im.from (e:=.exit _) hg hb h | exact Im.from (e:=.ret) hg hb h | exact h
theorem Ch {ops : Array Oper} {R : Exit→Act→World→Prop} : ∀ (l1 l2 : List Nat) (a : Act) (w : World),
  wpOps P ops (fun e a w=>match e with | .normal=>wpOps P ops R l2 a w | e=>R e a w) l1 a w→wpOps P ops R (l1++l2) a w
 | [],l2,a,w,h=>h
 | i::r,l2,a,w,h=>by
  rw [wpOps_cons] at h;rw [List.cons_append,wpOps_cons];unfold wpOp at h ⊢
  have Va : LetsOut (fun e a w=>match e with | .normal=>wpOps P ops R l2 a w | e=>R e a w)→LetsOut R:=fun ⟨a,w,q⟩=>⟨a,w,q⟩
  cases ho : ops[i]? with
  | none=>rw [ho] at h; exact Ch r l2 a w h
  | some o =>
   rw [ho] at h;simp only at h ⊢
   split
   ·rename_i hw
    rw [if_pos hw] at h
    rcases h with h | ⟨h1,h2⟩
    ·refine .inl ?_;unfold Oper.wp at h ⊢
     generalize (execOp a.eval o).run P w=res at h
     cases res with
     | halt hh w' =>
      cases hh <;> exact h
     | ok n w' =>
      cases n <;> try exact Ch r l2 _ _ h
      all_goals try exact h
      ·refine Calls.mono h fun e w'' q=>?_
       cases e with
       | returned v=>exact Ch r l2 _ _ q
       | panicked ch=>exact q
       | outgrown=>exact Va q
      ·exact Rows.mono h fun v w'' q=>Ch r l2 _ _ q
    ·exact .inr ⟨h1,Va h2⟩
   ·rename_i hw
    rw [if_neg hw] at h;exact Ch r l2 _ _ h
end
end Go.AW
namespace Go.AW
open Go.RowKit
section
variable {P : Program} {B N : Nat} {ops : Array Oper} {hs : List Nat} {g : Gh} {H : AB} {w : World}
theorem Yt {o : Oper} {h : Nat} {f : X} {xs : List X} (hc : Dz P h o.op=some (.call f xs)) {σ : Env} {a : Act} (hE : Cc g σ a.tmps) {fid : FuncId} {ca ais : List AV}
  (hf : val σ f=some (.fn (.func fid) ca)) (hx : D9 σ xs=some ais) (he : Enters P fid) : ∃ vs,(execOp a.eval o).run P w=.ok (.enter fid vs) w∧Fi g (ais++ca) vs:=by
 cases Km : o.op
 case call c =>
  obtain ⟨callee,args,argTypes⟩:=c;rw [Km] at hc;simp only [Dz] at hc
  cases callee with
  | value ff =>
   simp only at hc
   cases h1 : cx ff <;> cases h2 : c9 args.toList <;> simp [h1,h2] at hc
   rename_i f' xs'
   split at hc
   ·cases hc
   ·split at hc
    ·cases hc
    ·split at hc
     ·cases hc
     cases hc
     have VH : (args.toList.map a.eval).toArray=args.map a.eval:=by apply Array.ext'; simp
     have gT:=Ar hE h1 hf
     have jF:=Jk hE h2 hx;rw [VH] at jF
     obtain ⟨cv,TB,TH⟩ : ∃ cv,a.eval ff=.func (.func fid) #[] cv∧Fi g ca cv:=by
      generalize a.eval ff=uf at gT
      cases gT
      rename_i cv K6 Kl
      exact ⟨cv,rfl,K6,Kl⟩
     obtain ⟨fn,k1,k2,k3⟩:=he;refine ⟨args.map a.eval++cv, ?_,jF.append TH⟩;unfold execOp;rw [Km];simp only [resolve,TB,Deferred.ofValue,Sem.run_bind,Sem.run_pure,Result.andThen_ok,Go.invoke,Array.empty_append,callFunc,run_program,k1,k2,k3,Bool.false_eq_true,if_false]
  | invoke x n =>
   simp only at hc
   cases h1 : cx x <;> cases h2 : c9 args.toList <;> simp [h1,h2] at hc
  | builtin b =>
   cases b <;> simp only at hc <;> first | (cases hc; done) | (repeat' split at hc) <;> simp at hc
 all_goals
  rw [Km] at hc;simp only [Dz] at hc
  first | (cases hc; done) | (simp at hc; done) | ((repeat' split at hc) <;> first | (simp at hc; done) | contradiction | (simp_all; done))
theorem RF {l : List Nat} {σ : Env} : ∀ t,t∈l→(Env.B6 l σ).get t=σ.get t:=by
 intro t ht
 induction l with
 | nil=>simp at ht
 | cons x r ih =>
  simp only [Env.B6,Env.get]
  split
  ·rename_i e; rw [e]
  ·rename_i e
   rcases List.mem_cons.1 ht with h | h
   ·exact absurd h e
   ·exact ih h
theorem To {ov : Option AV} {oas : Option (List AV)} {K : Am} {X0 : AB→Prop} (h : MD P B ov oas K X0 H) : ∃ fid ca ais,ov=some (.fn (.func fid) ca)∧oas=some ais∧GK P B fid (ais++ca) H K X0:=by
 unfold MD at h
 split at h
 ·exact ⟨_,_,_,rfl,rfl,h⟩
 ·exact h.elim
theorem O9 {i : Nat} {d : Option Nat} {f : X} {xs : List X} (Jt : Of P N ops hs i ⟨d,none,.call f xs⟩) {σ : Env} {a : Act} {Q : Exit→Act→World→Prop} {next : Act→World→Prop} {K : Am} {X0 : AB→Prop}
  (hW : Ao g B H w) (hE : Cc g (Env.B6 (looks ⟨d,none,.call f xs⟩) σ) a.tmps) (hk : MD P B (val σ f) (D9 σ xs) K X0 H)
  (Ip : ∀ v w',Dk g B w K v w'→next (a.put d v) w') (hpan : ∀ ch w',Chn ch→qL g B w X0 w'→Q (.panic ch) a w') : wpOp P ops Q i next a w:=by
 obtain ⟨o,ho,hd,Km,hg,aP⟩:=Jt.dst;simp only at hd Km hg
 have Ve : o.guard=none:=by
  cases Ve : o.guard with
  | none=>rfl
  | some jb =>
   rw [Ve] at hg
   obtain ⟨j,b⟩:=jb;simp only [El] at hg
   cases hj : (ops[j]?).bind (·.dst) with
   | none=>simp [hj] at hg
   | some t=>simp [hj] at hg
 obtain ⟨fid,ca,ais,e1,e2,hc⟩:=To hk
 have c1 : val σ f=val (Env.B6 (looks ⟨d,none,.call f xs⟩) σ) f:=val_congr fun t ht=>(RF t (by simp [looks,Gx,ht])).symm
 have c2 : D9 σ xs=D9 (Env.B6 (looks ⟨d,none,.call f xs⟩) σ) xs:=D4 fun t ht=>(RF t (by simp [looks,Gx,ht])).symm
 obtain ⟨vs,r1,r2⟩:=Yt (w:=w) Km hE (c1.symm.trans e1) (c2.symm.trans e2) hc.1;unfold wpOp;simp only [ho,Region.wanted,Ve,if_true];refine .inl ?_;unfold Oper.wp;rw [r1,Oper.upon_enter];refine (hc.2 g w vs hW r2).mono fun e w' hh=>?_
 rcases hh with ⟨v,rfl,hf⟩ | ⟨ch,rfl,h1,h2⟩
 ·rw [hd]; exact Ip v w' hf
 ·exact hpan ch w' h1 h2
theorem Jy : ∀ {l1 l2 : List Nat} {ss : List Cu},Be P N ops hs (l1++l2)=some ss→Be P N ops hs l1=some (ss.take l1.length)∧Be P N ops hs l2=some (ss.drop l1.length)
 | [],l2,ss,h=>⟨rfl,h⟩
 | i::r,l2,ss,h=>by
  rw [List.cons_append] at h;unfold Be at h
  cases ho : ops[i]? with
  | none=>simp [ho] at h
  | some o =>
   simp only [ho] at h
   cases Rf : E8 P N ops (hs.getD i 0) o with
   | none=>simp only [Rf,JE,reduceCtorEq] at h
   | some so =>
    cases TH : Be P N ops hs (r++l2) with
    | none=>simp only [Rf,TH,JE,reduceCtorEq] at h
    | some sr =>
     simp only [Rf,TH,JE,Option.some.injEq] at h;subst h
     obtain ⟨h1,h2⟩:=Jy TH;refine ⟨?_,by simpa using h2⟩;unfold Be;simp only [ho,Rf,h1,JE,List.length_cons,List.take_succ_cons]
theorem WD {pre : List Cu} {d : Option Nat} {f : X} {xs : List X} {pm : List Nat} (hc : R3 P N ops hs pm false=some (pre,⟨d,none,.call f xs⟩)) {Q : AQ} {X0 : AB→Prop} {df : List Deferred} {σ : Env} {a : Act}
  (hW : Ao g B H w) (hE : Cc g σ a.tmps) (hN : a.tmps.size=N) (hd : a.defers=df) (hk : C9 P B pre (Uf P B d f xs (Q .norm) X0) σ H) (id : Nat) :
  (Code.region id ops false).wp P (Ex Q X0 g B w N df) a w:=by
 simp only [R3] at hc
 generalize (if pm.isEmpty then List.range ops.size else pm)=pm' at hc
 cases gL : Be P N ops hs pm' with
 | none=>simp [gL] at hc
 | some ss =>
  simp only [gL,Bool.false_eq_true,if_false] at hc
  split at hc
  ·rename_i hh
   obtain ⟨rfl,h0⟩:=hh;simp only [Option.some.injEq,Prod.mk.injEq] at hc
   obtain ⟨Io,Er⟩:=hc
   have hr : List.range ops.size=List.range (ops.size - 1)++[ops.size - 1]:=by
    conv=>lhs; rw [show ops.size=ops.size - 1+1 by omega,List.range_succ]
   rw [hr] at gL
   obtain ⟨k1,k2⟩:=Jy gL;rw [List.length_range] at k1 k2;rw [Io] at k1
   have Jt:=(IG gL).2 (ops.size - 1) (by simp);rw [Er,gE,List.getElem?_append_right (by simp)] at Jt;simp only [List.length_range,Nat.sub_self,List.getElem?_cons_zero,Option.getD_some] at Jt;refine wp_region ?_;rw [hr];refine Ch _ _ _ _ ?_;refine G2 _ _ k1 _ g H w σ a _ hW hE hN hd hk fun a' w' hp=>?_
   obtain ⟨g',σ',H',q1,q2,q3,q4,q5,q6,q7⟩:=hp
   show wpOps P ops (Ex Q X0 g B w N df) [ops.size - 1] a' w'
   rw [wpOps_cons];refine O9 Jt q3 (q4.B6 _) q2 (fun v w2 hf=>?_) (fun ch w2 h1 h2=>?_)
   ·obtain ⟨g2,r,H2,a1,a2,a3,a4,a5⟩:=hf
    obtain ⟨o,ho,jH,Km,hg,aP⟩:=Jt.dst
    have D1 : ∀ t,d=some t→t<a'.tmps.size:=fun t ht=>by
     rw [ht] at aP;simp only [PW,Bool.and_eq_true,decide_eq_true_eq] at aP;rw [q6]; exact aP.1
    refine ⟨g2,DC d σ' (some r),H2,q1.trans a1,G3 a2,a4, ?_,q5.trans a5,by rw [DL]; exact q6,by rw [put_defers]; exact q7⟩
    cases d with
    | none=>exact q4.mono a1
    | some t=>exact (q4.mono a1).put (D1 t rfl) a3
   ·obtain ⟨g2,H2,a1,a2,a3,a4⟩:=h2;exact ⟨h1,⟨g2,H2,q1.trans a1,a2,a3,q5.trans a4⟩,q6,q7⟩
  ·cases hc
end
end Go.AW
namespace Go.AW
open Go.RowKit
section
variable {P : Program} {B N : Nat} {ops : Array Oper} {hs : List Nat} {n : Nat} {p : Nat→Nat} {s : Nat→Cu} {ex : Nat→Bool} {σ0 : Env}
theorem kQ {Q : Exit→Act→World→Prop} {D : Array Bool} {a : Act} {w : World} (hd : D.size=ops.size) (Ak : ∀ i,i<ops.size→Fl D i) (hq : Q .normal a w) : ∀ fuel,wpAny P .any ops Q fuel D a w:=by
 have gI : ∀ i,i ∉ Region.ready .any ops D:=fun i hi=>by
  rw [G5 hd] at hi;exact hi.2.1 (Ak i hi.1)
 intro fuel
 cases fuel with
 | zero =>
  refine ⟨?_,hq⟩
  cases hr : Region.ready .any ops D with
  | nil=>rfl
  | cons i r=>exact absurd (by rw [hr]; simp) (gI i)
 | succ fuel=>exact ⟨fun _=>hq,fun i hi=>absurd hi (gI i)⟩
theorem R9 {pre : List Cu} {d : Option Nat} {f : X} {xs : List X} {k : Nat} (pl : Iw P N ops hs n p s ex) (hk : k+1=n) (HI : pre.length=k) (Ls : s k=⟨d,none,.call f xs⟩)
  (oJ : ∀ u,u<k→∀ D,Down ops D→(∀ e,e∈Cl ops (p k)→Fl D e)→Fl D (p u)) {Q : AQ} {X0 : AB→Prop} {g0 : Gh} {w0 : World} {df : List Deferred} :
  ∀ (fuel : Nat) (D : Array Bool) (σ : Env) (g : Gh) (H : AB) (w : World) (a : Act),D.toList.count false=fuel →
   Inv P B N ops n p s pre (Uf P B d f xs (Q .norm) X0) σ0 D k σ g H w a→g0.le g→Below B w0 w→a.defers=df→wpAny P .any ops (Ex Q X0 g0 B w0 N df) fuel D a w
 | 0,D,σ,g,H,w,a,hc,I,hg,hb,hd=>by
  have:=I.pre k (by omega) (Rq (I.dsz.trans pl.size) hc _ (pl.lt k (by omega)));omega
 | fuel+1,D,σ,g,H,w,a,hc,I,hg,hb,hd=>by
  refine ⟨fun hr=>?_,fun i hi=>?_⟩
  ·have:=I.pre k (by omega) (HG pl I.dsz hr k (by omega));omega
  ·rw [G5 I.dsz] at hi
   obtain ⟨XX,KA,rM⟩:=hi
   obtain ⟨u,hu,rfl⟩:=pl.sG i (by rw [← pl.size]; exact XX)
   have E2:=Vn rM
   have VN:=M6 (by rw [I.dsz]; exact XX) KA hc
   by_cases aE : u<k
   ·refine SV pl I hu aE KA E2 fun x g' w' e1 e2 e3 e4=>?_;exact R9 pl hk HI Ls oJ fuel _ σ g' H w' _ VN (Pb pl I hu aE KA E2 x e1 e2 e4) (hg.trans e1) (hb.trans e3) (by rw [put_defers]; exact hd)
   ·have huk : u=k:=by omega
    subst huk
    have Q3 : Uf P B d f xs (Q .norm) X0 σ H:=by
     have:=I.go;rw [List.drop_eq_nil_of_le (by omega)] at this;exact this
    have hE:=MA (σu:=σ) pl I hu (Nat.le_refl _) KA E2 fun t ht=>⟨fun _ _ _=>rfl,fun ES=>I.same t ES⟩
    have Jt:=pl.of u hu;rw [Ls] at hE Jt
    have CU : p u<D.size:=by rw [I.dsz]; exact XX
    have Ak : ∀ i,i<ops.size→Fl (D.setIfInBounds (p u) true) i:=fun i hi=>by
     obtain ⟨u',h1,rfl⟩:=pl.sG i (by rw [← pl.size]; exact hi);rw [Dm CU]
     by_cases e : u'=u
     ·rw [e]; exact .inl rfl
     ·exact .inr (oJ u' (by omega) D I.down E2)
    refine O9 Jt I.rel hE Q3 (fun v w' hf=>?_) (fun ch w' h1 h2=>?_)
    ·obtain ⟨g2,r,H2,a1,a2,a3,a4,a5⟩:=hf
     have I1 : Inv P B N ops n p s pre (fun _ _=>True) σ0 D u σ g H w a:=⟨I.dsz,I.down,I.vle,I.pre,I.wr,I.Jr,I.new,I.pend,I.same,by rw [List.drop_eq_nil_of_le (by omega)]; trivial,I.rel,I.size⟩
     have I2:=MH pl I1 hu (by rw [Ls]; rfl) KA E2 v (some r) a1 a4 (fun r' hr=>by cases hr; exact a3) ⟨fun Xf=>by rw [Ls] at Xf; simp [keeps] at Xf,fun z Xf=>by rw [Ls] at Xf; simp [mV,keeps] at Xf⟩ (by rw [List.drop_eq_nil_of_le (by omega)]; trivial)
     have I3 : Inv P B N ops n p s (List.replicate n default) (fun _ _=>True) σ0 (D.setIfInBounds (p u) true) (u+1) (DC (s u).d σ (some r)) g2 H2 w' (a.put (s u).d v) :=
      ⟨I2.dsz,I2.down,I2.vle,I2.pre,I2.wr,I2.Jr,I2.new,I2.pend,I2.same,by rw [List.drop_eq_nil_of_le (by simp; omega)]; trivial,I2.rel,I2.size⟩
     obtain ⟨-,b2,b3⟩:=S0 pl (by simp) I3 fun i hi=>Ak i (by rw [pl.size]; exact hi);rw [Ls] at b3;refine kQ (by simp [I.dsz]) Ak ?_ fuel;exact ⟨g2,DC d σ (some r),H2,hg.trans a1,G3 a2,b2,b3,hb.trans a5,by rw [DL]; exact I.size,by rw [put_defers]; exact hd⟩
    ·obtain ⟨g2,H2,a1,a2,a3,a4⟩:=h2;exact ⟨h1,⟨g2,H2,hg.trans a1,a2,a3,hb.trans a4⟩,I.size,hd⟩
theorem UB {pre : List Cu} {d : Option Nat} {f : X} {xs : List X} {pm : List Nat} (hc : R3 P N ops hs pm true=some (pre,⟨d,none,.call f xs⟩)) {Q : AQ} {X0 : AB→Prop} {df : List Deferred} {σ : Env} {a : Act} {g : Gh} {H : AB} {w : World}
  (hW : Ao g B H w) (hE : Cc g σ a.tmps) (hN : a.tmps.size=N) (hd : a.defers=df) (hk : C9 P B pre (Uf P B d f xs (Q .norm) X0) σ H) (id : Nat) :
  (Code.region id ops true).wp P (Ex Q X0 g B w N df) a w:=by
 simp only [R3] at hc
 generalize (if pm.isEmpty then List.range ops.size else pm)=pm' at hc
 cases gL : Be P N ops hs pm' with
 | none=>simp [gL] at hc
 | some ss =>
  simp only [gL,if_true] at hc
  split at hc
  ·rename_i hh
   simp only [Option.some.injEq,Prod.mk.injEq] at hc
   obtain ⟨rfl,Er⟩:=hc;simp only [Bool.and_eq_true,decide_eq_true_eq,List.all_eq_true,List.mem_range] at hh
   obtain ⟨⟨⟨⟨⟨Q7,tC⟩,h0⟩,h2⟩,Md⟩,hlow⟩:=hh
   obtain ⟨pl,hlen⟩:=j4 gL Q7;refine wp_region_any tC ?_
   have CJ : ∀ u,u<ops.size→pm'.getD u 0<ops.size:=pl.lt
   have hD : ∀ i,i<ops.size→¬ Fl (Array.replicate ops.size false) i:=by
    intro i hi h
    simp [Fl,Array.getD,hi] at h
   have Kn : (ss.take (ops.size - 1)).length=ops.size - 1:=by rw [List.length_take]; omega
   have Hl : ∀ u,u<ops.size→ss[u]? = some (ss.getD u default):=fun u hu=>by
    rw [gE,List.getElem?_eq_getElem (by omega)]; rfl
   have HI : ∀ u,u<ops.size - 1→(ss.take (ops.size - 1))[u]? = some (ss.getD u default):=fun u hu=>by rw [List.getElem?_take_of_lt hu,Hl u (by omega)]
   have I : Inv P B N ops ops.size (fun u=>pm'.getD u 0) (fun u=>ss.getD u default) (ss.take (ops.size - 1)) (Uf P B d f xs (Q .norm) X0) σ (Array.replicate ops.size false) 0 σ g H { w with drawn:=w.drawn+1 } a :=
    ⟨by simp,fun i hi h=>absurd h (hD i hi),Nat.zero_le _,fun u hu h=>absurd h (hD _ (pl.lt u hu)),fun u hu=>by omega,fun t x hx _=>hE t x hx,fun u hu=>by omega,fun u hu=>by omega,
     fun t _=>rfl,hk,hW.drew,hN⟩
   obtain ⟨v',σ',I',-,hle,TN⟩:=advance pl (ops.size - 1) (by omega) (fun _=>by simpa using h2) HI _ 0 σ rfl (Nat.zero_le _) I
   have iz : v'=ops.size - 1:=by
    refine Classical.byContradiction fun Bp=>?_
    have h1:=hlow v' (by omega)
    have h2 : cls (ss.getD v' default).i=2:=TN (by omega);omega
   subst iz;refine R9 pl (by omega) Kn Er (fun u hu D lh E2=>?_) ops.size _ σ' g H _ a (by simp) I' (.refl g) ((Below.refl B w).drew) hd;exact G8 lh ops.size 0 [] rfl (fun k hk=>by omega) (by omega) _ (by rw [Nat.zero_add]; exact CJ _ (by omega)) _ (List.contains_iff_mem.mp (Md u hu)) E2
  ·cases hc
theorem Yu {Hl : Hints} {pre : List Cu} {x : X} {id : Nat} (hf : Gs P N Hl (.vZ pre x) (.region id ops false)) {Q : AQ} {X0 : AB→Prop} {df : List Deferred} {σ : Env} {a : Act} {g : Gh} {H : AB} {w : World}
  (hW : Ao g B H w) (hE : Cc g σ a.tmps) (hN : a.tmps.size=N) (hd : a.defers=df) (hk : C9 P B pre (jZ x X0) σ H) : (Code.region id ops false).wp P (Ex Q X0 g B w N df) a w:=by
 obtain ⟨o,y,ho,CU,gL,Km,Ve,hcx⟩:=hf;refine wp_region ?_;rw [CU,List.range_succ];refine Ch _ _ _ _ ?_;refine G2 _ _ gL _ g H w σ a _ hW hE hN hd hk fun a' w' hp=>?_
 obtain ⟨g',σ',H',q1,⟨q2,q2'⟩,q3,q4,q5,q6,q7⟩:=hp
 show wpOps P ops (Ex Q X0 g B w N df) [pre.length] a' w'
 rw [wpOps_cons];unfold wpOp;simp only [ho,Region.wanted,Ve,if_true];refine .inl ?_;unfold oy at q2
 split at q2
 ·rename_i t v hv
  have hr:=Ar q4 hcx hv;unfold Oper.wp execOp;rw [Km]
  obtain ⟨u,hu⟩ : ∃ u,a'.eval y=.iface t u:=by
   generalize a'.eval y=uu at hr
   cases hr; exact ⟨_,rfl⟩
  simp only [hu,Sem.run_bind,run_panic_iface,Result.andThen_halt];exact ⟨⟨t,u,rfl⟩,⟨g',H',q1,q2',q3,q5⟩,q6,q7⟩
 ·exact q2.elim
theorem UN {df : List Deferred} {x y : Code} {A : Env→AB→Prop} {Q : AQ} {X0 : AB→Prop} {g : Gh} {w : World} {a : Act}
  (h1 : x.wp P (Ex (QW A Q) X0 g B w N df) a w)
  (h2 : ∀ g' σ' H' w' a',Ao g' B H' w'→Cc g' σ' a'.tmps→a'.tmps.size=N→a'.defers=df→A σ' H'→y.wp P (Ex Q X0 g' B w' N df) a' w') :
  (Code.seq x y).wp P (Ex Q X0 g B w N df) a w:=by
 refine wp_seq (wp_mono h1 fun e a' w' hp=>?_)
 cases e with
 | normal =>
  obtain ⟨g',σ',H',q1,q2,q3,q4,q5,q6,q7⟩:=hp;exact wp_mono (h2 g' σ' H' w' a' q3 q4 q6 q7 q2) fun e2 a2 w2 Er=>Er.from q1 q5
 | exit id=>exact hp
 | ret=>exact hp
 | goto l=>exact hp.elim
 | panic ch=>exact hp
 | outgrown=>exact hp.elim
theorem Yz {hs : Hints} {df : List Deferred} : ∀ (s : XC) (c : Code),Gs P N hs s c →
  ∀ (Q : AQ) (X0 : AB→Prop) (g : Gh) (H : AB) (w : World) (σ : Env) (a : Act),Ao g B H w→Cc g σ a.tmps→a.tmps.size=N→a.defers=df →
   NJ P B s Q X0 σ H→c.wp P (Ex Q X0 g B w N df) a w:=by
 intro s
 induction s with
 | sc s =>
  intro c hc Q X0 g H w σ a hW hE hN hd hk;exact wp_mono (Hb s c hc Q g H w σ a hW hE hN hd hk) fun e a' w' hp=>hp.toX
 | seq x y ihx ihy =>
  intro c hc Q X0 g H w σ a hW hE hN hd hk
  cases c <;> try exact hc.elim
  obtain ⟨h1,h2⟩:=hc;exact UN (ihx _ h1 _ X0 g H w σ a hW hE hN hd hk) fun g' σ' H' w' a' p1 p2 p3 p4 p5=>ihy _ h2 Q X0 g' H' w' σ' a' p1 p2 p3 p4 p5
 | cond z x y ihx ihy =>
  intro c hc Q X0 g H w σ a hW hE hN hd hk
  cases c <;> try exact hc.elim
  obtain ⟨hz,h1,h2⟩:=hc;simp only [NJ] at hk
  cases hv : val σ z with
  | none=>simp [hv,O4] at hk
  | some v =>
   have hr:=Ar hE hz hv;rw [hv] at hk
   cases v <;> try (simp [O4] at hk; done)
   rename_i o _ _ b
   have hb : a.eval o=.bool b:=by
    generalize a.eval o=u at hr
    cases hr; rfl
   simp only [O4,At] at hk;refine wp_cond_split hb (fun ht=>?_) (fun hf=>?_)
   ·exact ihx _ h1 Q X0 g H w σ a hW hE hN hd (hk.1 ht)
   ·exact ihy _ h2 Q X0 g H w σ a hW hE hN hd (hk.2 hf)
 | block id x ih =>
  intro c hc Q X0 g H w σ a hW hE hN hd hk
  cases c <;> try exact hc.elim
  obtain ⟨rfl,h1⟩:=hc;refine wp_block (wp_mono (ih _ h1 _ X0 g H w σ a hW hE hN hd hk) fun e a' w' hp=>?_)
  cases e with
  | normal=>exact hp
  | exit CT =>
   simp only [Exit.inBlock];simp only [Ex,Im,GJ,QJ] at hp
   by_cases h : CT=id
   ·rw [if_pos h]; simp only [h,if_true] at hp; exact hp
   ·rw [if_neg h]; simp only [h,if_false] at hp; exact hp
  | ret=>exact hp
  | goto l=>exact hp.elim
  | panic ch=>exact hp
  | outgrown=>exact hp.elim
 | loop l x ih =>
  intro c hc Q X0 g H w σ a hW hE hN hd hk
  cases c <;> try exact hc.elim
  have h1:=hc
  obtain ⟨I,n,σ0,H0,k1,k2,k3⟩:=hk
  obtain ⟨g0,r1,r2,r3⟩:=k2 g B w a.tmps hW (hE.B6 l);refine Up (fun n a' w'=>GJ (I n) g B w N df a' w') (n:=n) ⟨g0,σ0,H0,r1,k1,r2,r3,.refl B w,hN,hd⟩ ?_
  intro n a' w' ⟨g',σ',H',q1,q2,q3,q4,q5,q6,q7⟩;refine wp_mono (ih _ h1 _ X0 g' H' w' σ' a' q3 q4 q6 q7 (k3 n σ' H' q2)) fun e a2 w2 hp=>?_
  cases e with
  | normal =>
   obtain ⟨g2,σ2,H2,p1,⟨m,σ3,H3,hm,hI,aH⟩,p3,p4,p5,p6,p7⟩:=hp
   obtain ⟨g3,s1,s2,s3⟩:=aH g2 B w2 a2.tmps p3 (p4.B6 l);exact ⟨m,hm,g3,σ3,H3,q1.trans (p1.trans s1),hI,s2,s3,q5.trans p5,p6,p7⟩
  | exit CT=>exact Ex.from (Q:=Q) (X0:=X0) (e:=.exit CT) q1 q5 hp
  | ret=>exact Ex.from (Q:=Q) (X0:=X0) (e:=.ret) q1 q5 hp
  | goto l=>exact hp.elim
  | panic ch=>exact Ex.from (Q:=Q) (X0:=X0) (e:=.panic ch) q1 q5 hp
  | outgrown=>exact hp.elim
 | B6 l x ih =>
  intro c hc Q X0 g H w σ a hW hE hN hd hk;exact ih c hc Q X0 g H w _ a hW (hE.B6 l) hN hd hk
 | Ri pre d f xs =>
  intro c hc Q X0 g H w σ a hW hE hN hd hk
  cases c <;> try exact hc.elim
  rename_i id ops draw
  cases draw with
  | true=>exact UB hc hW hE hN hd hk id
  | false=>exact WD hc hW hE hN hd hk id
 | vZ pre x =>
  intro c hc Q X0 g H w σ a hW hE hN hd hk
  cases c <;> try exact hc.elim
  rename_i id ops draw
  cases draw with
  | true=>exact hc.elim
  | false=>exact Yu hc hW hE hN hd hk
end
end Go.AW
namespace Go.AW
open Go.RowKit
section
variable {P : Program} {B : Nat}
theorem V8 {args : List AV} {g : Gh} {vs : Array Value} {n : Nat} (hv : Fi g args vs) (VJ : args.length≤n) : (vs++Array.replicate (n - vs.size) undef).size=n∧Cc g (GV 0 args) (vs++Array.replicate (n - vs.size) undef):=by
 have CU : (vs++Array.replicate (n - vs.size) undef).size=n:=by have:=hv.1; simp; omega
 refine ⟨CU,fun t v ht=>?_⟩
 obtain ⟨h1,h2,h3⟩:=MG args 0 t v ht;simp only [Nat.zero_add,Nat.sub_zero] at h2 h3;refine ⟨by rw [CU]; omega, ?_⟩
 have : (vs++Array.replicate (n - vs.size) undef).getD t undef=vs.getD t undef:=by
  simp only [Array.getD_eq_getD_getElem?];rw [Array.getElem?_append_left (by rw [hv.1]; exact h2)]
 rw [this,h3];exact hv.2 t h2
theorem Sa {fn : Func} {rvs : List RV} (hr : EU P fn.results.toList=some rvs) {K : Am} {e : AEx} {σ : Env} {H : AB} {g g' : Gh} {a : Act} {w w' : World} (hq : Qa rvs K e σ H) (hle : g.le g') (hW : Ao g' B H w') (hE : Cc g' σ a.tmps) (iH : Below B w w') :
  ∃ v,(results fn a.tmps).run P w'=.ok v w'∧Dk g B w K v w':=by
 have NX : MP (MU σ H rvs) (Ik K) H:=by cases e <;> first | exact hq | exact hq.elim
 cases N5 : MU σ H rvs with
 | none=>simp [N5,MP] at NX
 | some avs =>
  rw [N5] at NX
  obtain ⟨us,p1,p2,p3⟩:=Sj (P:=P) hW hE hr N5
  have Ip : (results fn a.tmps).run P w'=.ok (if h : us.toArray.size=1 then us.toArray[0] else .tuple us.toArray) w':=by
   unfold results;rw [Array.mapM_eq_mapM_toList]
   have p1' : ((fn.results.toList.mapM fun r=>(match r with
    | .tmp t=>pure (a.tmps.getD t undef)
    | .cell ad t=>do loadVar t (← asAddr (a.tmps.getD ad undef)) : Sem Value)) : Sem (List Value)).run P w'=.ok us w':=p1
   simp only [Sem.run_bind,Sem.run_map];refine Eq.trans (congrArg (fun r=>Result.andThen (Result.andThen r _) _) p1') ?_
   rfl
  refine ⟨_,Ip, ?_⟩
  by_cases Iq : avs.length=1
  ·obtain ⟨v,rfl⟩:=List.length_eq_one_iff.1 Iq;simp only [MP] at NX
   obtain ⟨H2,QD,Hm⟩:=NX
   obtain ⟨u,rfl⟩:=List.length_eq_one_iff.1 (p2.trans rfl);refine ⟨g',v,H2,hle,Hm, ?_,hW.sub QD,iH⟩
   simpa using p3 0 (by simp)
  ·have Mf : Ik K (.CG avs) H:=by
    cases avs with
    | nil=>exact NX
    | cons v1 r=>cases r with
     | nil=>exact absurd rfl Iq
     | cons v2 r=>exact NX
   obtain ⟨H2,QD,Hm⟩:=Mf
   have Bp : ¬ us.toArray.size=1:=by simp; omega
   refine ⟨g',.CG avs,H2,hle,Hm, ?_,hW.sub QD,iH⟩;rw [dif_neg Bp];exact .CG avs us.toArray (by simp [p2]) fun i hi=>by simpa using p3 i hi
theorem GK.bH {f : FuncId} {fn : Func} {c : Code} {s : XC} {hs : Hints} {rvs : List RV} (hf : P.funcs[f]? = some fn) (hb : fn.body = some c) (hn : (fn.name == "runtime.NumGoroutine") = false)
  (hc : Gs P fn.ntmps hs s c) (hr : EU P fn.results.toList=some rvs) {args : List AV} (VJ : args.length≤fn.ntmps) {H : AB} {K : Am} {X0 : AB→Prop}
  (hk : Tt args→NJ P B s (Qa rvs K) X0 (GV 0 args) H) : GK P B f args H K X0:=by
 refine ⟨⟨fn,hf,by simp [hb],hn⟩,fun g w vs hW hv=>?_⟩;refine calls_of_wp hf hb ?_
 have gU : ∀ a,a∈args→a.EY:=by
  intro a ha
  obtain ⟨i,hi,rfl⟩:=List.getElem_of_mem ha
  have:=hv.2 i hi;rw [show args.getD i nv=args[i] by simp [gE,hi]] at this;exact ⟨g,_,this⟩
 obtain ⟨CU,hE⟩:=V8 hv VJ
 have hwp:=Yz (df:=[]) s c hc (Qa rvs K) X0 g H w (GV 0 args) { tmps:=vs++Array.replicate (fn.ntmps - vs.size) undef,defers:=[] } hW hE CU rfl (hk (PU gU));refine wp_mono hwp fun e a' w' hp=>?_
 cases e with
 | normal =>
  obtain ⟨g',σ',H',q1,q2,q3,q4,q5,q6,q7⟩:=hp
  obtain ⟨v,r1,r2⟩:=Sa hr (e:=.norm) q2 q1 q3 q4 q5;exact ⟨q7,v,r1,.inl ⟨v,rfl,r2⟩⟩
 | ret =>
  obtain ⟨g',σ',H',q1,q2,q3,q4,q5,q6,q7⟩:=hp
  obtain ⟨v,r1,r2⟩:=Sa hr (e:=.ret) q2 q1 q3 q4 q5;exact ⟨q7,v,r1,.inl ⟨v,rfl,r2⟩⟩
 | exit id =>
  obtain ⟨g',σ',H',q1,q2,_⟩:=hp;exact q2.elim
 | goto l=>exact hp.elim
 | panic ch =>
  obtain ⟨h1,h2,-,h4⟩:=hp;exact ⟨h4,.inr ⟨ch,rfl,h1,h2⟩⟩
 | outgrown=>exact hp.elim
end
end Go.AW
namespace Go.Proofs.Shf
open Go.AW Go.Proofs
theorem XF (p : Value) (w : World) : CallsD Tryz.prog 256 #[p] .returning w fun e u' w'=>e=.returned (.tuple #[])∧u'=.returning∧w'=w:=by
 refine callsD_of_wpS Tryz.func256 rfl fun c₀ cs hu=>?_;apply wpS_seq;apply wpS_region
 simp [wpOpsS,go_sem,recoverD,hu,Tryz.ntmps256,Exit.thenS];refine wpS_cond (t:=false) (by simp [Act.eval,Array.replicate]) ?_;simp only [Bool.false_eq_true,if_false];refine wpS_of_wp (wp_skip ?_)
 cases c₀
 simp_all [bodyPostS,results,Tryz.results256]
theorem Ze {B : Nat} {g : Gh} {H : AB} {w : World} {id : Nat} {p : Value} (hW : Ao g B H w) (hO : H.get id=some (.cells 1 [.bool false] 0)) (hp : Ab g (.ref id 0) p) (t : TypeId) (v : Value) :
  CallsD Tryz.prog 256 #[p] (.panicking [{ v:=.iface t v,recovered:=false }]) w fun e u' w'=>e=.returned (.tuple #[])∧u'=.panicking [{ v:=.iface t v,recovered:=true }] ∧
   ∃ g',g.le g'∧Ao g' B (H.set id (.cells 1 [.bool false] 0)) w'∧Below B w w':=by
 refine callsD_of_wpS Tryz.func256 rfl fun c₀ cs hu=>?_;apply wpS_seq;apply wpS_region
 simp [wpOpsS,go_sem,recoverD,hu,Tryz.ntmps256,Exit.thenS];refine wpS_cond (t:=true) (by simp [Act.eval,Array.replicate]) ?_;simp only [if_true];refine wpS_of_wp ?_;refine wp_mono (Hb (B:=B) (N:=3) (hs:=[]) (df:=[]) (.Mb [⟨none,none,.st 1 (.t 0) (.c (.bool false))⟩]) _ (by kernel_rfl) (fun e σ H'=>e=.norm∧H'=H.set id (.cells 1 [.bool false] 0)) g H w [(0,some (.ref id 0))] _ hW ?_ rfl rfl ?_) ?_
 ·intro t' x hx;simp only [Env.get] at hx
  split at hx
  ·rename_i e; subst e; cases hx
   exact ⟨by simp [Array.replicate],by simpa [Array.replicate] using hp⟩
  ·cases hx
 ·simp only [go_sem,hO,↓reduceIte]
  simp [AL,wr,AV.one]
 ·intro e a' w' hq
  cases e with
  | normal =>
   obtain ⟨g',σ',H',q1,⟨-,rfl⟩,q3,q4,q5,q6,q7⟩:=hq;refine ⟨q7,.panicking [{ v:=.iface t v,recovered:=true }], ?_,.tuple #[], ?_,rfl,rfl,g',q1,q3,q5⟩
   ·cases c₀; rfl
   ·simp [results,Tryz.results256]
  | exit id =>
   obtain ⟨g',σ',H',q1,⟨q2,_⟩,_⟩:=hq
   cases q2
  | ret =>
   obtain ⟨g',σ',H',q1,⟨q2,_⟩,_⟩:=hq
   cases q2
  | goto l=>exact hq.elim
  | panic ch=>exact hq.elim
  | outgrown=>exact hq.elim
theorem bG {B : Nat} {f : FuncId} {ca : List AV} {b : Bool} {H0 : AB} {K : Am} (h : ∀ H,H0.sub H→GK Tryz.prog B f ca H (fun _ H'=>H.sub H'∧b=true) (fun H'=>H.sub H'∧b=false))
  (hk : K (.bool b) H0) : CB B 185 [.fn (.func f) ca] H0 K:=by
 refine ⟨⟨Tryz.f185,Tryz.func185,rfl,by kernel_rfl⟩,fun g w vs hW hv=>?_⟩;refine calls_of_wp_defers Tryz.func185 rfl ?_
 obtain ⟨CU,hE⟩:=V8 (n:=6) hv (by simp)
 change (Code.wp _ _ _ { tmps:=vs++Array.replicate (6 - vs.size) undef,defers:=[] } w)
 generalize vs++Array.replicate (6 - vs.size) undef=tm at CU hE;refine wp_seq ?_;refine wp_mono (Hb (B:=B) (N:=6) (hs:=[]) (df:=[]) (.Mb [⟨some 2,none,.lV [.bool false]⟩]) _ (by kernel_rfl) (fun e σ H'=>e=.norm∧∃ id,H0.get id=none∧σ=[(2,some (.ref id 0)),(0,some (.fn (.func f) ca))]∧H'=H0.set id (.cells 1 [.bool false] 0)) g H0 w _ _ hW hE CU rfl ?_) ?_
 ·simp only [go_sem];refine ⟨by simp [AL],fun id hn=>?_⟩;simp only [go_sem];exact ⟨id,hn,rfl,rfl⟩
 intro e a' w' hq
 cases e with
 | normal =>
  obtain ⟨g1,σ',H',q1,⟨-,id,hn,rfl,rfl⟩,q3,q4,q5,q6,q7⟩:=hq;refine wp_seq ?_;refine wp_region ?_
  change wpOps _ _ _ ([0]++[1]) _ _
  refine Ch _ _ _ _ ?_;refine G2 (B:=B) (N:=6) (hs:=[]) (df:=[]) [0] [⟨some 3,none,.tM (.func 256) [.t 2]⟩] (by kernel_rfl) (fun σ H'=>σ=[(3,some (.fn (.func 256) [.ref id 0])),(2,some (.ref id 0)),(0,some (.fn (.func f) ca))]∧H'=H0.set id (.cells 1 [.bool false] 0)) g1 _ w' _ a' _ q3 q4 q6 q7 ?_ ?_
  ·simp only [go_sem,↓reduceIte]
  intro a2 w2 hq
  obtain ⟨g2,σ',H',r1,⟨rfl,rfl⟩,r3,r4,r5,r6,r7⟩:=hq
  obtain ⟨cv,TB,TH⟩ : ∃ cv,a2.tmps.getD 3 undef=.func (.func 256) #[] cv∧Fi g2 [.ref id 0] cv:=by
   have:=(r4 3 _ rfl).2
   generalize a2.tmps.getD 3 undef=u at this ⊢
   cases this;exact ⟨_,rfl,by assumption,by assumption⟩
  obtain ⟨pv,rfl,hpv⟩ : ∃ pv,cv=#[pv]∧Ab g2 (.ref id 0) pv:=by
   obtain ⟨l⟩:=cv
   obtain ⟨hs,hv⟩:=TH
   match l,hs with
   | [x],_=>exact ⟨x,rfl,hv 0 (by simp)⟩
  simp only;rw [wpOps_cons];apply Or.inl
  have Ip : (execOp a2.eval { dst := none, op := Op.defer { callee := Callee.value (Operand.tmp 3), args := #[], argTypes := #[] }, type := 0, pos := "l28_sheaves.go:112", after := #[{ on := 0, ground := Ground.data }], guard := none }).run Tryz.prog w2 =
    .ok (.defer ⟨.fn (.func 256) #[pv],#[]⟩) w2:=by
   simp [execOp,resolve,Act.eval,TB,Deferred.ofValue]
  unfold Oper.wp
  erw [Ip]
  rw [Oper.upon_defer]
  obtain ⟨tm2,df2⟩:=a2;simp only at r4 r6 r7 TB;subst r7
  change Code.wp _ _ _ { tmps:=tm2,defers:=[⟨.fn (.func 256) #[pv],#[]⟩] } w2
  clear Ip TB
  have Ye : H0.sub (H0.set id (.cells 1 [.bool false] 0)):=AB.C7 _ hn (.refl H0)
  have Lp : ∀ (σ : Env) (H' : AB) (g' : Gh) (tm' : Array Value) (w' : World),g.le g'→Ao g' B H' w'→Cc g' [(2,some (.ref id 0))] tm'→Below B w w'→H'.get id=some (.cells 1 [.bool b] 0)→H0.sub H' →
    ∃ v,(results Tryz.f185 tm').run Tryz.prog w'=.ok v w'∧Dk g B w K v w':=fun σ H' g' tm' w' e1 e2 e3 e4 e5 e6 =>
   Sa (rvs:=[.cell 2 none]) (by kernel_rfl) (e:=.ret) (σ:=[(2,some (.ref id 0))]) (H:=H') (a:={ tmps:=tm',defers:=[] }) (by
    simp only [go_sem,↓reduceIte]
    try rw [show aV none (some (.ref id 0)) H'=some (.bool b) by simp [aV,e5]]
    try rw [e5]
    simp only [go_sem];exact ⟨H0,e6,hk⟩) e1 e2 e3 e4
  have hinv : ∀ w,(invoke (.fn (.func 256) #[pv]) #[]).run Tryz.prog w=.ok (.enter 256 #[pv]) w:=fun w=>by
   simp only [Go.invoke, callFunc, Sem.run_bind, run_program, Result.andThen_ok, Tryz.func256, show Tryz.f256.body.isNone = false from rfl, show (Tryz.f256.name == "runtime.NumGoroutine") = false by kernel_rfl, Bool.false_eq_true, if_false, Sem.run_pure, Array.empty_append]
  refine wp_seq ?_;refine wp_region ?_
  change wpOps _ _ _ ([0]++[1]) _ _
  refine Ch _ _ _ _ ?_;refine G2 (B:=B) (N:=6) (hs:=[]) (df:=[⟨.fn (.func 256) #[pv],#[]⟩]) [0] [⟨some 4,none,.mv (.t 0)⟩] (by kernel_rfl) (fun σ H'=>σ=[(4,some (.fn (.func f) ca)),(0,some (.fn (.func f) ca)),(2,some (.ref id 0))]∧H'=H0.set id (.cells 1 [.bool false] 0)) g2 _ w2 [(0,some (.fn (.func f) ca)),(2,some (.ref id 0))] _ _ r3 ?_ r6 rfl ?_ ?_
  ·exact fun t x hx=>r4 t x (by
    simp only [Env.He,get_nil] at hx ⊢
    by_cases e0 : t=0
    ·subst e0; simpa using hx
    ·by_cases e2 : t=2
     ·subst e2; simpa using hx
     ·simp [e0,e2] at hx)
  ·simp only [go_sem,↓reduceIte]
  intro a3 w3 hq
  obtain ⟨g3,σ',H',s1,⟨rfl,rfl⟩,s3,s4,s5,s6,s7⟩:=hq
  simp only;rw [wpOps_cons];refine O9 (B:=B) (N:=6) (hs:=[]) (i:=1) (d:=some 5) (f:=.t 4) (xs:=[]) ⟨_,rfl,by kernel_rfl⟩ s3 (s4.B6 _) (K:=fun _ H'=>(H0.set id (.cells 1 [.bool false] 0)).sub H'∧b=true) (X0:=fun H'=>(H0.set id (.cells 1 [.bool false] 0)).sub H'∧b=false) ?_ ?_ ?_
  ·simp only [go_sem,↓reduceIte];exact h _ Ye
  ·intro v w4 hf
   obtain ⟨g4,r,H4,u1,⟨u2,hb⟩,u3,u4,u5⟩:=hf;subst hb
   have e4 : Cc g4 [(2,some (.ref id 0))] a3.tmps:=fun t x hx=>(s4.mono u1) t x (by
    simp only [Env.He,get_nil] at hx ⊢
    by_cases e2 : t=2
    ·subst e2; simpa using hx
    ·simp [e2] at hx)
   have e5 : Cc g4 [(2,some (.ref id 0))] (a3.put (some 5) v).tmps:=fun t x hx=>by
    have:=(e4.put (d:=5) (a:=r) (v:=v) (by omega) u3) t x (by
     simp only [Env.put,Env.He,get_nil] at hx ⊢
     by_cases e2 : t=2
     ·subst e2; simpa using hx
     ·simp [e2] at hx)
    exact this
   change Code.wp _ _ _ (a3.put (some 5) v) w4
   have jE:=u2 id _ (AB.Ek _ _ _);refine wp_seq ?_;refine wp_mono (Hb (B:=B) (N:=6) (hs:=[]) (df:=[⟨.fn (.func 256) #[pv],#[]⟩]) (.Mb [⟨none,none,.st 1 (.t 2) (.c (.bool true))⟩]) _ (by kernel_rfl) (fun e σ H'=>e=.norm∧σ=[(2,some (.ref id 0))]∧H'=H4.set id (.cells 1 [.bool true] 0)) g4 H4 w4 [(2,some (.ref id 0))] _ u4 e5 (by rw [DL]; exact s6) (by rw [put_defers]; exact s7) ?_) ?_
   ·simp only [go_sem,jE,↓reduceIte]
    simp [AL,wr,AV.one]
   intro e a5 w5 hq
   cases e with
   | normal =>
    obtain ⟨g5,σ',H',v1,⟨-,rfl,rfl⟩,v3,v4,v5,v6,v7⟩:=hq;refine wp_ret ?_
    change Leaves Tryz.prog Tryz.f185 a5.tmps _ a5.defers .returning w5
    rw [v7];refine leaves_cons (f:=256) (args:=#[pv]) (by simp) (hinv w5) ?_;refine (XF pv w5).mono ?_
    rintro e u' w'' ⟨rfl,rfl,rfl⟩
    obtain ⟨v,k1,k2⟩:=Lp [] _ g5 a5.tmps w'' (q1.trans (r1.trans (s1.trans (u1.trans v1)))) v3 v4 (q5.trans (r5.trans (s5.trans (u5.trans v5)))) (AB.Ek _ _ _) (AB.C7 _ hn (Ye.trans u2));exact ⟨v,k1,v,rfl,k2⟩
   | exit id =>
    obtain ⟨g',σ',H',q1,⟨q2,_⟩,_⟩:=hq
    cases q2
   | ret =>
    obtain ⟨g',σ',H',q1,⟨q2,_⟩,_⟩:=hq
    cases q2
   | goto l=>exact hq.elim
   | panic ch=>exact hq.elim
   | outgrown=>exact hq.elim
  ·intro ch w4 hc hp
   obtain ⟨g4,H4,u1,⟨u2,hb⟩,u3,u4⟩:=hp
   obtain ⟨t,v,rfl⟩:=hc;subst hb
   change Leaves Tryz.prog Tryz.f185 a3.tmps _ a3.defers (.panicking [{ v:=.iface t v,recovered:=false }]) w4
   rw [s7]
   have jE:=u2 id _ (AB.Ek _ _ _);refine leaves_cons (f:=256) (args:=#[pv]) (by simp) (hinv w4) ?_;refine (Ze u3 jE (hpv.mono (s1.trans u1)) t v).mono ?_
   rintro e u' w'' ⟨rfl,rfl,g5,v1,v2,v3⟩
   have e4 : Cc g5 [(2,some (.ref id 0))] a3.tmps:=fun t x hx=>(s4.mono (u1.trans v1)) t x (by
    simp only [Env.He,get_nil] at hx ⊢
    by_cases e2 : t=2
    ·subst e2; simpa using hx
    ·simp [e2] at hx)
   obtain ⟨v,k1,k2⟩:=Lp [] _ g5 a3.tmps w'' (q1.trans (r1.trans (s1.trans (u1.trans v1)))) v2 e4 (q5.trans (r5.trans (s5.trans (u4.trans v3)))) (AB.Ek _ _ _) (AB.C7 _ hn (Ye.trans u2));exact ⟨v,k1,v,rfl,k2⟩
 | exit id =>
  obtain ⟨g',σ',H',q1,⟨q2,_⟩,_⟩:=hq
  cases q2
 | ret =>
  obtain ⟨g',σ',H',q1,⟨q2,_⟩,_⟩:=hq
  cases q2
 | goto l=>exact hq.elim
 | panic ch=>exact hq.elim
 | outgrown=>exact hq.elim
end Go.Proofs.Shf
namespace Go.Proofs.Shf
open Go.AW Go.Proofs Go.Shf
theorem bY {P : Program} {N : Nat} {hs : Hints} {s : SC} {c : Code} (h : B4 P N hs c=some s.strip) : Gs P N hs (.sc s) c:=h
def dI : XC :=
 .seq (.sc (.Mb [⟨some 8,none,.mv (.c (.int .i64 0))⟩]))
 (.B6 [0,1,2,3] (.seq (.sc (.Mb [⟨some 10,none,.mv (.t 0)⟩,⟨some 11,none,.mv (.t 1)⟩,⟨some 12,none,.mv (.t 2)⟩,⟨some 13,none,.mv (.t 3)⟩,⟨some 14,none,.call (.c (.fn (.func 90) [])) [.t 10,.t 11,.t 12,.t 13]⟩,⟨some 9,none,.mv (.t 14)⟩]))
 (.B6 [9] (.seq (.seq (.sc (.Mb [⟨some 15,none,.mv (.t 9)⟩,⟨some 16,none,.len (.t 15)⟩,⟨some 17,none,.ar .neq .i64 (.t 16) (.c (.int .i64 1))⟩]))
  (.B6 [9,17] (.cond (.t 17) (.vZ [⟨some 18,none,.rU [] []⟩,⟨some 19,none,.oA 292 (.t 18)⟩] (.t 19)) (.sc .skip))))
 (.B6 [9] (.seq (.sc (.Mb [⟨some 20,none,.mv (.t 9)⟩,⟨some 21,none,.idx 1 (.t 20) (.c (.int .i64 0))⟩,⟨some 22,none,.ld none (.t 21)⟩,⟨some 8,none,.mv (.t 22)⟩])) (.sc .ret)))))))
theorem kH : Gs Tryz.prog Tryz.f187.ntmps [] dI (Tryz.f187.body.getD .skip) :=
 ⟨bY (by kernel_rfl),bY (by kernel_rfl),⟨bY (by kernel_rfl),by kernel_rfl,⟨_,_,rfl,rfl,by kernel_rfl,rfl,rfl,by kernel_rfl⟩,bY (by kernel_rfl)⟩,bY (by kernel_rfl),bY (by kernel_rfl)⟩
theorem cV (B : Nat) (f : SF) (x : Int) (s t : List Int) (hx : 0≤x∧x.toNat<f.A4.length) (hz : ix f.A4 x≤17) (hs : ∀ a,a∈s→0≤a∧a.toNat<f.AU.length) (he : ∀ a,a∈s→((ix f.AU a).length : Int)=ix f.A4 x) (H0 : AB) :
  GK Tryz.prog B 187 [.ptr f.cells,.int .i64 x,iL s,iL t] H0 (fun r H'=>(r=.int .i64 (ix (glue f x s t) 0)∧DQ f x s t)∧H'=H0) (fun H'=>¬ DQ f x s t∧H'=H0):=by
 refine GK.bH (hs:=[]) (s:=dI) (rvs:=[.tmp 8]) Tryz.func187 rfl (by kernel_rfl) kH (by kernel_rfl) (by rw [Tryz.ntmps187]; simp) fun _=>?_;unfold dI;refine tt ?_;refine (MF B f x s t hx hz hs he).go fun _=>tt ?_;apply bk <;> intro h1
 ·refine tt ?_
  have AR:=dd h1;exact fun e=>AR (by simp only [DQ] at e; omega)
 ·refine tt ?_
  have AR:=dd h1;refine ⟨by omega, ?_⟩;exact ⟨H0,.refl _,⟨rfl,by simp only [DQ]; omega⟩,rfl⟩
theorem pF (B : Nat) (f : SF) (x : Int) (s t : List Int) (hx : 0≤x∧x.toNat<f.A4.length) (hz : ix f.A4 x≤17) (hs : ∀ a,a∈s→0≤a∧a.toNat<f.AU.length) (he : ∀ a,a∈s→((ix f.AU a).length : Int)=ix f.A4 x) (hu : DQ f x s t) :
  PB B 187 [.ptr f.cells,.int .i64 x,iL s,iL t] (.int .i64 (ix (glue f x s t) 0)) :=
 ⟨fun H0=>((cV B f x s t hx hz hs he H0).mono (fun r H h=>⟨h.1.1,h.2⟩) (fun H h=>h.1 hu)).toH⟩
def dG : XC :=
 .seq (.sc (.Mb [⟨some 7,none,.ld none (.t 0)⟩,⟨some 8,none,.len (.t 7)⟩,⟨some 9,none,.mv (.c (.int .i64 0))⟩]))
 (.B6 [1,2,3,4,7,8,9] (.block 0 (.loop [9,1,2,3,4,7,8] (.seq (.sc (.Mb [⟨some 10,none,.ar .lss .i64 (.t 9) (.t 8)⟩]))
 (.B6 [1,2,3,4,7,8,9,10] (.seq (.sc (.cond (.t 10) .skip (.exit 0)))
 (.B6 [1,2,3,4,7,8,9] (.seq (.block 1 (.seq (.sc (.Mb [⟨some 11,none,.idx 1 (.t 7) (.t 9)⟩,⟨some 12,none,.ld none (.t 11)⟩,⟨some 6,none,.mv (.t 12)⟩]))
  (.B6 [1,2,3,4,6,7,8,9] (.Ri [⟨some 13,none,.ld none (.t 1)⟩,⟨some 14,none,.ld none (.t 2)⟩,⟨some 15,none,.ld none (.t 3)⟩,⟨some 16,none,.n0 (.t 15)⟩,⟨some 17,none,.oL 0 1 (.t 16)⟩,⟨some 18,none,.ld none (.t 17)⟩,⟨some 19,none,.n0 (.t 18)⟩,⟨some 20,none,.oL 7 1 (.t 19)⟩,⟨some 21,none,.ld none (.t 20)⟩,⟨some 22,none,.ld none (.t 2)⟩,⟨some 23,none,.idx 1 (.t 21) (.t 22)⟩,⟨some 24,none,.ld none (.t 23)⟩,⟨some 25,none,.ld none (.t 4)⟩,⟨some 26,none,.idx 1 (.t 24) (.t 25)⟩,⟨some 27,none,.ld none (.t 26)⟩,⟨some 28,none,.mv (.t 6)⟩] (some 29) (.c (.fn (.func 187) [])) [.t 13,.t 14,.t 27,.t 28]))))
 (.B6 [1,2,3,4,7,8,9] (.sc (.Mb [⟨some 30,none,.ar .add .i64 (.t 9) (.c (.int .i64 1))⟩,⟨some 9,none,.mv (.t 30)⟩])))))))))))
def xH : Hints:=[(3,[0,1,2,3,4,5,6,7,8,9,10,11,12,13,14,15,16],[0,0,0,0,0,0,0,0,0,0,0,0,0,0,0,0,0])]
theorem fcx {P : Program} {N : Nat} {hs : Hints} {pre : List Cu} {d : Option Nat} {f : X} {xs : List X} {id : Nat} {ops : Array Oper} {dr : Bool} (h : R3 P N ops ((hs.lookup id).elim [] (·.2)) ((hs.lookup id).elim [] (·.1)) dr=some (pre,⟨d,none,.call f xs⟩)) : Gs P N hs (.Ri pre d f xs) (.region id ops dr):=h
theorem kT : Gs Tryz.prog Tryz.f186.ntmps xH dG (Tryz.f186.body.getD .skip) :=
 ⟨bY (by kernel_rfl),rfl,bY (by kernel_rfl),bY (by kernel_rfl),⟨rfl,bY (by kernel_rfl),fcx (by kernel_rfl)⟩,bY (by kernel_rfl)⟩
end Go.Proofs.Shf
