/- Contracts, part 5. -/
import Derived.Test.YthflgdphhajkbaaGreatF4
import Derived.WalkSmall
import Derived.Test.YthflgdphhajkbaaGreatProg
import Derived.Recover
import Derived.Tactics
set_option linter.unusedVariables false
set_option linter.unusedSimpArgs false
set_option linter.unusedSectionVars false
open Nat (reduceEqDiff reduceAdd reduceMul reduceLeDiff reduceLT)
namespace Go.Proofs.Shf
open Go.AW Go.Proofs Go.Shf
theorem YY (B : Nat) (v : NJ) (cnt : AV) {H0 H : AA} {l : Ob} {gid : Nat} {b : Bool} {K : Ap} {x s : Int} (o : AB H0 H ((gid,.cells 1 [.bool b] 0)::l)) (hx : 0≤x∧x.toNat<v.marks.length) (hs : 0≤s∧s.toNat<(ix v.marks x).length)
  (hk : ∀ H',AB H0 H' ((gid,.cells 1 [.bool (b && mg v.marks x s)] 0)::l)→K (.CK []) H') : CB B 314 [.int .i64 x,.int .i64 s,.ref gid 0,.ptr [.ptr (v.cells cnt)]] H K:=by
 refine c314.go fun _=>?_
 have hg : H.get gid=some (.cells 1 [.bool b] 0):=o.h0;refine tt ?_;refine Al hg (by simp) ?_
 have e : (ix v.marks x).getD s.toNat default=mg v.marks x s:=rfl
 cases b with
 | false =>
  refine tt ?_;refine sw o fun H o=>tt ?_;exact ⟨H,.refl H,hk H o⟩
 | true =>
  refine tt ?_;refine ⟨hx,hs, ?_⟩;refine sw o fun H o=>tt ?_;refine ⟨H,.refl H,hk H ?_⟩;rw [Bool.true_and,← e]; exact o
theorem Uj (B : Nat) (j : Df) (hF : j.Form) (hf : Be j.shape) (cnt : AV) {H0 H : AA} {l : Ob} {gid : Nat} {K : Ap} (o : AB H0 H ((gid,.cells 1 [.bool true] 0)::l))
  (hk : ∀ b H',(b=true↔Fl j.shape j.AP)→AB H0 H' ((gid,.cells 1 [.bool b] 0)::l)→K (.CK []) H') :
  CB B 313 [.ptr ((BU j).cells cnt),.fn (.func 314) [.ref gid 0,.ptr [.ptr ((BU j).cells cnt)]]] H K:=by
 have tab:=HT hF.is hf
 have hc:=hF.is
 have Fh:=hc.1.o
 have hm:=hc.1.m
 have Hg:=hc.1.He
 have hL:=tab.len
 have Im:=ET hF hf
 have KF : DV (AM j.shape) (BU j).marks:=GW
 have XG:=lB hF hf KF.len
 have EZ : (BU j).BM=AM j.shape:=rfl
 have Ee : (BU j).shape=j.shape:=rfl
 have rC : (BU j).cells cnt=[.ptr (Dw j.shape (AM j.shape) (iL (CT (AM j.shape))) (BD (BC j.shape (AM j.shape)))),.ptr j.shape.cells,mL (mL AV.bool) (BU j).marks,cnt]:=rfl
 have jk:=j0 B j.shape (AM j.shape) tab (iL (CT (AM j.shape))) (BD (BC j.shape (AM j.shape)))
 have lY:=fun (H0 H : AA) (l : Ob) (gid : Nat) (b : Bool) (K : Ap) (x s : Int)=>YY B (BU j) cnt (H0:=H0) (H:=H) (l:=l) (gid:=gid) (b:=b) (K:=K) (x:=x) (s:=s)
 have mA : ∀ x s t : Nat,x<(AM j.shape).length→s<((AM j.shape).getD x default).length→t<((AM j.shape).getD x default).length →
   PB B 329 [.ptr ((BU j).cells cnt),iL (((AM j.shape).getD x default).getD t default),iL (((AM j.shape).getD x default).getD s default)] (.bool (dec (U9 (BU j) (((AM j.shape).getD x default).getD t default) (((AM j.shape).getD x default).getD s default)))):=by
  intro x s t hx hs ht;refine Vm B (BU j) hc cnt _ _ x (tab.sv hx ht) (fun a ha=>?_) hL KF.len (fun y hy=>⟨?_,fun s hs=>?_⟩) ?_
  ·have:=(tab.sv hx hs).arr ha; exact ⟨this.1.1,this.1.2,this.2⟩
  ·have rO : 0≤y∧y<j.shape.AR:=hy
   have:=KF.row y.toNat (by omega); exact this
  ·have rO : 0≤y∧y<j.shape.AR:=hy;exact ((tab.at rO.1 (by omega)).mem s).mpr hs
  ·have:=(tab.sv hx hs).len; omega
 rw [rC] at lY mA ⊢;refine au.go fun _=>?_
 have Dz:=KF.len
 have B4:=KF.row
 have Bf:=tab.YH
 have Gl : ∀ x : Nat,x<(AM j.shape).length→0≤(C9 j.shape (AM j.shape)).getD x default∧((C9 j.shape (AM j.shape)).getD x default).toNat<((AM j.shape).getD x default).length:=fun x hx=>(tab.top hx).1
 have fp : (C9 j.shape (AM j.shape)).length=(AM j.shape).length:=Hc
 have Pk : ∀ a : Nat,a<j.shape.AH.length→0≤j.shape.AH.getD a default∧(j.shape.AH.getD a default).toNat<(AM j.shape).length:=fun a ha=>by
  have:=tab.AH (a:=a) ⟨by omega,by simpa using ha⟩
  rwa [AJ] at this
 have Cu : ∀ a : Nat,a<j.shape.AH.length→0≤j.shape.to.getD a default∧(j.shape.to.getD a default).toNat<(AM j.shape).length:=fun a ha=>by
  have:=tab.to (a:=a) ⟨by omega,by simpa using ha⟩
  rwa [AJ] at this
 have Ko : ∀ a s : Nat,a<j.shape.AH.length→s<((AM j.shape).getD (j.shape.AH.getD a default).toNat default).length→(s<((BC j.shape (AM j.shape)).getD a default).length) ∧
   0≤((BC j.shape (AM j.shape)).getD a default).getD s default∧(((BC j.shape (AM j.shape)).getD a default).getD s default).toNat<((AM j.shape).getD (j.shape.to.getD a default).toNat default).length:=fun a s ha hs=>by
  have GZ : 0≤(a : Int)∧(a : Int).toNat<j.shape.AH.length:=⟨by omega,by simpa using ha⟩
  have h1:=tab.pull GZ (k:=s) (by rw [AJ]; exact hs)
  have h2:=JW (L:=AM j.shape) GZ;simp only [AJ] at h1 h2;refine ⟨?_,h1.1⟩;rw [h2]; exact hs
 have hpll : (BC j.shape (AM j.shape)).length=j.shape.AH.length:=JT
 have Zl : ∀ x s : Nat,Vs (BU j).marks x s=((BU j).marks.getD x default).getD s default:=fun _ _=>rfl
 generalize hLv : AM j.shape=L at *
 have hP3 : ∀ x t i,mP (BU j) x t i↔∀ s,s<i→Vs (BU j).marks x s=true→Vs (BU j).marks x t=false→U9 (BU j) ((L.getD x default).getD t default) ((L.getD x default).getD s default)→Vs (BU j).marks x t=true:=fun x t i=>by
  rw [mP,EZ]
 have rU : ∀ x k,mQ (BU j) x k↔∀ t,t<k→mP (BU j) x t ((BU j).marks.getD x default).length:=fun _ _=>Iff.rfl
 have qY : ∀ k,P3 (BU j) k↔∀ x,x<k→mQ (BU j) x (L.getD x default).length:=fun k=>by rw [P3,EZ]
 generalize hMv : (BU j).marks=M at *;refine tt ?_;refine jk.go fun _=>tt ?_
 refine AD [0,1,18,19] (G:=Bool) (fun k g=>[(20,some (.int .i64 (k : Int)))])
  (fun k b H=>(b=true↔P1 j.shape L M k)∧AB H0 H ((gid,.cells 1 [.bool b] 0)::l)) (C9 j.shape L).length true ⟨by simp [P1],o⟩ rfl ?_
 clear o
 rintro x b H hx ⟨hb,o⟩
 replace o : AB H0 H ((gid,.cells 1 [.bool b] 0)::l):=o;refine tt ?_;apply bk <;> intro h1
 ·have AU:=A7 h1
  have w:=ws x
  have h2:=Gl x (by omega);refine tt ?_;refine ⟨AU, ?_⟩;refine lY H0 H l gid b _ x _ o ⟨by omega,by simpa using (by omega : x<M.length)⟩ ⟨h2.1,by rw [AJ,B4 x (by omega)]; exact h2.2⟩ fun H o=>?_;refine tw w ?_;refine A5 (b && mg M x ((C9 j.shape L).getD x default)) AU ⟨?_,o⟩ rfl;rw [P1,all_succ,Bool.and_eq_true,hb,P1]
 have AU:=A9 h1
 obtain rfl : x=(C9 j.shape L).length:=by omega
 rw [fp] at hb;refine tt ?_
 refine AD [0,1,37] (G:=Bool) (fun k g=>[(38,some (.int .i64 (k : Int)))])
  (fun k b H=>(b=true↔P1 j.shape L M L.length∧P2 j.shape L M k)∧AB H0 H ((gid,.cells 1 [.bool b] 0)::l)) j.shape.AH.length b ⟨by rw [hb,P2]; simp,o⟩ rfl ?_
 clear o hb h1 b hx H AU
 rintro a b H ha ⟨hb,o⟩
 replace o : AB H0 H ((gid,.cells 1 [.bool b] 0)::l):=o;refine tt ?_;apply bk <;> intro h1
 ·have AU:=A7 h1
  have w:=ws a
  have Pj:=Pk a AU
  have fo:=Cu a AU;refine tt ?_;refine ⟨AU,⟨Pj.1,by omega⟩,_,(Qs B (M.getD (j.shape.AH.getD a default).toNat default)).run, ?_⟩
  have Lu:=B4 _ Pj.2
  have nW:=Bf _ Pj.2;refine tt ?_
  refine AD [0,1,6,37,38,57,58] (G:=Bool) (fun k g=>[(59,some (.int .i64 (k : Int)))])
   (fun i b H=>(b=true↔P1 j.shape L M L.length∧P2 j.shape L M a∧aJ j.shape L M a i)∧AB H0 H ((gid,.cells 1 [.bool b] 0)::l)) (M.getD (j.shape.AH.getD a default).toNat default).length b ⟨by rw [hb,aJ]; simp,o⟩ rfl ?_
  clear o hb b H
  rintro s b H hs ⟨hb,o⟩
  replace o : AB H0 H ((gid,.cells 1 [.bool b] 0)::l):=o;refine tt ?_;apply bk <;> intro h2
  ·have Ah:=A7 h2
   have w2:=ws s
   have hp:=Ko a s AU (by omega);refine tt ?_;refine ⟨Ah, ?_⟩
   cases Jo : Vs M (j.shape.AH.getD a default).toNat s with
   | false =>
    have Lp:=Jo;rw [Zl] at Lp;refine tw Lp ?_;refine tw w2 ?_;refine A5 b Ah ⟨?_,o⟩ rfl
    have : aJ j.shape L M a (s+1)↔aJ j.shape L M a s:=by
     rw [aJ,all_succ,aJ,Jo]; simp
    rw [this]; exact hb
   | true =>
    have Lp:=Jo;rw [Zl] at Lp;refine tw Lp ?_;refine ⟨by omega,by omega,hp.1, ?_⟩;refine lY H0 H l gid b _ _ _ o ⟨fo.1,by omega⟩ ⟨hp.2.1,by rw [ix,B4 _ fo.2]; exact hp.2.2⟩ fun H o=>?_;refine tw w2 ?_;refine A5 (b && mg M (j.shape.to.getD a default) (((BC j.shape L).getD a default).getD s default)) Ah ⟨?_,o⟩ rfl
    have : aJ j.shape L M a (s+1)↔aJ j.shape L M a s∧mg M (j.shape.to.getD a default) (((BC j.shape L).getD a default).getD s default)=true:=by
     rw [aJ,all_succ,aJ,Jo]; simp
    rw [this,Bool.and_eq_true,hb,and_assoc,and_assoc]
  ·have Ah:=A9 h2
   obtain rfl : s=(M.getD (j.shape.AH.getD a default).toNat default).length:=by omega
   refine tw w ?_;refine A5 b AU ⟨?_,o⟩ rfl
   have : P2 j.shape L M (a+1)↔P2 j.shape L M a∧aJ j.shape L M a (M.getD (j.shape.AH.getD a default).toNat default).length:=by rw [P2,all_succ,P2]
   rw [this]; exact hb
 have AU:=A9 h1
 obtain rfl : a=j.shape.AH.length:=by omega
 refine tt ?_
 refine AD [0,1,99,100] (G:=Bool) (fun k g=>[(101,some (.int .i64 (k : Int)))])
  (fun k b H=>(b=true↔P1 j.shape L M L.length∧P2 j.shape L M j.shape.AH.length∧P3 (BU j) k)∧AB H0 H ((gid,.cells 1 [.bool b] 0)::l)) L.length b ⟨by rw [hb,qY]; simp,o⟩ rfl ?_
 clear o hb h1 b ha H AU
 rintro x b H hx ⟨hb,o⟩
 replace o : AB H0 H ((gid,.cells 1 [.bool b] 0)::l):=o;refine tt ?_;apply bk <;> intro h1
 ·have AU:=A7 h1
  have w:=ws x
  have Lu:=B4 x AU
  have nW:=Bf x AU;refine tt ?_;refine ⟨AU, ?_⟩
  refine AD [0,1,9,10,99,100,101,107] (G:=Bool) (fun k g=>[(108,some (.int .i64 (k : Int)))])
   (fun t b H=>(b=true↔(P1 j.shape L M L.length∧P2 j.shape L M j.shape.AH.length∧P3 (BU j) x)∧mQ (BU j) x t)∧AB H0 H ((gid,.cells 1 [.bool b] 0)::l)) (L.getD x default).length b ⟨by rw [hb,rU]; simp,o⟩ rfl ?_
  clear o hb b H
  rintro t b H ht ⟨hb,o⟩
  replace o : AB H0 H ((gid,.cells 1 [.bool b] 0)::l):=o;refine tt ?_;apply bk <;> intro h2
  ·have Ah:=A7 h2
   have w2:=ws t;refine tt ?_;refine ⟨by omega, ?_⟩;refine (Qs B (M.getD x default)).go fun _=>tt ?_
   refine AD [0,1,9,10,11,99,100,101,107,108,118,119] (G:=Bool) (fun k g=>[(120,some (.int .i64 (k : Int)))])
    (fun i b H=>(b=true↔((P1 j.shape L M L.length∧P2 j.shape L M j.shape.AH.length∧P3 (BU j) x)∧mQ (BU j) x t)∧mP (BU j) x t i)∧AB H0 H ((gid,.cells 1 [.bool b] 0)::l)) (M.getD x default).length b ⟨by rw [hb,hP3]; simp,o⟩ rfl ?_
   clear o hb b H
   rintro s b H hs ⟨hb,o⟩
   replace o : AB H0 H ((gid,.cells 1 [.bool b] 0)::l):=o;refine tt ?_;apply bk <;> intro h3
   ·have BB:=A7 h3
    have w3:=ws s
    have VI:=mA x s t AU (by omega) Ah;refine tt ?_;refine ⟨BB, ?_⟩
    have D1 : mP (BU j) x t (s+1)↔mP (BU j) x t s∧(Vs M x s=true→Vs M x t=false→U9 (BU j) ((L.getD x default).getD t default) ((L.getD x default).getD s default)→Vs M x t=true):=by
     rw [hP3,all_succ,hP3]
    cases Jo : Vs M x s with
    | false =>
     have Lp:=Jo;rw [Zl] at Lp;refine tw Lp ?_;refine tw w3 ?_;refine A5 b BB ⟨?_,o⟩ rfl;rw [D1,Jo]
     simpa using hb
    | true =>
     have Lp:=Jo;rw [Zl] at Lp
     cases gy : Vs M x t with
     | true =>
      have Zx:=gy;rw [Zl] at Zx;refine tw Lp ?_;refine t2 Lp Zx ?_
      refine ⟨by omega,by omega, ?_⟩;refine tw w3 ?_;refine A5 b BB ⟨?_,o⟩ rfl;rw [D1,gy]
      simpa using hb
     | false =>
      have Zx:=gy;rw [Zl] at Zx;refine tw Lp ?_;refine t2 Lp Zx ?_
      refine ⟨by omega,by omega,Ah,by omega,_,VI.run, ?_⟩
      by_cases hl : U9 (BU j) ((L.getD x default).getD t default) ((L.getD x default).getD s default)
      ·rw [Ay hl];refine tt ?_;refine lY H0 H l gid b _ x t o ⟨by omega,by simpa using (by omega : x<M.length)⟩ ⟨by omega,by rw [AJ]; simpa using (by omega : t<(M.getD x default).length)⟩ fun H o=>?_
       have vO : mg M (x : Int) (t : Int)=false:=by
        rw [mg,AJ,AJ]; exact Zx
       rw [vO,Bool.and_false] at o;refine tw w3 ?_;refine A5 false BB ⟨?_,o⟩ rfl;rw [D1];refine ⟨fun e=>(by cases e),fun e=>?_⟩
       have:=e.2.2 Jo gy hl;rw [gy] at this; cases this
      ·rw [Ab hl];refine tw w3 ?_;refine A5 b BB ⟨?_,o⟩ rfl;rw [D1,hb];exact ⟨fun e=>⟨e.1,e.2,fun _ _ h=>absurd h hl⟩,fun e=>⟨e.1,e.2.1⟩⟩
   ·have BB:=A9 h3
    obtain rfl : s=(M.getD x default).length:=by omega
    refine tw w2 ?_;refine A5 b Ah ⟨?_,o⟩ rfl
    have : mQ (BU j) x (t+1)↔mQ (BU j) x t∧mP (BU j) x t (M.getD x default).length:=by rw [rU,all_succ,rU]
    rw [this,← and_assoc]; exact hb
  ·have Ah:=A9 h2
   obtain rfl : t=(L.getD x default).length:=by omega
   refine tw w ?_;refine A5 b AU ⟨?_,o⟩ rfl
   have : P3 (BU j) (x+1)↔P3 (BU j) x∧mQ (BU j) x (L.getD x default).length:=by rw [qY,all_succ,qY]
   rw [this,hb]
   constructor
   ·rintro ⟨⟨a1,a2,a3⟩,a4⟩; exact ⟨a1,a2,a3,a4⟩
   ·rintro ⟨a1,a2,a3,a4⟩; exact ⟨⟨a1,a2,a3⟩,a4⟩
 ·have AU:=A9 h1
  obtain rfl : x=L.length:=by omega
  refine tt ?_;exact ⟨H,.refl H,hk b H (by rw [hb]; exact XG) o⟩
theorem QE (B : Nat) (j : Df) (hF : j.Form) (hf : Be j.shape) (cnt : AV) : PB B 293 [.ptr ((BU j).cells cnt)] (.bool (dec (Fl j.shape j.AP))):=by
 have hfol:=fun (H0 H : AA) (l : Ob) (gid : Nat) (K : Ap)=>Uj B j hF hf cnt (H0:=H0) (H:=H) (l:=l) (gid:=gid) (K:=K)
 generalize (BU j).cells cnt=cv at *;refine ⟨fun H0=>c293.go fun _=>tt ?_⟩;refine Am (.nil _) fun gid H o=>tt ?_;refine sw o fun H o=>tt ?_;refine hfol H0 H [] gid _ o fun b H hb o=>tt ?_;refine AN o (by simp) (tt ?_);refine A6 ?_ o.sub
 cases b with
 | true=>rw [Ay (hb.mp rfl)]
 | false=>rw [Ab (fun e=>by have:=hb.mpr e; cases this)]
def eM (j : Df) (code : Int) (H0 : AA) : Ap:=fun r H'=>H'=H0∧∃ X,r=.CK [X,.int .i64 code]∧(code=0→∃ cnt,X=.ptr ((BU j).cells cnt))
theorem EF {j : Df} {code n : Int} {H0 H : AA} {X : AV} (hs : H0.sub H) (hn : n=code) (h : code=0→∃ cnt,X=.ptr ((BU j).cells cnt)) : Ig (eM j code H0) (.CK [X,.int .i64 n]) H :=
 ⟨H0,hs,rfl,X,by rw [hn],h⟩
theorem Rw (B : Nat) (j : Df) (hF : j.Form) (H0 : AA) : CB B 253 [.ptr j.cells] H0 (eM j (DF j) H0):=by
 refine ee.go fun _=>?_;refine tt ?_;refine Rf B j hF (.nil H0) (fun hf X=>?_) fun hf id ic X n q H hX o=>?_
 ·have e : DF j=3:=by rw [DF,if_neg (fun e=>e hF),if_pos hf]
  refine tt ?_;exact EF (.refl _) e.symm (fun e2=>by rw [e] at e2; cases e2)
 ·refine tt ?_;refine pK 4 hX o rfl fun H o=>AX ?_
  have Im : [AV.ptr (Q3 j.shape),.ptr j.shape.cells,mL (mL AV.bool) (marksOf (AM j.shape) j.AP),.ref ic 0]=(BU j).cells (.ref ic 0):=rfl
  have Gl:=QE B j hF hf (.ref ic 0);rw [Im]
  generalize nP : (BU j).cells (.ref ic 0)=cv at *;refine tt ?_;refine Gl.go fun _=>?_
  by_cases ht : Fl j.shape j.AP
  ·have e : DF j=0:=by rw [DF,if_neg (fun e=>e hF),if_neg (fun e=>e hf),if_pos ht]
   rw [Ay ht];refine tt ?_;exact EF o.sub e.symm fun _=>⟨_,by rw [nP]⟩
  ·have e : DF j=5:=by rw [DF,if_neg (fun e=>e hF),if_neg (fun e=>e hf),if_neg ht]
   rw [Ab ht];refine tt ?_;exact EF o.sub e.symm (fun e2=>by rw [e] at e2; cases e2)
open Classical in
noncomputable def Fo (j : Df) (f : SF) : Int:=if DF j=0∧¬ j.shape=f.shape then 5 else DF j
open Classical in
theorem Qn (B : Nat) (j : Df) (f : SF) (hF : j.Form) (H0 : AA) : CB B 176 [.ptr j.cells,mL mz [f]] H0 (eM j (Fo j f) H0):=by
 refine c176.go fun _=>?_;refine tt ?_;refine (Rw B j hF H0).mono ?_
 rintro r H ⟨rfl,X,rfl,hX⟩
 by_cases h0 : DF j=0
 ·obtain ⟨cnt,rfl⟩:=hX h0
  have e0 : Fo j f=if j.shape=f.shape then 0 else 5:=by
   rw [Fo]
   by_cases h : j.shape=f.shape
   ·rw [if_neg (fun e=>e.2 h),if_pos h,h0]
   ·rw [if_pos ⟨h0,h⟩,if_neg h]
  rw [h0]
  generalize nP : (BU j).cells cnt=cv at *;refine tt ?_;refine ⟨fun e=>(by simp at e),fun _=>At.mk ?_⟩;refine tt ?_;refine AD [0,6,18,19] (G:=Unit) (fun k _=>[(20,some (.int .i64 (k : Int)))]) (fun k _ H'=>H'=H∧(0<k→j.shape=f.shape)) 1 () ⟨rfl,by simp⟩ rfl ?_
  rintro k _ H' hk ⟨rfl,Aj⟩;refine tt ?_;apply bk <;> intro h1
  ·have AU:=A7 h1
   obtain rfl : k=0:=by simp at AU; omega
   have w:=ws 0;refine tt ?_;refine ⟨_,(Fe B j.shape f.shape).run, ?_⟩
   by_cases h : j.shape=f.shape
   ·rw [Ay h];refine tw w ?_;exact A5 () (by omega) ⟨rfl,fun _=>h⟩ rfl
   ·rw [Ab h];refine tt ?_;rw [if_neg h] at e0;exact EF (.refl _) e0.symm (fun e2=>by rw [e0] at e2; cases e2)
  ·have AU:=A9 h1
   have Sv : 0<k:=by simp at AU; omega
   rw [if_pos (Aj Sv)] at e0;refine tt ?_;exact EF (.refl _) e0.symm fun _=>⟨_,by rw [nP]⟩
 ·have e0 : Fo j f=DF j:=by rw [Fo,if_neg (fun e=>h0 e.1)]
  refine tt ?_;refine ⟨fun _=>At.mk ?_,fun e=>?_⟩;rotate_left
  ·exact absurd (by simpa using e) h0
  refine tt ?_;exact EF (.refl _) e0.symm (fun e2=>absurd (e0.symm.trans e2) h0)
theorem Sq (B : Nat) (j : Df) (f : SF) (H0 : AA) : CB B 96 [.ptr j.cells,mL mz [f]] H0 (eM j (codeF j f) H0):=by
 refine c96.go fun _=>?_;refine tt ?_;refine (PU B j).go fun _=>?_
 by_cases hF : j.Form
 ·rw [Ay hF];refine tt ?_;refine (HA B [f]).go fun _=>?_
  by_cases hf : f.Is
  ·have e0 : codeF j f=Fo j f:=by rw [codeF,if_neg (fun e=>e ⟨hF,hf⟩),Fo]
   rw [Ay (by simpa using hf)];refine tt ?_;refine (Qn B j f hF H0).mono ?_
   rintro r H ⟨rfl,X,rfl,hX⟩;refine tt ?_;rw [← e0] at hX ⊢;exact EF (.refl _) rfl hX
  ·have e0 : codeF j f=1:=by rw [codeF,if_pos (fun e=>hf e.2)]
   rw [Ab (by simpa using hf)];refine tt ?_;exact EF (.refl _) e0.symm (fun e2=>by rw [e0] at e2; cases e2)
 ·have e0 : codeF j f=1:=by rw [codeF,if_pos (fun e=>hF e.1)]
  rw [Ab hF];refine tt ?_;exact EF (.refl _) e0.symm (fun e2=>by rw [e0] at e2; cases e2)
end Go.Proofs.Shf
namespace Go.AW
theorem IX.go {P : Program} {B : Nat} {fn : FuncId} {args : List AV} {O : Ob→AV→Prop} {H0 H : AA} {l : Ob} {K : Ap} (h : IX P B fn args O) (o : AB H0 H l) (hk : ∀ r p H',O p r→AB H0 H' (p++l)→H.sub H'→K r H') : BG P B fn args H K :=
 (h.run H).mono fun r H' ⟨p,q1,q2⟩=>hk r p H' q1 (o.trans q2) q2.sub
theorem AB.last {H0 H : AA} {q : Ob} {x : Nat × AF} (o : AB H0 H (q++[x])) : AB H0 H (x::q):=o.perm List.perm_append_comm
end Go.AW
namespace Go.Proofs.Shf
open Go.AW Go.Proofs Go.Shf
theorem MD (a b c : Ob) : (c++(b++a)).Perm (a++(b++c)):=by
 refine List.perm_append_comm.trans ?_;rw [← List.append_assoc];exact List.Perm.append_right c List.perm_append_comm
theorem Zb (a b c d : Ob) : (d++(c++(b++a))).Perm (a++(b++(c++d))):=by
 refine List.perm_append_comm.trans ?_
 have:=List.Perm.append_right d (MD a b c)
 simpa only [List.append_assoc] using this
theorem HQ (B : Nat) (l : List Int) : IX Tryz.prog B 221 [iL l] fun p X=>OL p X l :=
 ⟨fun H=>(MR B l H H [] (.nil H)).mono fun r H' ⟨id,A,e,o,q⟩=>by
  subst e q;exact ⟨_,.inr ⟨id,_,[],rfl,by simp,mW _⟩,o⟩⟩
theorem Ke (B : Nat) (l : List (List Int)) : IX Tryz.prog B 179 [BD l] fun p X=>ZC p X l:=by
 refine ⟨fun H0=>zE.go fun ⟨hf,_⟩=>?_⟩
 have hl:=AL hf;simp only [AK] at hl;refine tt ?_;refine ⟨by simp only [AK]; omega,Af (.nil _) fun id H o=>?_⟩;refine tt ?_
 refine AD [9,10] (G:=AV × Ob) (fun k g=>[(3,some g.1),(11,some (.int .i64 (k : Int)))])
  (fun k g H=>ZC g.2 g.1 (l.take k)∧AB H0 H (g.2++[])) l.length (.buf id 0,[(id,.cells 1 [] 0)]) ⟨.inr ⟨id,[],[],rfl,rfl,.nil⟩,o⟩ rfl ?_
 clear o
 rintro k ⟨X,q⟩ H hk ⟨hX,o⟩;dsimp only at hX o;refine tt ?_;apply bk <;> intro h1
 ·have AU:=A7 h1
  have w:=ws k;refine tt ?_;refine ⟨AU, ?_⟩;refine (HQ B (l.getD k default)).go o fun Y p H hY o _=>?_
  have te:=hY.one;refine tt ?_;refine ⟨by simp [Da,AV.cells_one te,te], ?_⟩;refine hX.app hY ⟨AV.cells_one te,te⟩ o (by rw [List.length_take]; simp only [AK]; omega) fun X' q' H T7 Jw o=>?_;refine tw w ?_;refine A5 (X',q') AU ⟨?_,o⟩ rfl
  simp only;rw [BH l AU]; exact Jw
 ·have AU:=A9 h1
  obtain rfl : k=l.length:=by omega
  rw [List.take_length] at hX;rw [List.append_nil] at o;refine tt ?_;exact ⟨H,.refl H,q,hX,o⟩
theorem Tm (B : Nat) (c : B0) : IX Tryz.prog B 220 [.ptr c.cells] fun p X=>zd p X c:=by
 refine ⟨fun H0=>bh.go fun _=>tt ?_⟩;refine nb (.nil _) fun id H o=>tt ?_;refine (HQ B c.AH).go o fun X1 p1 H q1 o hs=>⟨hs, ?_⟩;refine tt ?_;refine (HQ B c.to).go o fun X2 p2 H q2 o hs=>⟨hs, ?_⟩;refine tt ?_;refine (HQ B c.Aw).go o fun X3 p3 H q3 o hs=>⟨hs, ?_⟩;refine tt ?_;refine (Ke B c.comp).go o fun X4 p4 H q4 o hs=>⟨hs, ?_⟩
 have v1:=q1.one
 have v2:=q2.one
 have v3:=q3.one
 have v4:=q4.one;try simp only [go_sem,↓reduceIte,reduceEqDiff,reduceAdd,reduceMul,reduceLeDiff,reduceLT,AV.cells_one v1,AV.cells_one v2,AV.cells_one v3,AV.cells_one v4]
 have o:=AB.last (q:=p4++(p3++(p2++p1))) (by simpa only [List.append_assoc] using o);refine Aq o (by simp) rfl (by simp only [Bu,CZ]; exact ⟨rfl,v1,v2,v3,v4,trivial⟩) fun H o=>?_;have o:=s2 o;refine tt ?_
 have hr:=o.rc 5 0 (by simp);simp only [List.drop_zero] at hr;rw [hr];exact ⟨H,.refl H,_,⟨X1,X2,X3,X4,p1,p2,p3,p4,rfl,rfl,q1,q2,q3,q4⟩,o.tl.perm (Zb _ _ _ _)⟩
theorem Ny (B : Nat) (f : SF) : IX Tryz.prog B 178 [.ptr f.cells] fun p X=>aL p X f:=by
 refine ⟨fun H0=>ck.go fun _=>tt ?_⟩;refine nb (.nil _) fun id H o=>tt ?_;refine (Tm B f.shape).go o fun Z p1 H q1 o hs=>⟨hs, ?_⟩;refine tt ?_;refine (HQ B f.A4).go o fun X5 p2 H q2 o hs=>⟨hs, ?_⟩;refine tt ?_;refine (Ke B f.Aa).go o fun X6 p3 H q3 o hs=>⟨hs, ?_⟩
 have v5:=q2.one
 have v6:=q3.one
 obtain ⟨X1,X2,X3,X4,a1,a2,a3,a4,rfl,rfl,b1,b2,b3,b4⟩:=q1
 have v1:=b1.one
 have v2:=b2.one
 have v3:=b3.one
 have v4:=b4.one;try simp only [go_sem,↓reduceIte,reduceEqDiff,reduceAdd,reduceMul,reduceLeDiff,reduceLT,AV.cells_one v5,AV.cells_one v6]
 have o:=AB.last (q:=p3++(p2++(a1++(a2++(a3++a4))))) (by simpa only [List.append_assoc] using o);refine Aq o (by simp) rfl (by simp only [Bu,CZ]; exact ⟨rfl,v1,v2,v3,v4,v5,v6,trivial⟩) fun H o=>?_;have o:=s2 o;refine tt ?_
 have hr:=o.rc 7 0 (by simp);simp only [List.drop_zero] at hr;rw [hr];refine ⟨H,.refl H,_,⟨X1,X2,X3,X4,X5,X6,a1,a2,a3,a4,p2,p3,rfl,rfl,b1,b2,b3,b4,q2,q3⟩, ?_⟩
 have o:=o.tl.perm (MD _ _ _)
 simpa only [List.append_assoc] using o
theorem aL.seven {p : Ob} {X : AV} {f : SF} (h : aL p X f) : ∃ X1 X2 X3 X4 X5 X6,X=.agg [iI f.shape.AR,X1,X2,X3,X4,X5,X6]∧X1.one=true∧X2.one=true∧X3.one=true∧X4.one=true∧X5.one=true∧X6.one=true:=by
 obtain ⟨X1,X2,X3,X4,X5,X6,a1,a2,a3,a4,a5,a6,rfl,rfl,b1,b2,b3,b4,b5,b6⟩:=h;exact ⟨_,_,_,_,_,_,rfl,b1.one,b2.one,b3.one,b4.one,b5.one,b6.one⟩
theorem Kk (B : Nat) (f g : SF) (t : List (List Int)) : IX Tryz.prog B 98 [.ptr f.cells,.ptr g.cells,BD t] fun p X=>fE p X ⟨f,g,t⟩:=by
 refine ⟨fun H0=>c98.go fun _=>tt ?_⟩;refine nb (.nil _) fun id H o=>tt ?_;refine (Ny B f).go o fun Z p1 H q1 o _=>tt ?_;refine (Ny B g).go o fun Y p2 H q2 o _=>tt ?_;refine (Ke B t).go o fun W p3 H q3 o _=>?_
 obtain ⟨X1,X2,X3,X4,X5,X6,rfl,u1,u2,u3,u4,u5,u6⟩:=aL.seven q1
 obtain ⟨Y1,Y2,Y3,Y4,Y5,Y6,rfl,v1,v2,v3,v4,v5,v6⟩:=aL.seven q2
 have w:=q3.one;try simp only [go_sem,↓reduceIte,reduceEqDiff,reduceAdd,reduceMul,reduceLeDiff,reduceLT,AV.cells_one w]
 have o:=AB.last (q:=p3++(p2++p1)) (by simpa only [List.append_assoc] using o);refine Aq o (by simp) rfl (by simp only [Bu,CZ]; exact ⟨rfl,u1,u2,u3,u4,u5,u6,rfl,v1,v2,v3,v4,v5,v6,w,trivial⟩) fun H o=>?_;have o:=s2 o;refine tt ?_
 have hr:=o.rc 15 0 (by simp);simp only [List.drop_zero] at hr;rw [hr];exact ⟨H,.refl H,_,⟨[_,X1,X2,X3,X4,X5,X6],[_,Y1,Y2,Y3,Y4,Y5,Y6],W,p1,p2,p3,rfl,rfl,q1,q2,q3⟩,o.tl.perm (MD _ _ _)⟩
end Go.Proofs.Shf
namespace Go.Shf
open Go.AW Go.Proofs.Shf
theorem JS {j : Df} (hF : j.Form) (hf : Be j.shape) : EM (BU j)=Ag j.shape j.AP:=by
 have Im:=ET hF hf
 have Dz : (BU j).marks.length=(AM j.shape).length:=E2;rw [EM,Ag,Dz,Im.1];apply List.map_congr_left
 intro x hx
 have IZ : x<(AM j.shape).length:=by have:=List.mem_range.mp hx; omega
 rw [KK,E4];apply List.filter_congr
 intro a ha
 have EZ : (BU j).BM=AM j.shape:=rfl
 have KG : (BU j).marks.getD x default=((AM j.shape).getD x default).map fun s=>decide (s∈j.AP.getD x default):=Lz IZ;rw [EZ,KG,List.length_map,E8,Bool.eq_iff_iff,S1,List.all_eq_true,decide_eq_true_eq]
 constructor
 ·intro h s hs
  obtain ⟨n,hn,rfl⟩:=AE.mp (Im.2 x IZ s hs).2
  have:=h n (List.mem_range.mpr hn);rw [B8 _ hn] at this;simp only [Bool.or_eq_true,Bool.not_eq_true',decide_eq_true_eq,decide_eq_false_iff_not] at this;exact this.resolve_left fun e=>e hs
 ·intro h n hn
  have hn:=List.mem_range.mp hn;rw [B8 _ hn]
  by_cases hs : ((AM j.shape).getD x default).getD n default∈j.AP.getD x default
  ·simp only [Bool.or_eq_true,decide_eq_true_eq];exact .inr (h _ hs)
  ·simp only [Bool.or_eq_true,Bool.not_eq_true',decide_eq_false_iff_not];exact .inl hs
def ye : SF:=⟨⟨0,[],[],[],[]⟩,[],[]⟩
def iO : SM:=⟨ye,ye,[]⟩
theorem Xa : aL [] (.agg [.int .i64 0,.A1,.A1,.A1,.A1,.A1,.A1]) ye :=
 ⟨.A1,.A1,.A1,.A1,.A1,.A1,[],[],[],[],[],[],rfl,rfl,.inl ⟨rfl,rfl,rfl⟩,.inl ⟨rfl,rfl,rfl⟩,.inl ⟨rfl,rfl,rfl⟩,.inl ⟨rfl,rfl,rfl⟩,.inl ⟨rfl,rfl,rfl⟩,.inl ⟨rfl,rfl,rfl⟩⟩
theorem Gw : fE [] (.agg [.int .i64 0,.A1,.A1,.A1,.A1,.A1,.A1,.int .i64 0,.A1,.A1,.A1,.A1,.A1,.A1,.A1]) iO :=
 ⟨[_,_,_,_,_,_,_],[_,_,_,_,_,_,_],.A1,[],[],[],rfl,rfl,Xa,Xa,.inl ⟨rfl,rfl,rfl⟩⟩
end Go.Shf
namespace Go.AW
def qx {α : Type} (O : Ob→AV→α→Prop) (code : Int) (p : Ob) (X : AV) (a : α) : Prop:=∃ Y,X=.CK [Y,.int .i64 code]∧O p Y a
theorem Ow.qD {α : Type} {O : Ob→AV→α→Prop} {f : α→AV} (h : Ow O f) (code : Int) : Ow (qx O code) fun a=>.CK [f a,.int .i64 code] :=
 (Ow.CK fun a=>[f a,.int .i64 code]).of fun p X a ⟨Y,e,hY⟩=>⟨_,e,by
  have:=FV.cons h hY (xU code .nil);rw [List.append_nil] at this; exact this⟩
end Go.AW
namespace Go.Proofs.Shf
open Go.AW Go.Proofs Go.Shf
theorem fE.Sj {p : Ob} {X : AV} {m : SM} (h : fE p X m) : ∃ Xs,X=.agg Xs∧Xs.length=15∧∀ c,c∈Xs→c.one=true:=by
 obtain ⟨Xs,Ys,Z,p1,p2,p3,rfl,rfl,h1,h2,h3⟩:=h
 obtain ⟨X1,X2,X3,X4,X5,X6,e,u1,u2,u3,u4,u5,u6⟩:=aL.seven h1
 obtain ⟨Y1,Y2,Y3,Y4,Y5,Y6,e2,v1,v2,v3,v4,v5,v6⟩:=aL.seven h2
 injection e with e
 injection e2 with e2
 subst e e2;refine ⟨_,rfl,rfl, ?_⟩;simp only [List.cons_append,List.nil_append,Bu,CZ];exact ⟨rfl,u1,u2,u3,u4,u5,u6,rfl,v1,v2,v3,v4,v5,v6,h3.one,trivial⟩
theorem dY {l : List AV} (h : l.length=15) : ∃ a b c d e f g h i j k m n o p,l=[a,b,c,d,e,f,g,h,i,j,k,m,n,o,p]:=by
 match l,h with
 | [a,b,c,d,e,f,g,h,i,j,k,m,n,o,p],_=>exact ⟨a,b,c,d,e,f,g,h,i,j,k,m,n,o,p,rfl⟩
end Go.Proofs.Shf
namespace Go.Shf
open Go.AW
def thenS (s t : List (List Int)) : List (List Int):=(List.range s.length).map fun x=>(s.getD x default).map fun y=>ix (t.getD x default) y
def CG (f : SF) (V : List (List Int)) : Prop:=Bh f V∧Bh (AO f V) V
theorem bN {f : SF} {V : List (List Int)} (h : f.Shape) (hc : f.DE) (v : BT f.shape V) {x : Nat} (hx : x<f.A4.length) : ∀ y,y∈(BR f V).getD x default→0≤y∧y.toNat<(Au f V x).length:=by
 intro y hy
 have G7:=h.sl
 have Wz:=v.len;rw [BR,AS _ _ hx,Dl] at hy
 obtain ⟨e,he,rfl⟩:=List.mem_map.mp hy
 obtain ⟨n,hn,rfl⟩:=List.mem_map.mp he
 have hn:=List.mem_range.mp hn
 have hs:=v.sv x (by omega)
 have hm:=JB (e:=(n : Int)) h hc hs ⟨by omega,by omega⟩
 have:=B3 (((Ba h hs).mem _).mpr hm);exact ⟨this.1,this.2.1⟩
theorem bF {f : SF} {V : List (List Int)} (h : f.Shape) (v : BT f.shape V) {x : Nat} (hx : x<f.A4.length) : ((BR (AO f V) V).getD x default).length=(Au f V x).length:=by
 have G7:=h.sl
 have Wz:=v.len
 have h1 : (AO f V).A4.length=V.length:=by simp [AO,B5]
 rw [BR,AS _ _ (by omega),Dl,List.length_map,List.length_map,List.length_range]
 have : ix (AO f V).A4 x=((Au f V x).length : Int):=by
  show ix (B5 f V) x=_
  rw [AJ,B5,AS _ _ (by omega)]; rfl
 rw [this]; rfl
theorem L8 {f : SF} {V : List (List Int)} (h : f.Shape) (hc : f.DE) (v : BT f.shape V) : (BR f V).length≤(BR (AO f V) V).length∧(BR f V).length≤8 ∧
  ∀ x,x<(BR f V).length→∀ y,y∈(BR f V).getD x default→0≤y∧y.toNat<((BR (AO f V) V).getD x default).length:=by
 have G7:=h.sl
 have Wz:=v.len
 have ho:=h.is.1.o
 have h0 : (BR f V).length=f.A4.length:=by simp [BR]
 have h1 : (BR (AO f V) V).length=V.length:=by simp [BR,AO,B5]
 refine ⟨by omega,by omega,fun x hx y hy=>?_⟩;rw [bF h v (by omega)];exact bN h hc v (by omega) y hy
end Go.Shf
namespace Go.Proofs.Shf
open Go.AW Go.Proofs Go.Shf
theorem eN (B : Nat) {f : SF} {V : List (List Int)} (h : f.Shape) (hc : f.DE) (v : BT f.shape V) : PB B 102 [BD (BR f V),BD (BR (AO f V) V)] (BD (thenS (BR f V) (BR (AO f V) V))) :=
 VN B _ _ (L8 h hc v).1 (L8 h hc v).2.2
theorem QK (B : Nat) {f : SF} {V : List (List Int)} (h : f.Shape) (hc : f.DE) (v : BT f.shape V) : PB B 119 [BD (BR f V),BD (BR (AO f V) V)] (BD (thenS (BR f V) (BR (AO f V) V))) :=
 LZ B _ _ (L8 h hc v).1 (L8 h hc v).2.2
open Classical in
noncomputable def JH (f : SF) (V : List (List Int)) : List AV:=if CG f V then CM (AO f V) V else MG
theorem WD (f : SF) (V : List (List Int)) : ∃ a1 a2 a3 a4 a5 a6 a7 a8,K4 f V=[a1,a2,a3,a4,a5,a6,a7,a8]∧∀ c,c∈[a1,a2,a3,a4,a5,a6,a7,a8]→c.one=true:=by
 unfold K4
 split
 ·exact ⟨_,_,_,_,_,_,_,_,rfl,by simp only [Bu,CZ]; exact ⟨rfl,rfl,rfl,rfl,rfl,rfl,rfl,rfl,trivial⟩⟩
 ·exact ⟨_,_,_,_,_,_,_,_,rfl,by simp only [Bu,CZ]; exact ⟨rfl,rfl,rfl,rfl,rfl,rfl,rfl,rfl,trivial⟩⟩
theorem Nk (B : Nat) (f : SF) (h : f.Shape) (V : List (List Int)) (c : BT f.shape V) : PB B 173 [.agg f.cells,BD V] (.CK [.agg (K4 f V),.agg (JH f V),.bool (dec (CG f V))]):=by
 refine ⟨fun H0=>dw.go fun Gc=>tt ?_⟩;refine nb (.nil _) fun BN H o=>tt ?_;refine nb o fun CS H o=>tt ?_;refine (Ot B f h V c).go fun _=>?_
 by_cases h1 : Bh f V
 ·rw [YB h1,Ay h1];refine tt ?_;refine nb o fun Cv H o=>tt ?_;refine sw o fun H o=>tt ?_;refine AZ o (by simp) (tt ?_);refine (Ot B (AO f V) (Bx h c h1) V c).go fun _=>?_
  obtain ⟨a1,a2,a3,a4,a5,a6,a7,a8,hA,h8⟩:=WD (AO f V) V
  have hB : JH f V=[a1,a2,a3,a4,a5,a6,a7,a8]:=by
   rw [← hA,JH,K4]
   by_cases h2 : Bh (AO f V) V
   ·rw [if_pos ⟨h1,h2⟩,if_pos h2]
   ·rw [if_neg (fun e=>h2 e.2),if_neg h2]
  have hD : dec (CG f V)=dec (Bh (AO f V) V):=by
   by_cases h2 : Bh (AO f V) V
   ·rw [Ay h2,Ay ⟨h1,h2⟩]
   ·rw [Ab h2,Ab (fun e=>h2 e.2)]
  rw [hA,hB,hD];refine tt ?_;refine nb o fun HC H o=>tt ?_;refine Aq o (by simp) (by (try simp only [go_sem]); (try simp)) h8 fun H o=>?_;have o:=s2 o;refine tt ?_;refine CX 9 o rfl fun H o=>?_;refine CX 7 o rfl fun H o=>AX ?_;refine tt ?_;refine sw o.swap fun H o=>tt ?_;refine Aq o.swap (by simp) (by (try simp only [go_sem]); (try simp)) h8 fun H o=>?_;have o:=s2 o;refine tt ?_
  have hr:=o.swap.rc 8 0 (by simp)
  have BZ:=o.rc 8 0 (by simp);simp only [List.drop_zero] at hr BZ;rw [hr,BZ];exact A6 rfl o.sub
 ·have hB : JH f V=MG:=by rw [JH,if_neg (fun e=>h1 e.1)]
  rw [XY h1,Ab h1,hB,Ab (fun e=>h1 e.1)];refine tt ?_;refine nb o fun Cv H o=>tt ?_;refine sw o fun H o=>tt ?_;refine sw o.tl.swap fun H o=>tt ?_;refine sw o.swap fun H o=>tt ?_
  have hr:=o.swap.rc 8 0 (by simp)
  have BZ:=o.rc 8 0 (by simp);simp only [List.drop_zero] at hr BZ;rw [hr,BZ];exact A6 rfl o.sub
open Classical in
noncomputable def L4 (j : Df) (f : SF) : List AV:=if codeF j f=0∧CG f (Ag j.shape j.AP) then CM f (Ag j.shape j.AP) else MG
open Classical in
noncomputable def LK (j : Df) (f : SF) : List AV:=if codeF j f=0∧CG f (Ag j.shape j.AP) then CM (AO f (Ag j.shape j.AP)) (Ag j.shape j.AP) else MG
open Classical in
noncomputable def Cj (j : Df) (f : SF) : Int:=if codeF j f=0 then (if CG f (Ag j.shape j.AP) then 0 else 3) else codeF j f
theorem Dx {j : Df} {f : SF} (h : codeF j f=0) : j.Form∧f.Is∧j.shape=f.shape∧BT f.shape (Ag f.shape j.AP):=by
 obtain ⟨hF,hf,Fz,Ee⟩:=Jj h
 have Gl : Fl j.shape j.AP:=by
  unfold DF at Fz;rw [if_neg (fun e=>e hF)] at Fz
  split at Fz
  ·cases Fz
  ·split at Fz
   ·assumption
   ·cases Fz
 have F4:=Jn hF.is hF.len (fun x hx s hs=>by
  obtain ⟨k,hk,rfl⟩:=AE.mp hs;exact hF.sv x hx k hk) Gl
 rw [Ee] at F4;exact ⟨hF,hf,Ee,F4⟩
theorem M5 (B : Nat) (j : Df) (f : SF) : PB B 95 [.agg j.cells,.agg f.cells] (.CK [.agg (L4 j f),.agg (LK j f),.int .i64 (Cj j f)]):=by
 refine ⟨fun H0=>vl.go fun Gc=>tt ?_⟩;refine nb (.nil _) fun BN H o=>tt ?_;refine nb o fun CS H o=>tt ?_;refine (Ng B j f).go fun _=>tt ?_;apply bk <;> intro h1
 ·have AU : ¬ codeF j f=0:=by simpa using h1
  refine tt ?_;refine sw o.swap fun H o=>tt ?_;refine sw o.swap fun H o=>tt ?_
  have hr:=o.swap.rc 8 0 (by simp)
  have BZ:=o.rc 8 0 (by simp);simp only [List.drop_zero] at hr BZ;rw [hr,BZ];refine A6 ?_ o.sub;rw [L4,LK,Cj,if_neg (fun e=>AU e.1),if_neg (fun e=>AU e.1),if_neg AU]; rfl
 ·have AU : codeF j f=0:=by simpa using h1
  obtain ⟨hF,hf,Ee,F4⟩:=Dx AU;refine tt ?_;refine ⟨_,(H7 B j).run, ?_⟩;rw [Ee];refine ⟨_,(Nk B f hf.1 (Ag f.shape j.AP) F4).run, ?_⟩
  obtain ⟨a1,a2,a3,a4,a5,a6,a7,a8,hA,h8⟩:=WD f (Ag f.shape j.AP)
  obtain ⟨b1,b2,b3,b4,b5,b6,b7,b8,hB,vH⟩ : ∃ b1 b2 b3 b4 b5 b6 b7 b8,JH f (Ag f.shape j.AP)=[b1,b2,b3,b4,b5,b6,b7,b8]∧∀ c,c∈[b1,b2,b3,b4,b5,b6,b7,b8]→c.one=true:=by
   unfold JH
   split
   ·exact ⟨_,_,_,_,_,_,_,_,rfl,by simp only [Bu,CZ]; exact ⟨rfl,rfl,rfl,rfl,rfl,rfl,rfl,rfl,trivial⟩⟩
   ·exact ⟨_,_,_,_,_,_,_,_,rfl,by simp only [Bu,CZ]; exact ⟨rfl,rfl,rfl,rfl,rfl,rfl,rfl,rfl,trivial⟩⟩
  have hAA : CG f (Ag f.shape j.AP)→L4 j f=[a1,a2,a3,a4,a5,a6,a7,a8]:=fun h=>by rw [L4,Ee,if_pos ⟨AU,h⟩,← hA,K4,if_pos h.1]
  have hBB : CG f (Ag f.shape j.AP)→LK j f=[b1,b2,b3,b4,b5,b6,b7,b8]:=fun h=>by rw [LK,Ee,if_pos ⟨AU,h⟩,← hB,JH,if_pos h]
  rw [hA,hB]
  by_cases Bf : CG f (Ag f.shape j.AP)
  ·have hC : Cj j f=0:=by rw [Cj,Ee,if_pos AU,if_pos Bf]
   rw [Ay Bf];refine tt ?_;refine ⟨⟨by simp [AK],Am o fun Ec H o=>?_⟩,by simp [AK],Am o fun HC H o=>?_⟩
   ·refine tt ?_;refine nb o fun HC H o=>tt ?_;refine Aq o.swap (by simp) (by (try simp only [go_sem]); (try simp)) h8 fun H o=>?_;have o:=s2 o;refine tt ?_;refine Aq o.swap (by simp) (by (try simp only [go_sem]); (try simp)) vH fun H o=>?_;have o:=s2 o;refine tt ?_;refine CX 9 o rfl fun H o=>?_;refine CX 8 o rfl fun H o=>AX ?_;refine tt ?_;refine Aq o.swap (by simp) (by (try simp only [go_sem]); (try simp)) h8 fun H o=>?_;have o:=s2 o;refine tt ?_;refine Aq o.swap (by simp) (by (try simp only [go_sem]); (try simp)) vH fun H o=>?_;have o:=s2 o;refine tt ?_
    have hr:=o.swap.rc 8 0 (by simp)
    have BZ:=o.rc 8 0 (by simp);simp only [List.drop_zero] at hr BZ;rw [hr,BZ];refine A6 ?_ o.sub;rw [hAA Bf,hBB Bf,hC]; rfl
   ·refine tt ?_;refine nb o fun Ec H o=>tt ?_;refine Aq o (by simp) (by (try simp only [go_sem]); (try simp)) h8 fun H o=>?_;have o:=s2 o;refine tt ?_;refine Aq o.swap (by simp) (by (try simp only [go_sem]); (try simp)) vH fun H o=>?_;have o:=s2 o;refine tt ?_;refine CX 9 o rfl fun H o=>?_;refine CX 8 o rfl fun H o=>AX ?_;refine tt ?_;refine Aq o.swap (by simp) (by (try simp only [go_sem]); (try simp)) h8 fun H o=>?_;have o:=s2 o;refine tt ?_;refine Aq o.swap (by simp) (by (try simp only [go_sem]); (try simp)) vH fun H o=>?_;have o:=s2 o;refine tt ?_
    have hr:=o.swap.rc 8 0 (by simp)
    have BZ:=o.rc 8 0 (by simp);simp only [List.drop_zero] at hr BZ;rw [hr,BZ];refine A6 ?_ o.sub;rw [hAA Bf,hBB Bf,hC]; rfl
  ·have hC : Cj j f=3:=by rw [Cj,Ee,if_pos AU,if_neg Bf]
   have gw : L4 j f=MG:=by rw [L4,Ee,if_neg (fun e=>Bf e.2)]
   have hB0 : LK j f=MG:=by rw [LK,Ee,if_neg (fun e=>Bf e.2)]
   rw [Ab Bf];refine tt ?_;refine ⟨⟨by simp [AK],Am o fun Ec H o=>?_⟩,by simp [AK],Am o fun HC H o=>?_⟩
   ·refine tt ?_;refine nb o fun HC H o=>tt ?_;refine Aq o.swap (by simp) (by (try simp only [go_sem]); (try simp)) h8 fun H o=>?_;have o:=s2 o;refine tt ?_;refine Aq o.swap (by simp) (by (try simp only [go_sem]); (try simp)) vH fun H o=>?_;have o:=s2 o;refine tt ?_;refine sw o.tl.tl.swap fun H o=>tt ?_;refine sw o.swap fun H o=>tt ?_
    have hr:=o.swap.rc 8 0 (by simp)
    have BZ:=o.rc 8 0 (by simp);simp only [List.drop_zero] at hr BZ;rw [hr,BZ];refine A6 ?_ o.sub;rw [gw,hB0,hC]; rfl
   ·refine tt ?_;refine nb o fun Ec H o=>tt ?_;refine Aq o (by simp) (by (try simp only [go_sem]); (try simp)) h8 fun H o=>?_;have o:=s2 o;refine tt ?_;refine Aq o.swap (by simp) (by (try simp only [go_sem]); (try simp)) vH fun H o=>?_;have o:=s2 o;refine tt ?_;refine sw o.tl.tl.swap fun H o=>tt ?_;refine sw o.swap fun H o=>tt ?_
    have hr:=o.swap.rc 8 0 (by simp)
    have BZ:=o.rc 8 0 (by simp);simp only [List.drop_zero] at hr BZ;rw [hr,BZ];refine A6 ?_ o.sub;rw [gw,hB0,hC]; rfl
theorem bR (j : Df) (f : SF) : ∃ a1 a2 a3 a4 a5 a6 a7 a8,LK j f=[a1,a2,a3,a4,a5,a6,a7,a8]∧∀ c,c∈[a1,a2,a3,a4,a5,a6,a7,a8]→c.one=true:=by
 unfold LK
 split
 ·exact ⟨_,_,_,_,_,_,_,_,rfl,by simp only [Bu,CZ]; exact ⟨rfl,rfl,rfl,rfl,rfl,rfl,rfl,rfl,trivial⟩⟩
 ·exact ⟨_,_,_,_,_,_,_,_,rfl,by simp only [Bu,CZ]; exact ⟨rfl,rfl,rfl,rfl,rfl,rfl,rfl,rfl,trivial⟩⟩
theorem dG (j : Df) (f : SF) : ∃ a1 a2 a3 a4 a5 a6 a7 a8,L4 j f=[a1,a2,a3,a4,a5,a6,a7,a8]∧∀ c,c∈[a1,a2,a3,a4,a5,a6,a7,a8]→c.one=true:=by
 unfold L4
 split
 ·exact ⟨_,_,_,_,_,_,_,_,rfl,by simp only [Bu,CZ]; exact ⟨rfl,rfl,rfl,rfl,rfl,rfl,rfl,rfl,trivial⟩⟩
 ·exact ⟨_,_,_,_,_,_,_,_,rfl,by simp only [Bu,CZ]; exact ⟨rfl,rfl,rfl,rfl,rfl,rfl,rfl,rfl,trivial⟩⟩
open Classical in
noncomputable def Wu (j : Df) (f : SF) : List AV:=if codeF j f=0∧CG f (Ag j.shape j.AP) then
  SM.cells ⟨f,AO (AO f (Ag j.shape j.AP)) (Ag j.shape j.AP),thenS (BR f (Ag j.shape j.AP)) (BR (AO f (Ag j.shape j.AP)) (Ag j.shape j.AP))⟩ else
 [.int .i64 0,.A1,.A1,.A1,.A1,.A1,.A1,.int .i64 0,.A1,.A1,.A1,.A1,.A1,.A1,.A1]
theorem Mq {j : Df} {f : SF} (hz : Cj j f=0) : codeF j f=0∧CG f (Ag j.shape j.AP):=by
 have gD : codeF j f=0:=by
  apply Classical.byContradiction; intro e;rw [Cj,if_neg e] at hz; exact e hz
 refine ⟨gD, ?_⟩;rw [Cj,if_pos gD] at hz;apply Classical.byContradiction; intro e;rw [if_neg e] at hz; cases hz
theorem S2 (B : Nat) (j : Df) (f : SF) : PB B 38 [.agg j.cells,.agg f.cells] (.CK [.agg (Wu j f),.int .i64 (Cj j f)]):=by
 refine ⟨fun H0=>yl.go fun Gc=>tt ?_⟩;refine nb (.nil _) fun BN H o=>tt ?_;refine (M5 B j f).go fun _=>?_
 by_cases hz : Cj j f=0
 ·obtain ⟨gD,Bf⟩:=Mq hz
  obtain ⟨hF,hf,Ee,F4⟩:=Dx gD
  have hA : L4 j f=CM f (Ag j.shape j.AP):=by rw [L4,if_pos ⟨gD,Bf⟩]
  have hB : LK j f=CM (AO f (Ag j.shape j.AP)) (Ag j.shape j.AP):=by rw [LK,if_pos ⟨gD,Bf⟩]
  have hU : Wu j f=SM.cells ⟨f,AO (AO f (Ag f.shape j.AP)) (Ag f.shape j.AP),thenS (BR f (Ag f.shape j.AP)) (BR (AO f (Ag f.shape j.AP)) (Ag f.shape j.AP))⟩:=by
   rw [Wu,if_pos ⟨gD,Bf⟩,Ee]
  rw [Ee] at Bf hA hB
  have hl:=H7 B j;rw [Ee] at hl
  have V1:=Bx hf.1 F4 Bf.1;rw [hz,hA,hB,hU]
  generalize Ag f.shape j.AP=V at *
  have vJ:=OS B f hf.1 V F4
  have hu2:=OS B (AO f V) V1 V F4
  have ht:=eN B hf.1 hf.FR F4
  have KF:=GG B f (AO (AO f V) V) (thenS (BR f V) (BR (AO f V) V));refine tt ?_;refine nb o fun F8 H o=>tt ?_;refine nb o fun Cv H o=>tt ?_;refine sw o.swap fun H o=>tt ?_;refine sw o.swap fun H o=>tt ?_;refine ⟨fun e=>(by simp at e),fun _=>At.mk ?_⟩;refine tt ?_;refine hl.go fun _=>tt ?_;refine AZ o (by simp) (tt ?_);refine AZ o.swap (by simp) (tt ?_);refine ⟨_,vJ.run, ?_⟩;refine AZ o.swap (by simp) (tt ?_);refine AZ o (by simp) (tt ?_);refine ⟨_,hu2.run, ?_⟩;refine ⟨_,ht.run, ?_⟩;refine ⟨_,KF.run,tt ?_⟩;refine sw o.tl.tl fun H o=>tt ?_
  have hr:=o.rc 15 0 (by simp);simp only [List.drop_zero] at hr;rw [hr];exact A6 rfl o.sub
 ·have hU : Wu j f=[.int .i64 0,.A1,.A1,.A1,.A1,.A1,.A1,.int .i64 0,.A1,.A1,.A1,.A1,.A1,.A1,.A1]:=by
   rw [Wu,if_neg]
   rintro ⟨e1,e2⟩;rw [Cj,if_pos e1,if_pos e2] at hz;exact hz rfl
  obtain ⟨a1,a2,a3,a4,a5,a6,a7,a8,hA,h1⟩:=dG j f
  obtain ⟨b1,b2,b3,b4,b5,b6,b7,b8,hB,h2⟩:=bR j f;rw [hA,hB,hU]
  generalize Cj j f=cd at *;refine tt ?_;refine nb o fun F8 H o=>tt ?_;refine nb o fun Cv H o=>tt ?_;refine Aq o.swap (by simp) (by (try simp only [go_sem]); (try simp)) h1 fun H o=>?_;have o:=s2 o;refine tt ?_;refine Aq o.swap (by simp) (by (try simp only [go_sem]); (try simp)) h2 fun H o=>?_;have o:=s2 o;refine tt ?_;refine ⟨fun _=>At.mk ?_,fun e=>absurd (by simpa using e) hz⟩;refine tt ?_;refine sw o.tl.tl fun H o=>tt ?_
  have hr:=o.rc 15 0 (by simp);simp only [List.drop_zero] at hr;rw [hr];exact A6 rfl o.sub
end Go.Proofs.Shf
namespace Go.Shf
open Go.AW Go.Proofs.Shf
open Classical in
noncomputable def KY (j : Df) (f : SF) : SM:=if codeF j f=0∧CG f (Ag j.shape j.AP) then
 ⟨f,AO (AO f (Ag j.shape j.AP)) (Ag j.shape j.AP),thenS (BR f (Ag j.shape j.AP)) (BR (AO f (Ag j.shape j.AP)) (Ag j.shape j.AP))⟩ else iO
open Classical in
noncomputable def JA (f : SF) (V : List (List Int)) : AV:=if CG f V then .ptr [Eu f V,Eu (AO f V) V] else .Gk
end Go.Shf
namespace Go.Proofs.Shf
open Go.AW Go.Proofs Go.Shf
theorem Us (B : Nat) (v : NJ) (cnt : AV) (f : SF) (h : f.Shape) (Ee : v.shape=f.shape) (Dz : (v.marks.length : Int)=f.shape.AR) (Gd : v.BM.length=v.marks.length)
  (Jo : ∀ x,x<v.marks.length→(v.marks.getD x default).length≤(v.BM.getD x default).length∧(v.marks.getD x default).length≤1000000)
  (c : BT f.shape (EM v)) : PB B 97 [.ptr (v.cells cnt),.ptr f.cells] (.CK [JA f (EM v),.bool (dec (CG f (EM v)))]):=by
 refine ⟨fun H0=>c97.go fun Gc=>?_⟩
 have q1:=Xg B v cnt f h Ee Dz Gd Jo c
 have q2:=fun h1=>Xg B v cnt (AO f (EM v)) (Bx h c h1) Ee Dz Gd Jo c
 generalize v.cells cnt=cv at *
 generalize EM v=V at *;refine tt ?_;refine q1.go fun _=>?_
 by_cases h1 : Bh f V
 ·rw [KQ,if_pos h1,Ay h1];refine tt ?_;refine (q2 h1).go fun _=>?_
  by_cases h2 : Bh (AO f V) V
  ·rw [KQ,if_pos h2,Ay h2,JA,if_pos ⟨h1,h2⟩,Ay ⟨h1,h2⟩];refine tt ?_;exact A6 rfl (.refl _)
  ·rw [KQ,if_neg h2,Ab h2,JA,if_neg (fun e=>h2 e.2),Ab (fun e=>h2 e.2)];refine tt ?_;exact A6 rfl (.refl _)
 ·rw [KQ,if_neg h1,Ab h1,JA,if_neg (fun e=>h1 e.1),Ab (fun e=>h1 e.1)];refine tt ?_;exact A6 rfl (.refl _)
theorem S7 (B : Nat) (f : SF) (h : f.Shape) (hc : f.DE) (V : List (List Int)) (c : BT f.shape V) (Bf : CG f V) :
  PB B 99 [.ptr [Eu f V,Eu (AO f V) V]] (BD (thenS (BR f V) (BR (AO f V) V))):=by
 refine ⟨fun H0=>c99.go fun Gc=>?_⟩
 have q1:=XT B f h hc V c Bf.1
 have q2:=XT B (AO f V) (Bx h c Bf.1) (G4 h c Bf.1) V c Bf.2
 have q3:=QK B h hc c
 generalize gK : Eu f V=x1 at *
 generalize QX : Eu (AO f V) V=x2 at *
 generalize vJ : BR f V=u1 at *
 generalize hu2 : BR (AO f V) V=u2 at *
 have o1 : x1.one=true:=by rw [← gK]; rfl
 have o2 : x2.one=true:=by rw [← QX]; rfl
 refine t2 o1 o2 ?_
 refine ⟨_,q1.run, ?_⟩;refine t2 o1 o2 ?_
 refine ⟨_,q2.run, ?_⟩;refine ⟨_,q3.run,tt ?_⟩;exact A6 rfl (.refl _)
theorem LQ (B : Nat) (j : Df) (f : SF) : IX Tryz.prog B 37 [.agg j.cells,.agg f.cells] fun p X=>qx fE (Cj j f) p X (KY j f):=by
 refine ⟨fun H0=>c37p.go fun _=>?_⟩
 have Zo:=fun H=>Sq B j f H;refine tt ?_;refine nb (.nil _) fun id H o=>tt ?_;refine (Zo H).mono ?_
 rintro r H ⟨rfl,X,rfl,hX⟩
 by_cases h0 : codeF j f=0
 ·obtain ⟨cnt,rfl⟩:=hX h0
  obtain ⟨hF,hf,Fz,Ee⟩:=Jj h0
  have Py : Be j.shape:=by
   unfold DF at Fz;rw [if_neg (fun e=>e hF)] at Fz;apply Classical.byContradiction; intro e;rw [if_pos e] at Fz; cases Fz
  have Gl : Fl j.shape j.AP:=by
   unfold DF at Fz;rw [if_neg (fun e=>e hF),if_neg (fun e=>e Py)] at Fz;apply Classical.byContradiction; intro e;rw [if_neg e] at Fz; cases Fz
  have F4:=Jn hF.is hF.len (fun x hx s hs=>by
   obtain ⟨k,hk,rfl⟩:=AE.mp hs;exact hF.sv x hx k hk) Gl
  have tab:=HT hF.is Py
  have Dz : (BU j).marks.length=(AM j.shape).length:=E2
  have KF : DV (AM j.shape) (BU j).marks:=GW
  have D1:=Us B (BU j) cnt f hf.1 Ee (by rw [Dz,← Ee]; exact tab.len) Dz.symm (fun x hx=>by
   have IZ : x<(AM j.shape).length:=by rw [← Dz]; exact hx
   have h1:=KF.row x IZ
   have h2:=tab.YH x IZ
   have h3 : (BU j).BM=AM j.shape:=rfl;rw [h1,h3];exact ⟨Nat.le_refl _,by omega⟩) (by rw [JS hF Py,← Ee]; exact F4)
  rw [JS hF Py] at D1;rw [h0];rw [Ee] at F4
  generalize nP : (BU j).cells cnt=cv at *
  generalize hV : Ag j.shape j.AP=V at *
  have hVs : Ag f.shape j.AP=V:=by rw [← Ee]; exact hV
  rw [hVs] at F4
  have gA:=fun Bf=>S7 B f hf.1 hf.FR V F4 Bf
  have Ik:=Kk B f (AO (AO f V) V) (thenS (BR f V) (BR (AO f V) V));refine tt ?_;refine ⟨fun e=>(by simp at e),fun _=>At.mk ?_⟩;refine tt ?_;refine D1.go fun _=>?_
  by_cases Bf : CG f V
  ·have hM : KY j f=⟨f,AO (AO f V) V,thenS (BR f V) (BR (AO f V) V)⟩:=by rw [KY,hV,if_pos ⟨h0,Bf⟩]
   have hC : Cj j f=0:=by rw [Cj,hV,if_pos h0,if_pos Bf]
   rw [JA,if_pos Bf,Ay Bf,hM,hC]
   replace gA:=gA Bf;refine tt ?_;refine ⟨_,gA.run,tt ?_⟩;refine Ik.go o fun Y p H q o _=>?_
   obtain ⟨Ys,rfl,hl,h1⟩:=fE.Sj q;refine tt ?_
   have o:=AB.last o;refine Aq o (by simp) hl h1 fun H o=>?_
   obtain ⟨y1,y2,y3,y4,y5,y6,y7,y8,y9,y10,y11,y12,y13,y14,y15,rfl⟩:=dY hl;have o:=s2 o;refine tt ?_
   have hr:=o.rc 15 0 (by simp);simp only [List.drop_zero] at hr;rw [hr];exact ⟨H,.refl H,p,⟨_,rfl,q⟩,o.tl⟩
  ·have hM : KY j f=iO:=by rw [KY,hV,if_neg (fun e=>Bf e.2)]
   have hC : Cj j f=3:=by rw [Cj,hV,if_pos h0,if_neg Bf]
   rw [JA,if_neg Bf,Ab Bf,hM,hC];refine tt ?_;refine sw o fun H o=>tt ?_
   have hr:=o.rc 15 0 (by simp);simp only [List.drop_zero] at hr;rw [hr];exact ⟨H,.refl H,[],⟨_,rfl,Gw⟩,o.tl⟩
 ·have hM : KY j f=iO:=by rw [KY,if_neg (fun e=>h0 e.1)]
  have hC : Cj j f=codeF j f:=by rw [Cj,if_neg h0]
  rw [hM,hC];refine tt ?_;refine ⟨fun _=>At.mk ?_,fun e=>?_⟩;rotate_left
  ·exact absurd (by simpa using e) h0
  refine tt ?_;refine sw o fun H o=>tt ?_
  have hr:=o.rc 15 0 (by simp);simp only [List.drop_zero] at hr;rw [hr];exact ⟨H,.refl H,[],⟨_,rfl,Gw⟩,o.tl⟩
end Go.Proofs.Shf
namespace Go.AW
open Go.RowKit
def oY (g : Gh) (B : Nat) (w : World) (X : AA→Prop) (w' : World) : Prop:=∃ g' H',g.le g'∧X H'∧Ao g' B H' w'∧Below B w w'
def Chn (ch : List PanicEntry) : Prop:=∃ t v,ch=[{ v:=.iface t v,recovered:=false }]
def GF (P : Program) (B : Nat) (f : FuncId) (args : List AV) (H : AA) (K : Ap) (X : AA→Prop) : Prop :=
 Enters P f∧∀ g w vs,Ao g B H w→Fm g args vs→Calls P f vs w fun e w'=>(∃ v,e=.returned v∧Dj g B w K v w')∨∃ ch,e=.panicked ch∧Chn ch∧oY g B w X w'
theorem GF.mono {P : Program} {B : Nat} {f : FuncId} {args : List AV} {H : AA} {K K' : Ap} {X X' : AA→Prop} (h : GF P B f args H K X) (hk : ∀ r H,K r H→K' r H) (hx : ∀ H,X H→X' H) : GF P B f args H K' X' :=
 ⟨h.1,fun g w vs hw hv=>(h.2 g w vs hw hv).mono fun _ _ hh=>by
  rcases hh with ⟨v,e,hf⟩ | ⟨ch,e,hc,g',H',a,b,c⟩
  ·exact .inl ⟨v,e,hf.mono hk⟩
  ·exact .inr ⟨ch,e,hc,g',H',a,hx _ b,c⟩⟩
theorem GF.toH {P : Program} {B : Nat} {f : FuncId} {args : List AV} {H : AA} {K : Ap} (h : GF P B f args H K fun _=>False) : BG P B f args H K :=
 ⟨h.1,fun g w vs hw hv=>(h.2 g w vs hw hv).mono fun _ _ hh=>by
  rcases hh with hh | ⟨ch,e,hc,g',H',a,b,c⟩
  ·exact hh
  ·exact b.elim⟩
def M9 (P : Program) (B : Nat) : Option AV→Option (List AV)→Ap→(AA→Prop)→AA→Prop
 | some (.fn (.func f) ca),some ais,K,X,H=>GF P B f (ais++ca) H K X
 | _,_,_,_,_=>False
@[go_sem] theorem sX {P : Program} {B : Nat} {H : AA} (f : FuncId) (ca ais : List AV) (K : Ap) (X : AA→Prop) : M9 P B (some (.fn (.func f) ca)) (some ais) K X H=GF P B f (ais++ca) H K X:=rfl
inductive XC where
 | sc (s : SC)
 | seq (a b : XC)
 | cond (x : X) (a b : XC)
 | block (id : Nat) (c : XC)
 | loop (l : List Nat) (c : XC)
 | BA (l : List Nat) (c : XC)
 | RL (pre : List Cx) (d : Option Nat) (f : X) (xs : List X)
 | vW (pre : List Cx) (x : X)
def rm : Option AV→Prop
 | some (.RM _ _)=>True
 | _=>False
@[go_sem] theorem ph (t : TypeId) (v : AV) : rm (some (.RM t v))=True:=rfl
def kJ (x : X) (X0 : AA→Prop) (σ : Env) (H : AA) : Prop:=rm (val σ x)∧X0 H
def Ti (P : Program) (B : Nat) (d : Option Nat) (f : X) (xs : List X) (F : Env→AA→Prop) (X0 : AA→Prop) (σ : Env) (H : AA) : Prop :=
 M9 P B (val σ f) (DB σ xs) (DP d F σ) X0 H
def NI (P : Program) (B : Nat) : XC→AQ→(AA→Prop)→Env→AA→Prop
 | .sc s,Q,_,σ,H=>FN P B s Q σ H
 | .seq a b,Q,X0,σ,H=>NI P B a (QN (NI P B b Q X0) Q) X0 σ H
 | .cond x a b,Q,X0,σ,H=>PD (val σ x) (NI P B a Q X0) (NI P B b Q X0) σ H
 | .block id c,Q,X0,σ,H=>NI P B c (QR id Q) X0 σ H
 | .loop l c,Q,X0,σ,H=>mT l (fun Q=>NI P B c Q X0) Q (Env.BA l σ) H
 | .BA l c,Q,X0,σ,H=>NI P B c Q X0 (Env.BA l σ) H
 | .RL pre d f xs,Q,X0,σ,H=>CF P B pre (Ti P B d f xs (Q .norm) X0) σ H
 | .vW pre x,_,X0,σ,H=>CF P B pre (kJ x X0) σ H
section
variable {P : Program} {B : Nat} {Q : AQ} {X0 : AA→Prop} {σ : Env} {H : AA}
@[go_sem] theorem xn (s : SC) : NI P B (.sc s) Q X0 σ H=FN P B s Q σ H:=rfl
@[go_sem] theorem ko (a b : XC) : NI P B (.seq a b) Q X0 σ H=NI P B a (QN (NI P B b Q X0) Q) X0 σ H:=rfl
@[go_sem] theorem dx (x : X) (a b : XC) : NI P B (.cond x a b) Q X0 σ H=PD (val σ x) (NI P B a Q X0) (NI P B b Q X0) σ H:=rfl
@[go_sem] theorem uJ (id : Nat) (c : XC) : NI P B (.block id c) Q X0 σ H=NI P B c (QR id Q) X0 σ H:=rfl
@[go_sem] theorem w9 (l : List Nat) (c : XC) : NI P B (.BA l c) Q X0 σ H=NI P B c Q X0 (Env.BA l σ) H:=rfl
@[go_sem] theorem uA (pre : List Cx) (d : Option Nat) (f : X) (xs : List X) : NI P B (.RL pre d f xs) Q X0 σ H=CF P B pre (Ti P B d f xs (Q .norm) X0) σ H:=rfl
@[go_sem] theorem qe (pre : List Cx) (x : X) : NI P B (.vW pre x) Q X0 σ H=CF P B pre (kJ x X0) σ H:=rfl
@[go_sem] theorem nk (d : Option Nat) (f : X) (xs : List X) (F : Env→AA→Prop) : Ti P B d f xs F X0 σ H=M9 P B (val σ f) (DB σ xs) (DP d F σ) X0 H:=rfl
@[go_sem] theorem lz (x : X) : kJ x X0 σ H=(rm (val σ x)∧X0 H):=rfl
end
def Qg (P : Program) (N : Nat) (ops : Array Oper) (vs pm : List Nat) (draw : Bool) : Option (List Cx × Cx) :=
 let pm:=if pm.isEmpty then List.range ops.size else pm
 match Bj P N ops vs pm with
 | some ss =>
  let k:=ops.size - 1
  if draw then
   if Re ops ss pm && P.follows .mixedOrders && decide (0<ops.size) && cls (ss.getD k default).i == 2 &&
    (List.range k).all (fun u=>((WZ ops ops.size 0 []).getD (pm.getD k 0) []).contains (pm.getD u 0)) && (List.range k).all (fun u=>decide (cls (ss.getD u default).i<2)) then some (ss.take k,ss.getD k default) else none
  else if pm=List.range ops.size∧0<ops.size then some (ss.take k,ss.getD k default) else none
 | none=>none
def Gx (P : Program) (N : Nat) (hs : Hints) : XC→Code→Prop
 | .sc s,c=>B6 P N hs c=some s.strip
 | .seq a b,.seq c d=>Gx P N hs a c∧Gx P N hs b d
 | .cond x a b,.cond o c d=>cx o=some x∧Gx P N hs a c∧Gx P N hs b d
 | .block i a,.block j c=>i=j∧Gx P N hs a c
 | .loop _ a,.loop c=>Gx P N hs a c
 | .BA _ a,c=>Gx P N hs a c
 | .RL pre d f xs,.region id ops draw=>Qg P N ops ((hs.lookup id).elim [] (·.2)) ((hs.lookup id).elim [] (·.1)) draw=some (pre,⟨d,none,.call f xs⟩)
 | .vW pre x,.region id ops false=>∃ o y,ops[pre.length]? = some o∧ops.size=pre.length+1∧Bj P N ops ((hs.lookup id).elim [] (·.2)) (List.range pre.length)=some pre∧o.op=.panic y∧o.guard=none∧cx y=some x
 | _,_=>False
def F6 (Q : AQ) (X0 : AA→Prop) (g : Gh) (B : Nat) (w0 : World) (N : Nat) (df : List Deferred) : Exit→Act→World→Prop
 | .panic ch=>fun a w=>Chn ch∧oY g B w0 X0 w∧a.tmps.size=N∧a.defers=df
 | e=>Ih Q g B w0 N df e
section
variable {P : Program} {B : Nat} {Q : AQ} {X0 : AA→Prop}
theorem Ih.toX {g : Gh} {w0 : World} {N : Nat} {df : List Deferred} {e : Exit} {a : Act} {w : World} (h : Ih Q g B w0 N df e a w) : F6 Q X0 g B w0 N df e a w:=by
 cases e <;> first | exact h | exact h.elim
theorem F6.from {g g1 : Gh} {w0 w1 : World} {N : Nat} {df : List Deferred} {e : Exit} {a : Act} {w : World} (hg : g.le g1) (hb : Below B w0 w1) (h : F6 Q X0 g1 B w1 N df e a w) : F6 Q X0 g B w0 N df e a w:=by
 cases e
 case panic ch =>
  obtain ⟨hc,⟨g',H',a1,a2,a3,a4⟩,h2⟩:=h;exact ⟨hc,⟨g',H',hg.trans a1,a2,a3,hb.trans a4⟩,h2⟩
 all_goals first | exact Ih.from (e:=.normal) hg hb h | exact Ih.from (e:=.exit _) hg hb h | exact Ih.from (e:=.ret) hg hb h | exact h
theorem Cm {ops : Array Oper} {R : Exit→Act→World→Prop} : ∀ (l1 l2 : List Nat) (a : Act) (w : World),
  wpOps P ops (fun e a w=>match e with | .normal=>wpOps P ops R l2 a w | e=>R e a w) l1 a w→wpOps P ops R (l1++l2) a w
 | [],l2,a,w,h=>h
 | i::r,l2,a,w,h=>by
  rw [wpOps_cons] at h;rw [List.cons_append,wpOps_cons];unfold wpOp at h ⊢
  have VI : LetsOut (fun e a w=>match e with | .normal=>wpOps P ops R l2 a w | e=>R e a w)→LetsOut R:=fun ⟨a,w,q⟩=>⟨a,w,q⟩
  cases ho : ops[i]? with
  | none=>rw [ho] at h; exact Cm r l2 a w h
  | some o =>
   rw [ho] at h;simp only at h ⊢
   split
   ·rename_i hw
    rw [if_pos hw] at h
    rcases h with h | ⟨h1,h2⟩
    ·refine .inl ?_;unfold Oper.wp at h ⊢
     generalize (execOp a.eval o).run P w=res at h
     cases res with
     | halt hh w' =>
      cases hh <;> exact h
     | ok n w' =>
      cases n <;> try exact Cm r l2 _ _ h
      all_goals try exact h
      ·refine Calls.mono h fun e w'' q=>?_
       cases e with
       | returned v=>exact Cm r l2 _ _ q
       | panicked ch=>exact q
       | outgrown=>exact VI q
      ·exact Rows.mono h fun v w'' q=>Cm r l2 _ _ q
    ·exact .inr ⟨h1,VI h2⟩
   ·rename_i hw
    rw [if_neg hw] at h;exact Cm r l2 _ _ h
end
end Go.AW
namespace Go.AW
open Go.RowKit
section
variable {P : Program} {B N : Nat} {ops : Array Oper} {hs : List Nat} {g : Gh} {H : AA} {w : World}
theorem Yu {o : Oper} {h : Nat} {f : X} {xs : List X} (hc : E0 P h o.op=some (.call f xs)) {σ : Env} {a : Act} (hE : Cc g σ a.tmps) {fid : FuncId} {ca ais : List AV}
  (hf : val σ f=some (.fn (.func fid) ca)) (hx : DB σ xs=some ais) (he : Enters P fid) : ∃ vs,(execOp a.eval o).run P w=.ok (.enter fid vs) w∧Fm g (ais++ca) vs:=by
 cases Km : o.op
 case call c =>
  obtain ⟨callee,args,argTypes⟩:=c;rw [Km] at hc;simp only [E0] at hc
  cases callee with
  | value ff =>
   simp only at hc
   cases h1 : cx ff <;> cases h2 : cF args.toList <;> simp [h1,h2] at hc
   rename_i f' xs'
   split at hc
   ·cases hc
   ·split at hc
    ·cases hc
    ·split at hc
     ·cases hc
     cases hc
     have V2 : (args.toList.map a.eval).toArray=args.map a.eval:=by apply Array.ext'; simp
     have gS:=Ar hE h1 hf
     have jJ:=Jg hE h2 hx;rw [V2] at jJ
     obtain ⟨cv,T1,Sw⟩ : ∃ cv,a.eval ff=.func (.func fid) #[] cv∧Fm g ca cv:=by
      generalize a.eval ff=uf at gS
      cases gS
      rename_i cv IK Im
      exact ⟨cv,rfl,IK,Im⟩
     obtain ⟨fn,k1,k2,k3⟩:=he;refine ⟨args.map a.eval++cv, ?_,jJ.append Sw⟩;unfold execOp;rw [Km];simp only [resolve,T1,Deferred.ofValue,Sem.run_bind,Sem.run_pure,Result.andThen_ok,Go.invoke,Array.empty_append,callFunc,run_program,k1,k2,k3,Bool.false_eq_true,if_false]
  | invoke x n =>
   simp only at hc
   cases h1 : cx x <;> cases h2 : cF args.toList <;> simp [h1,h2] at hc
  | builtin b =>
   cases b <;> simp only at hc <;> first | (cases hc; done) | (repeat' split at hc) <;> simp at hc
 all_goals
  rw [Km] at hc;simp only [E0] at hc
  first | (cases hc; done) | (simp at hc; done) | ((repeat' split at hc) <;> first | (simp at hc; done) | contradiction | (simp_all; done))
theorem Qt {l : List Nat} {σ : Env} : ∀ t,t∈l→(Env.BA l σ).get t=σ.get t:=by
 intro t ht
 induction l with
 | nil=>simp at ht
 | cons x r ih =>
  simp only [Env.BA,Env.get]
  split
  ·rename_i e; rw [e]
  ·rename_i e
   rcases List.mem_cons.1 ht with h | h
   ·exact absurd h e
   ·exact ih h
theorem TP {ov : Option AV} {oas : Option (List AV)} {K : Ap} {X0 : AA→Prop} (h : M9 P B ov oas K X0 H) : ∃ fid ca ais,ov=some (.fn (.func fid) ca)∧oas=some ais∧GF P B fid (ais++ca) H K X0:=by
 unfold M9 at h
 split at h
 ·exact ⟨_,_,_,rfl,rfl,h⟩
 ·exact h.elim
theorem PQ {i : Nat} {d : Option Nat} {f : X} {xs : List X} (Ju : Of P N ops hs i ⟨d,none,.call f xs⟩) {σ : Env} {a : Act} {Q : Exit→Act→World→Prop} {next : Act→World→Prop} {K : Ap} {X0 : AA→Prop}
  (hW : Ao g B H w) (hE : Cc g (Env.BA (looks ⟨d,none,.call f xs⟩) σ) a.tmps) (hk : M9 P B (val σ f) (DB σ xs) K X0 H)
  (Io : ∀ v w',Dj g B w K v w'→next (a.put d v) w') (hpan : ∀ ch w',Chn ch→oY g B w X0 w'→Q (.panic ch) a w') : wpOp P ops Q i next a w:=by
 obtain ⟨o,ho,hd,Km,hg,Zn⟩:=Ju.dst;simp only at hd Km hg
 have Su : o.guard=none:=by
  cases Su : o.guard with
  | none=>rfl
  | some jb =>
   rw [Su] at hg
   obtain ⟨j,b⟩:=jb;simp only [Ei] at hg
   cases hj : (ops[j]?).bind (·.dst) with
   | none=>simp [hj] at hg
   | some t=>simp [hj] at hg
 obtain ⟨fid,ca,ais,e1,e2,hc⟩:=TP hk
 have c1 : val σ f=val (Env.BA (looks ⟨d,none,.call f xs⟩) σ) f:=val_congr fun t ht=>(Qt t (by simp [looks,Gz,ht])).symm
 have c2 : DB σ xs=DB (Env.BA (looks ⟨d,none,.call f xs⟩) σ) xs:=DA fun t ht=>(Qt t (by simp [looks,Gz,ht])).symm
 obtain ⟨vs,r1,r2⟩:=Yu (w:=w) Km hE (c1.symm.trans e1) (c2.symm.trans e2) hc.1;unfold wpOp;simp only [ho,Region.wanted,Su,if_true];refine .inl ?_;unfold Oper.wp;rw [r1,Oper.upon_enter];refine (hc.2 g w vs hW r2).mono fun e w' hh=>?_
 rcases hh with ⟨v,rfl,hf⟩ | ⟨ch,rfl,h1,h2⟩
 ·rw [hd]; exact Io v w' hf
 ·exact hpan ch w' h1 h2
theorem K7 : ∀ {l1 l2 : List Nat} {ss : List Cx},Bj P N ops hs (l1++l2)=some ss→Bj P N ops hs l1=some (ss.take l1.length)∧Bj P N ops hs l2=some (ss.drop l1.length)
 | [],l2,ss,h=>⟨rfl,h⟩
 | i::r,l2,ss,h=>by
  rw [List.cons_append] at h;unfold Bj at h
  cases ho : ops[i]? with
  | none=>simp [ho] at h
  | some o =>
   simp only [ho] at h
   cases RG : EB P N ops (hs.getD i 0) o with
   | none=>simp only [RG,JL,reduceCtorEq] at h
   | some so =>
    cases Sw : Bj P N ops hs (r++l2) with
    | none=>simp only [RG,Sw,JL,reduceCtorEq] at h
    | some sr =>
     simp only [RG,Sw,JL,Option.some.injEq] at h;subst h
     obtain ⟨h1,h2⟩:=K7 Sw;refine ⟨?_,by simpa using h2⟩;unfold Bj;simp only [ho,RG,h1,JL,List.length_cons,List.take_succ_cons]
theorem WO {pre : List Cx} {d : Option Nat} {f : X} {xs : List X} {pm : List Nat} (hc : Qg P N ops hs pm false=some (pre,⟨d,none,.call f xs⟩)) {Q : AQ} {X0 : AA→Prop} {df : List Deferred} {σ : Env} {a : Act}
  (hW : Ao g B H w) (hE : Cc g σ a.tmps) (hN : a.tmps.size=N) (hd : a.defers=df) (hk : CF P B pre (Ti P B d f xs (Q .norm) X0) σ H) (id : Nat) :
  (Code.region id ops false).wp P (F6 Q X0 g B w N df) a w:=by
 simp only [Qg] at hc
 generalize (if pm.isEmpty then List.range ops.size else pm)=pm' at hc
 cases gF : Bj P N ops hs pm' with
 | none=>simp [gF] at hc
 | some ss =>
  simp only [gF,Bool.false_eq_true,if_false] at hc
  split at hc
  ·rename_i hh
   obtain ⟨rfl,h0⟩:=hh;simp only [Option.some.injEq,Prod.mk.injEq] at hc
   obtain ⟨JO,Fi⟩:=hc
   have hr : List.range ops.size=List.range (ops.size - 1)++[ops.size - 1]:=by
    conv=>lhs; rw [show ops.size=ops.size - 1+1 by omega,List.range_succ]
   rw [hr] at gF
   obtain ⟨k1,k2⟩:=K7 gF;rw [List.length_range] at k1 k2;rw [JO] at k1
   have Ju:=(IE gF).2 (ops.size - 1) (by simp);rw [Fi,gE,List.getElem?_append_right (by simp)] at Ju;simp only [List.length_range,Nat.sub_self,List.getElem?_cons_zero,Option.getD_some] at Ju;refine wp_region ?_;rw [hr];refine Cm _ _ _ _ ?_;refine G5 _ _ k1 _ g H w σ a _ hW hE hN hd hk fun a' w' hp=>?_
   obtain ⟨g',σ',H',q1,q2,q3,q4,q5,q6,q7⟩:=hp
   show wpOps P ops (F6 Q X0 g B w N df) [ops.size - 1] a' w'
   rw [wpOps_cons];refine PQ Ju q3 (q4.BA _) q2 (fun v w2 hf=>?_) (fun ch w2 h1 h2=>?_)
   ·obtain ⟨g2,r,H2,a1,a2,a3,a4,a5⟩:=hf
    obtain ⟨o,ho,iU,Km,hg,Zn⟩:=Ju.dst
    have D3 : ∀ t,d=some t→t<a'.tmps.size:=fun t ht=>by
     rw [ht] at Zn;simp only [Ns,Bool.and_eq_true,decide_eq_true_eq] at Zn;rw [q6]; exact Zn.1
    refine ⟨g2,DG d σ' (some r),H2,q1.trans a1,G3 a2,a4, ?_,q5.trans a5,by rw [DM]; exact q6,by rw [put_defers]; exact q7⟩
    cases d with
    | none=>exact q4.mono a1
    | some t=>exact (q4.mono a1).put (D3 t rfl) a3
   ·obtain ⟨g2,H2,a1,a2,a3,a4⟩:=h2;exact ⟨h1,⟨g2,H2,q1.trans a1,a2,a3,q5.trans a4⟩,q6,q7⟩
  ·cases hc
end
end Go.AW
namespace Go.AW
open Go.RowKit
section
variable {P : Program} {B N : Nat} {ops : Array Oper} {hs : List Nat} {n : Nat} {p : Nat→Nat} {s : Nat→Cx} {ex : Nat→Bool} {σ0 : Env}
theorem jU {Q : Exit→Act→World→Prop} {D : Array Bool} {a : Act} {w : World} (hd : D.size=ops.size) (Aj : ∀ i,i<ops.size→Fj D i) (hq : Q .normal a w) : ∀ fuel,wpAny P .any ops Q fuel D a w:=by
 have gR : ∀ i,i ∉ Region.ready .any ops D:=fun i hi=>by
  rw [G6 hd] at hi;exact hi.2.1 (Aj i hi.1)
 intro fuel
 cases fuel with
 | zero =>
  refine ⟨?_,hq⟩
  cases hr : Region.ready .any ops D with
  | nil=>rfl
  | cons i r=>exact absurd (by rw [hr]; simp) (gR i)
 | succ fuel=>exact ⟨fun _=>hq,fun i hi=>absurd hi (gR i)⟩
theorem Qi {pre : List Cx} {d : Option Nat} {f : X} {xs : List X} {k : Nat} (pl : Iu P N ops hs n p s ex) (hk : k+1=n) (Ll : pre.length=k) (Lq : s k=⟨d,none,.call f xs⟩)
  (nR : ∀ u,u<k→∀ D,Down ops D→(∀ e,e∈Cp ops (p k)→Fj D e)→Fj D (p u)) {Q : AQ} {X0 : AA→Prop} {g0 : Gh} {w0 : World} {df : List Deferred} :
  ∀ (fuel : Nat) (D : Array Bool) (σ : Env) (g : Gh) (H : AA) (w : World) (a : Act),D.toList.count false=fuel →
   Inv P B N ops n p s pre (Ti P B d f xs (Q .norm) X0) σ0 D k σ g H w a→g0.le g→Below B w0 w→a.defers=df→wpAny P .any ops (F6 Q X0 g0 B w0 N df) fuel D a w
 | 0,D,σ,g,H,w,a,hc,I,hg,hb,hd=>by
  have:=I.pre k (by omega) (Rm (I.dsz.trans pl.size) hc _ (pl.lt k (by omega)));omega
 | fuel+1,D,σ,g,H,w,a,hc,I,hg,hb,hd=>by
  refine ⟨fun hr=>?_,fun i hi=>?_⟩
  ·have:=I.pre k (by omega) (HG pl I.dsz hr k (by omega));omega
  ·rw [G6 I.dsz] at hi
   obtain ⟨XI,K8,sC⟩:=hi
   obtain ⟨u,hu,rfl⟩:=pl.rG i (by rw [← pl.size]; exact XI)
   have E5:=WT sC
   have VA:=Lx (by rw [I.dsz]; exact XI) K8 hc
   by_cases Zv : u<k
   ·refine Rr pl I hu Zv K8 E5 fun x g' w' e1 e2 e3 e4=>?_;exact Qi pl hk Ll Lq nR fuel _ σ g' H w' _ VA (PN pl I hu Zv K8 E5 x e1 e2 e4) (hg.trans e1) (hb.trans e3) (by rw [put_defers]; exact hd)
   ·have huk : u=k:=by omega
    subst huk
    have Px : Ti P B d f xs (Q .norm) X0 σ H:=by
     have:=I.go;rw [List.drop_eq_nil_of_le (by omega)] at this;exact this
    have hE:=M1 (σu:=σ) pl I hu (Nat.le_refl _) K8 E5 fun t ht=>⟨fun _ _ _=>rfl,fun Ev=>I.same t Ev⟩
    have Ju:=pl.of u hu;rw [Lq] at hE Ju
    have CW : p u<D.size:=by rw [I.dsz]; exact XI
    have Aj : ∀ i,i<ops.size→Fj (D.setIfInBounds (p u) true) i:=fun i hi=>by
     obtain ⟨u',h1,rfl⟩:=pl.rG i (by rw [← pl.size]; exact hi);rw [Dq CW]
     by_cases e : u'=u
     ·rw [e]; exact .inl rfl
     ·exact .inr (nR u' (by omega) D I.down E5)
    refine PQ Ju I.rel hE Px (fun v w' hf=>?_) (fun ch w' h1 h2=>?_)
    ·obtain ⟨g2,r,H2,a1,a2,a3,a4,a5⟩:=hf
     have I1 : Inv P B N ops n p s pre (fun _ _=>True) σ0 D u σ g H w a:=⟨I.dsz,I.down,I.vle,I.pre,I.wr,I.Kn,I.new,I.pend,I.same,by rw [List.drop_eq_nil_of_le (by omega)]; trivial,I.rel,I.size⟩
     have I2:=MM pl I1 hu (by rw [Lq]; rfl) K8 E5 v (some r) a1 a4 (fun r' hr=>by cases hr; exact a3) ⟨fun XA=>by rw [Lq] at XA; simp [keeps] at XA,fun z XA=>by rw [Lq] at XA; simp [mO,keeps] at XA⟩ (by rw [List.drop_eq_nil_of_le (by omega)]; trivial)
     have I3 : Inv P B N ops n p s (List.replicate n default) (fun _ _=>True) σ0 (D.setIfInBounds (p u) true) (u+1) (DG (s u).d σ (some r)) g2 H2 w' (a.put (s u).d v) :=
      ⟨I2.dsz,I2.down,I2.vle,I2.pre,I2.wr,I2.Kn,I2.new,I2.pend,I2.same,by rw [List.drop_eq_nil_of_le (by simp; omega)]; trivial,I2.rel,I2.size⟩
     obtain ⟨-,b2,b3⟩:=Sl pl (by simp) I3 fun i hi=>Aj i (by rw [pl.size]; exact hi);rw [Lq] at b3;refine jU (by simp [I.dsz]) Aj ?_ fuel;exact ⟨g2,DG d σ (some r),H2,hg.trans a1,G3 a2,b2,b3,hb.trans a5,by rw [DM]; exact I.size,by rw [put_defers]; exact hd⟩
    ·obtain ⟨g2,H2,a1,a2,a3,a4⟩:=h2;exact ⟨h1,⟨g2,H2,hg.trans a1,a2,a3,hb.trans a4⟩,I.size,hd⟩
theorem To {pre : List Cx} {d : Option Nat} {f : X} {xs : List X} {pm : List Nat} (hc : Qg P N ops hs pm true=some (pre,⟨d,none,.call f xs⟩)) {Q : AQ} {X0 : AA→Prop} {df : List Deferred} {σ : Env} {a : Act} {g : Gh} {H : AA} {w : World}
  (hW : Ao g B H w) (hE : Cc g σ a.tmps) (hN : a.tmps.size=N) (hd : a.defers=df) (hk : CF P B pre (Ti P B d f xs (Q .norm) X0) σ H) (id : Nat) :
  (Code.region id ops true).wp P (F6 Q X0 g B w N df) a w:=by
 simp only [Qg] at hc
 generalize (if pm.isEmpty then List.range ops.size else pm)=pm' at hc
 cases gF : Bj P N ops hs pm' with
 | none=>simp [gF] at hc
 | some ss =>
  simp only [gF,if_true] at hc
  split at hc
  ·rename_i hh
   simp only [Option.some.injEq,Prod.mk.injEq] at hc
   obtain ⟨rfl,Fi⟩:=hc;simp only [Bool.and_eq_true,decide_eq_true_eq,List.all_eq_true,List.mem_range] at hh
   obtain ⟨⟨⟨⟨⟨Pr,sS⟩,h0⟩,h2⟩,Ma⟩,hlow⟩:=hh
   obtain ⟨pl,hlen⟩:=kN gF Pr;refine wp_region_any sS ?_
   have CH : ∀ u,u<ops.size→pm'.getD u 0<ops.size:=pl.lt
   have hD : ∀ i,i<ops.size→¬ Fj (Array.replicate ops.size false) i:=by
    intro i hi h
    simp [Fj,Array.getD,hi] at h
   have Ko : (ss.take (ops.size - 1)).length=ops.size - 1:=by rw [List.length_take]; omega
   have Hf : ∀ u,u<ops.size→ss[u]? = some (ss.getD u default):=fun u hu=>by
    rw [gE,List.getElem?_eq_getElem (by omega)]; rfl
   have Ll : ∀ u,u<ops.size - 1→(ss.take (ops.size - 1))[u]? = some (ss.getD u default):=fun u hu=>by rw [List.getElem?_take_of_lt hu,Hf u (by omega)]
   have I : Inv P B N ops ops.size (fun u=>pm'.getD u 0) (fun u=>ss.getD u default) (ss.take (ops.size - 1)) (Ti P B d f xs (Q .norm) X0) σ (Array.replicate ops.size false) 0 σ g H { w with drawn:=w.drawn+1 } a :=
    ⟨by simp,fun i hi h=>absurd h (hD i hi),Nat.zero_le _,fun u hu h=>absurd h (hD _ (pl.lt u hu)),fun u hu=>by omega,fun t x hx _=>hE t x hx,fun u hu=>by omega,fun u hu=>by omega,
     fun t _=>rfl,hk,hW.drew,hN⟩
   obtain ⟨v',σ',I',-,hle,T8⟩:=advance pl (ops.size - 1) (by omega) (fun _=>by simpa using h2) Ll _ 0 σ rfl (Nat.zero_le _) I
   have jm : v'=ops.size - 1:=by
    refine Classical.byContradiction fun Bq=>?_
    have h1:=hlow v' (by omega)
    have h2 : cls (ss.getD v' default).i=2:=T8 (by omega);omega
   subst jm;refine Qi pl (by omega) Ko Fi (fun u hu D jr E5=>?_) ops.size _ σ' g H _ a (by simp) I' (.refl g) ((Below.refl B w).drew) hd;exact GN jr ops.size 0 [] rfl (fun k hk=>by omega) (by omega) _ (by rw [Nat.zero_add]; exact CH _ (by omega)) _ (List.contains_iff_mem.mp (Ma u hu)) E5
  ·cases hc
theorem ZX {Hf : Hints} {pre : List Cx} {x : X} {id : Nat} (hf : Gx P N Hf (.vW pre x) (.region id ops false)) {Q : AQ} {X0 : AA→Prop} {df : List Deferred} {σ : Env} {a : Act} {g : Gh} {H : AA} {w : World}
  (hW : Ao g B H w) (hE : Cc g σ a.tmps) (hN : a.tmps.size=N) (hd : a.defers=df) (hk : CF P B pre (kJ x X0) σ H) : (Code.region id ops false).wp P (F6 Q X0 g B w N df) a w:=by
 obtain ⟨o,y,ho,CW,gF,Km,Su,hcx⟩:=hf;refine wp_region ?_;rw [CW,List.range_succ];refine Cm _ _ _ _ ?_;refine G5 _ _ gF _ g H w σ a _ hW hE hN hd hk fun a' w' hp=>?_
 obtain ⟨g',σ',H',q1,⟨q2,q2'⟩,q3,q4,q5,q6,q7⟩:=hp
 show wpOps P ops (F6 Q X0 g B w N df) [pre.length] a' w'
 rw [wpOps_cons];unfold wpOp;simp only [ho,Region.wanted,Su,if_true];refine .inl ?_;unfold rm at q2
 split at q2
 ·rename_i t v hv
  have hr:=Ar q4 hcx hv;unfold Oper.wp execOp;rw [Km]
  obtain ⟨u,hu⟩ : ∃ u,a'.eval y=.iface t u:=by
   generalize a'.eval y=uu at hr
   cases hr; exact ⟨_,rfl⟩
  simp only [hu,Sem.run_bind,run_panic_iface,Result.andThen_halt];exact ⟨⟨t,u,rfl⟩,⟨g',H',q1,q2',q3,q5⟩,q6,q7⟩
 ·exact q2.elim
theorem TL {df : List Deferred} {x y : Code} {A : Env→AA→Prop} {Q : AQ} {X0 : AA→Prop} {g : Gh} {w : World} {a : Act}
  (h1 : x.wp P (F6 (QN A Q) X0 g B w N df) a w)
  (h2 : ∀ g' σ' H' w' a',Ao g' B H' w'→Cc g' σ' a'.tmps→a'.tmps.size=N→a'.defers=df→A σ' H'→y.wp P (F6 Q X0 g' B w' N df) a' w') :
  (Code.seq x y).wp P (F6 Q X0 g B w N df) a w:=by
 refine wp_seq (wp_mono h1 fun e a' w' hp=>?_)
 cases e with
 | normal =>
  obtain ⟨g',σ',H',q1,q2,q3,q4,q5,q6,q7⟩:=hp;exact wp_mono (h2 g' σ' H' w' a' q3 q4 q6 q7 q2) fun e2 a2 w2 Fi=>Fi.from q1 q5
 | exit id=>exact hp
 | ret=>exact hp
 | goto l=>exact hp.elim
 | panic ch=>exact hp
 | outgrown=>exact hp.elim
theorem ZF {hs : Hints} {df : List Deferred} : ∀ (s : XC) (c : Code),Gx P N hs s c →
  ∀ (Q : AQ) (X0 : AA→Prop) (g : Gh) (H : AA) (w : World) (σ : Env) (a : Act),Ao g B H w→Cc g σ a.tmps→a.tmps.size=N→a.defers=df →
   NI P B s Q X0 σ H→c.wp P (F6 Q X0 g B w N df) a w:=by
 intro s
 induction s with
 | sc s =>
  intro c hc Q X0 g H w σ a hW hE hN hd hk;exact wp_mono (HM s c hc Q g H w σ a hW hE hN hd hk) fun e a' w' hp=>hp.toX
 | seq x y ihx ihy =>
  intro c hc Q X0 g H w σ a hW hE hN hd hk
  cases c <;> try exact hc.elim
  obtain ⟨h1,h2⟩:=hc;exact TL (ihx _ h1 _ X0 g H w σ a hW hE hN hd hk) fun g' σ' H' w' a' p1 p2 p3 p4 p5=>ihy _ h2 Q X0 g' H' w' σ' a' p1 p2 p3 p4 p5
 | cond z x y ihx ihy =>
  intro c hc Q X0 g H w σ a hW hE hN hd hk
  cases c <;> try exact hc.elim
  obtain ⟨hz,h1,h2⟩:=hc;simp only [NI] at hk
  cases hv : val σ z with
  | none=>simp [hv,PD] at hk
  | some v =>
   have hr:=Ar hE hz hv;rw [hv] at hk
   cases v <;> try (simp [PD] at hk; done)
   rename_i o _ _ b
   have hb : a.eval o=.bool b:=by
    generalize a.eval o=u at hr
    cases hr; rfl
   simp only [PD,At] at hk;refine wp_cond_split hb (fun ht=>?_) (fun hf=>?_)
   ·exact ihx _ h1 Q X0 g H w σ a hW hE hN hd (hk.1 ht)
   ·exact ihy _ h2 Q X0 g H w σ a hW hE hN hd (hk.2 hf)
 | block id x ih =>
  intro c hc Q X0 g H w σ a hW hE hN hd hk
  cases c <;> try exact hc.elim
  obtain ⟨rfl,h1⟩:=hc;refine wp_block (wp_mono (ih _ h1 _ X0 g H w σ a hW hE hN hd hk) fun e a' w' hp=>?_)
  cases e with
  | normal=>exact hp
  | exit Ca =>
   simp only [Exit.inBlock];simp only [F6,Ih,GP,QR] at hp
   by_cases h : Ca=id
   ·rw [if_pos h]; simp only [h,if_true] at hp; exact hp
   ·rw [if_neg h]; simp only [h,if_false] at hp; exact hp
  | ret=>exact hp
  | goto l=>exact hp.elim
  | panic ch=>exact hp
  | outgrown=>exact hp.elim
 | loop l x ih =>
  intro c hc Q X0 g H w σ a hW hE hN hd hk
  cases c <;> try exact hc.elim
  have h1:=hc
  obtain ⟨I,n,σ0,H0,k1,k2,k3⟩:=hk
  obtain ⟨g0,r1,r2,r3⟩:=k2 g B w a.tmps hW (hE.BA l);refine UH (fun n a' w'=>GP (I n) g B w N df a' w') (n:=n) ⟨g0,σ0,H0,r1,k1,r2,r3,.refl B w,hN,hd⟩ ?_
  intro n a' w' ⟨g',σ',H',q1,q2,q3,q4,q5,q6,q7⟩;refine wp_mono (ih _ h1 _ X0 g' H' w' σ' a' q3 q4 q6 q7 (k3 n σ' H' q2)) fun e a2 w2 hp=>?_
  cases e with
  | normal =>
   obtain ⟨g2,σ2,H2,p1,⟨m,σ3,H3,hm,hI,aC⟩,p3,p4,p5,p6,p7⟩:=hp
   obtain ⟨g3,s1,s2,s3⟩:=aC g2 B w2 a2.tmps p3 (p4.BA l);exact ⟨m,hm,g3,σ3,H3,q1.trans (p1.trans s1),hI,s2,s3,q5.trans p5,p6,p7⟩
  | exit Ca=>exact F6.from (Q:=Q) (X0:=X0) (e:=.exit Ca) q1 q5 hp
  | ret=>exact F6.from (Q:=Q) (X0:=X0) (e:=.ret) q1 q5 hp
  | goto l=>exact hp.elim
  | panic ch=>exact F6.from (Q:=Q) (X0:=X0) (e:=.panic ch) q1 q5 hp
  | outgrown=>exact hp.elim
 | BA l x ih =>
  intro c hc Q X0 g H w σ a hW hE hN hd hk;exact ih c hc Q X0 g H w _ a hW (hE.BA l) hN hd hk
 | RL pre d f xs =>
  intro c hc Q X0 g H w σ a hW hE hN hd hk
  cases c <;> try exact hc.elim
  rename_i id ops draw
  cases draw with
  | true=>exact To hc hW hE hN hd hk id
  | false=>exact WO hc hW hE hN hd hk id
 | vW pre x =>
  intro c hc Q X0 g H w σ a hW hE hN hd hk
  cases c <;> try exact hc.elim
  rename_i id ops draw
  cases draw with
  | true=>exact hc.elim
  | false=>exact ZX hc hW hE hN hd hk
end
end Go.AW
namespace Go.AW
open Go.RowKit
section
variable {P : Program} {B : Nat}
theorem Ut {args : List AV} {g : Gh} {vs : Array Value} {n : Nat} (hv : Fm g args vs) (VB : args.length≤n) : (vs++Array.replicate (n - vs.size) undef).size=n∧Cc g (GS 0 args) (vs++Array.replicate (n - vs.size) undef):=by
 have CW : (vs++Array.replicate (n - vs.size) undef).size=n:=by have:=hv.1; simp; omega
 refine ⟨CW,fun t v ht=>?_⟩
 obtain ⟨h1,h2,h3⟩:=ME args 0 t v ht;simp only [Nat.zero_add,Nat.sub_zero] at h2 h3;refine ⟨by rw [CW]; omega, ?_⟩
 have : (vs++Array.replicate (n - vs.size) undef).getD t undef=vs.getD t undef:=by
  simp only [Array.getD_eq_getD_getElem?];rw [Array.getElem?_append_left (by rw [hv.1]; exact h2)]
 rw [this,h3];exact hv.2 t h2
theorem S6 {fn : Func} {rvs : List RV} (hr : EV P fn.results.toList=some rvs) {K : Ap} {e : ve} {σ : Env} {H : AA} {g g' : Gh} {a : Act} {w w' : World} (hq : QD rvs K e σ H) (hle : g.le g') (hW : Ao g' B H w') (hE : Cc g' σ a.tmps) (gO : Below B w w') :
  ∃ v,(results fn a.tmps).run P w'=.ok v w'∧Dj g B w K v w':=by
 have NT : MF (MV σ H rvs) (Ig K) H:=by cases e <;> first | exact hq | exact hq.elim
 cases NA : MV σ H rvs with
 | none=>simp [NA,MF] at NT
 | some avs =>
  rw [NA] at NT
  obtain ⟨us,p1,p2,p3⟩:=Ro (P:=P) hW hE hr NA
  have Io : (results fn a.tmps).run P w'=.ok (if h : us.toArray.size=1 then us.toArray[0] else .tuple us.toArray) w':=by
   unfold results;rw [Array.mapM_eq_mapM_toList]
   have p1' : ((fn.results.toList.mapM fun r=>(match r with
    | .tmp t=>pure (a.tmps.getD t undef)
    | .cell ad t=>do loadVar t (← asAddr (a.tmps.getD ad undef)) : Sem Value)) : Sem (List Value)).run P w'=.ok us w':=p1
   simp only [Sem.run_bind,Sem.run_map];refine Eq.trans (congrArg (fun r=>Result.andThen (Result.andThen r _) _) p1') ?_
   rfl
  refine ⟨_,Io, ?_⟩
  by_cases Il : avs.length=1
  ·obtain ⟨v,rfl⟩:=List.length_eq_one_iff.1 Il;simp only [MF] at NT
   obtain ⟨H2,V1,IM⟩:=NT
   obtain ⟨u,rfl⟩:=List.length_eq_one_iff.1 (p2.trans rfl);refine ⟨g',v,H2,hle,IM, ?_,hW.sub V1,gO⟩
   simpa using p3 0 (by simp)
  ·have Mb : Ig K (.CK avs) H:=by
    cases avs with
    | nil=>exact NT
    | cons v1 r=>cases r with
     | nil=>exact absurd rfl Il
     | cons v2 r=>exact NT
   obtain ⟨H2,V1,IM⟩:=Mb
   have Bq : ¬ us.toArray.size=1:=by simp; omega
   refine ⟨g',.CK avs,H2,hle,IM, ?_,hW.sub V1,gO⟩;rw [dif_neg Bq];exact .CK avs us.toArray (by simp [p2]) fun i hi=>by simpa using p3 i hi
theorem GF.cN {f : FuncId} {fn : Func} {c : Code} {s : XC} {hs : Hints} {rvs : List RV} (hf : P.funcs[f]? = some fn) (hb : fn.body = some c) (hn : (fn.name == "runtime.NumGoroutine") = false)
  (hc : Gx P fn.ntmps hs s c) (hr : EV P fn.results.toList=some rvs) {args : List AV} (VB : args.length≤fn.ntmps) {H : AA} {K : Ap} {X0 : AA→Prop}
  (hk : UQ args→NI P B s (QD rvs K) X0 (GS 0 args) H) : GF P B f args H K X0:=by
 refine ⟨⟨fn,hf,by simp [hb],hn⟩,fun g w vs hW hv=>?_⟩;refine calls_of_wp hf hb ?_
 have fU : ∀ a,a∈args→a.Eb:=by
  intro a ha
  obtain ⟨i,hi,rfl⟩:=List.getElem_of_mem ha
  have:=hv.2 i hi;rw [show args.getD i nv=args[i] by simp [gE,hi]] at this;exact ⟨g,_,this⟩
 obtain ⟨CW,hE⟩:=Ut hv VB
 have hwp:=ZF (df:=[]) s c hc (QD rvs K) X0 g H w (GS 0 args) { tmps:=vs++Array.replicate (fn.ntmps - vs.size) undef,defers:=[] } hW hE CW rfl (hk (OG fU));refine wp_mono hwp fun e a' w' hp=>?_
 cases e with
 | normal =>
  obtain ⟨g',σ',H',q1,q2,q3,q4,q5,q6,q7⟩:=hp
  obtain ⟨v,r1,r2⟩:=S6 hr (e:=.norm) q2 q1 q3 q4 q5;exact ⟨q7,v,r1,.inl ⟨v,rfl,r2⟩⟩
 | ret =>
  obtain ⟨g',σ',H',q1,q2,q3,q4,q5,q6,q7⟩:=hp
  obtain ⟨v,r1,r2⟩:=S6 hr (e:=.ret) q2 q1 q3 q4 q5;exact ⟨q7,v,r1,.inl ⟨v,rfl,r2⟩⟩
 | exit id =>
  obtain ⟨g',σ',H',q1,q2,_⟩:=hp;exact q2.elim
 | goto l=>exact hp.elim
 | panic ch =>
  obtain ⟨h1,h2,-,h4⟩:=hp;exact ⟨h4,.inr ⟨ch,rfl,h1,h2⟩⟩
 | outgrown=>exact hp.elim
end
end Go.AW
namespace Go.Proofs.Shf
open Go.AW Go.Proofs
theorem VL (p : Value) (w : World) : CallsD Tryz.prog 256 #[p] .returning w fun e u' w'=>e=.returned (.tuple #[])∧u'=.returning∧w'=w:=by
 refine callsD_of_wpS Tryz.func256 rfl fun c₀ cs hu=>?_;apply wpS_seq;apply wpS_region
 simp [wpOpsS,go_sem,recoverD,hu,Tryz.ntmps256,Exit.thenS];refine wpS_cond (t:=false) (by simp [Act.eval,Array.replicate]) ?_;simp only [Bool.false_eq_true,if_false];refine wpS_of_wp (wp_skip ?_)
 cases c₀
 simp_all [bodyPostS,results,Tryz.results256]
theorem Yw {B : Nat} {g : Gh} {H : AA} {w : World} {id : Nat} {p : Value} (hW : Ao g B H w) (hO : H.get id=some (.cells 1 [.bool false] 0)) (hp : Ad g (.ref id 0) p) (t : TypeId) (v : Value) :
  CallsD Tryz.prog 256 #[p] (.panicking [{ v:=.iface t v,recovered:=false }]) w fun e u' w'=>e=.returned (.tuple #[])∧u'=.panicking [{ v:=.iface t v,recovered:=true }] ∧
   ∃ g',g.le g'∧Ao g' B (H.set id (.cells 1 [.bool false] 0)) w'∧Below B w w':=by
 refine callsD_of_wpS Tryz.func256 rfl fun c₀ cs hu=>?_;apply wpS_seq;apply wpS_region
 simp [wpOpsS,go_sem,recoverD,hu,Tryz.ntmps256,Exit.thenS];refine wpS_cond (t:=true) (by simp [Act.eval,Array.replicate]) ?_;simp only [if_true];refine wpS_of_wp ?_;refine wp_mono (HM (B:=B) (N:=3) (hs:=[]) (df:=[]) (.Mi [⟨none,none,.st 1 (.t 0) (.c (.bool false))⟩]) _ (by kernel_rfl) (fun e σ H'=>e=.norm∧H'=H.set id (.cells 1 [.bool false] 0)) g H w [(0,some (.ref id 0))] _ hW ?_ rfl rfl ?_) ?_
 ·intro t' x hx;simp only [Env.get] at hx
  split at hx
  ·rename_i e; subst e; cases hx
   exact ⟨by simp [Array.replicate],by simpa [Array.replicate] using hp⟩
  ·cases hx
 ·simp only [go_sem,hO,↓reduceIte]
  simp [AK,wr,AV.one]
 ·intro e a' w' hq
  cases e with
  | normal =>
   obtain ⟨g',σ',H',q1,⟨-,rfl⟩,q3,q4,q5,q6,q7⟩:=hq;refine ⟨q7,.panicking [{ v:=.iface t v,recovered:=true }], ?_,.tuple #[], ?_,rfl,rfl,g',q1,q3,q5⟩
   ·cases c₀; rfl
   ·simp [results,Tryz.results256]
  | exit id =>
   obtain ⟨g',σ',H',q1,⟨q2,_⟩,_⟩:=hq
   cases q2
  | ret =>
   obtain ⟨g',σ',H',q1,⟨q2,_⟩,_⟩:=hq
   cases q2
  | goto l=>exact hq.elim
  | panic ch=>exact hq.elim
  | outgrown=>exact hq.elim
theorem dH {B : Nat} {f : FuncId} {ca : List AV} {b : Bool} {H0 : AA} {K : Ap} (h : ∀ H,H0.sub H→GF Tryz.prog B f ca H (fun _ H'=>H.sub H'∧b=true) (fun H'=>H.sub H'∧b=false))
  (hk : K (.bool b) H0) : CB B 185 [.fn (.func f) ca] H0 K:=by
 refine ⟨⟨Tryz.f185,Tryz.func185,rfl,by kernel_rfl⟩,fun g w vs hW hv=>?_⟩;refine calls_of_wp_defers Tryz.func185 rfl ?_
 obtain ⟨CW,hE⟩:=Ut (n:=6) hv (by simp)
 change (Code.wp _ _ _ { tmps:=vs++Array.replicate (6 - vs.size) undef,defers:=[] } w)
 generalize vs++Array.replicate (6 - vs.size) undef=tm at CW hE;refine wp_seq ?_;refine wp_mono (HM (B:=B) (N:=6) (hs:=[]) (df:=[]) (.Mi [⟨some 2,none,.lX [.bool false]⟩]) _ (by kernel_rfl) (fun e σ H'=>e=.norm∧∃ id,H0.get id=none∧σ=[(2,some (.ref id 0)),(0,some (.fn (.func f) ca))]∧H'=H0.set id (.cells 1 [.bool false] 0)) g H0 w _ _ hW hE CW rfl ?_) ?_
 ·simp only [go_sem];refine ⟨by simp [AK],fun id hn=>?_⟩;simp only [go_sem];exact ⟨id,hn,rfl,rfl⟩
 intro e a' w' hq
 cases e with
 | normal =>
  obtain ⟨g1,σ',H',q1,⟨-,id,hn,rfl,rfl⟩,q3,q4,q5,q6,q7⟩:=hq;refine wp_seq ?_;refine wp_region ?_
  change wpOps _ _ _ ([0]++[1]) _ _
  refine Cm _ _ _ _ ?_;refine G5 (B:=B) (N:=6) (hs:=[]) (df:=[]) [0] [⟨some 3,none,.rQ (.func 256) [.t 2]⟩] (by kernel_rfl) (fun σ H'=>σ=[(3,some (.fn (.func 256) [.ref id 0])),(2,some (.ref id 0)),(0,some (.fn (.func f) ca))]∧H'=H0.set id (.cells 1 [.bool false] 0)) g1 _ w' _ a' _ q3 q4 q6 q7 ?_ ?_
  ·simp only [go_sem,↓reduceIte]
  intro a2 w2 hq
  obtain ⟨g2,σ',H',r1,⟨rfl,rfl⟩,r3,r4,r5,r6,r7⟩:=hq
  obtain ⟨cv,T1,Sw⟩ : ∃ cv,a2.tmps.getD 3 undef=.func (.func 256) #[] cv∧Fm g2 [.ref id 0] cv:=by
   have:=(r4 3 _ rfl).2
   generalize a2.tmps.getD 3 undef=u at this ⊢
   cases this;exact ⟨_,rfl,by assumption,by assumption⟩
  obtain ⟨pv,rfl,hpv⟩ : ∃ pv,cv=#[pv]∧Ad g2 (.ref id 0) pv:=by
   obtain ⟨l⟩:=cv
   obtain ⟨hs,hv⟩:=Sw
   match l,hs with
   | [x],_=>exact ⟨x,rfl,hv 0 (by simp)⟩
  simp only;rw [wpOps_cons];apply Or.inl
  have Io : (execOp a2.eval { dst := none, op := Op.defer { callee := Callee.value (Operand.tmp 3), args := #[], argTypes := #[] }, type := 0, pos := "l28_sheaves.go:112", after := #[{ on := 0, ground := Ground.data }], guard := none }).run Tryz.prog w2 =
    .ok (.defer ⟨.fn (.func 256) #[pv],#[]⟩) w2:=by
   simp [execOp,resolve,Act.eval,T1,Deferred.ofValue]
  unfold Oper.wp
  erw [Io]
  rw [Oper.upon_defer]
  obtain ⟨tm2,df2⟩:=a2;simp only at r4 r6 r7 T1;subst r7
  change Code.wp _ _ _ { tmps:=tm2,defers:=[⟨.fn (.func 256) #[pv],#[]⟩] } w2
  clear Io T1
  have YL : H0.sub (H0.set id (.cells 1 [.bool false] 0)):=AA.CE _ hn (.refl H0)
  have Qe : ∀ (σ : Env) (H' : AA) (g' : Gh) (tm' : Array Value) (w' : World),g.le g'→Ao g' B H' w'→Cc g' [(2,some (.ref id 0))] tm'→Below B w w'→H'.get id=some (.cells 1 [.bool b] 0)→H0.sub H' →
    ∃ v,(results Tryz.f185 tm').run Tryz.prog w'=.ok v w'∧Dj g B w K v w':=fun σ H' g' tm' w' e1 e2 e3 e4 e5 e6 =>
   S6 (rvs:=[.cell 2 none]) (by kernel_rfl) (e:=.ret) (σ:=[(2,some (.ref id 0))]) (H:=H') (a:={ tmps:=tm',defers:=[] }) (by
    simp only [go_sem,↓reduceIte]
    try rw [show aI none (some (.ref id 0)) H'=some (.bool b) by simp [aI,e5]]
    try rw [e5]
    simp only [go_sem];exact ⟨H0,e6,hk⟩) e1 e2 e3 e4
  have hinv : ∀ w,(invoke (.fn (.func 256) #[pv]) #[]).run Tryz.prog w=.ok (.enter 256 #[pv]) w:=fun w=>by
   simp only [Go.invoke, callFunc, Sem.run_bind, run_program, Result.andThen_ok, Tryz.func256, show Tryz.f256.body.isNone = false from rfl, show (Tryz.f256.name == "runtime.NumGoroutine") = false by kernel_rfl, Bool.false_eq_true, if_false, Sem.run_pure, Array.empty_append]
  refine wp_seq ?_;refine wp_region ?_
  change wpOps _ _ _ ([0]++[1]) _ _
  refine Cm _ _ _ _ ?_;refine G5 (B:=B) (N:=6) (hs:=[]) (df:=[⟨.fn (.func 256) #[pv],#[]⟩]) [0] [⟨some 4,none,.mv (.t 0)⟩] (by kernel_rfl) (fun σ H'=>σ=[(4,some (.fn (.func f) ca)),(0,some (.fn (.func f) ca)),(2,some (.ref id 0))]∧H'=H0.set id (.cells 1 [.bool false] 0)) g2 _ w2 [(0,some (.fn (.func f) ca)),(2,some (.ref id 0))] _ _ r3 ?_ r6 rfl ?_ ?_
  ·exact fun t x hx=>r4 t x (by
    simp only [Env.Hb,get_nil] at hx ⊢
    by_cases e0 : t=0
    ·subst e0; simpa using hx
    ·by_cases e2 : t=2
     ·subst e2; simpa using hx
     ·simp [e0,e2] at hx)
  ·simp only [go_sem,↓reduceIte]
  intro a3 w3 hq
  obtain ⟨g3,σ',H',s1,⟨rfl,rfl⟩,s3,s4,s5,s6,s7⟩:=hq
  simp only;rw [wpOps_cons];refine PQ (B:=B) (N:=6) (hs:=[]) (i:=1) (d:=some 5) (f:=.t 4) (xs:=[]) ⟨_,rfl,by kernel_rfl⟩ s3 (s4.BA _) (K:=fun _ H'=>(H0.set id (.cells 1 [.bool false] 0)).sub H'∧b=true) (X0:=fun H'=>(H0.set id (.cells 1 [.bool false] 0)).sub H'∧b=false) ?_ ?_ ?_
  ·simp only [go_sem,↓reduceIte];exact h _ YL
  ·intro v w4 hf
   obtain ⟨g4,r,H4,u1,⟨u2,hb⟩,u3,u4,u5⟩:=hf;subst hb
   have e4 : Cc g4 [(2,some (.ref id 0))] a3.tmps:=fun t x hx=>(s4.mono u1) t x (by
    simp only [Env.Hb,get_nil] at hx ⊢
    by_cases e2 : t=2
    ·subst e2; simpa using hx
    ·simp [e2] at hx)
   have e5 : Cc g4 [(2,some (.ref id 0))] (a3.put (some 5) v).tmps:=fun t x hx=>by
    have:=(e4.put (d:=5) (a:=r) (v:=v) (by omega) u3) t x (by
     simp only [Env.put,Env.Hb,get_nil] at hx ⊢
     by_cases e2 : t=2
     ·subst e2; simpa using hx
     ·simp [e2] at hx)
    exact this
   change Code.wp _ _ _ (a3.put (some 5) v) w4
   have jB:=u2 id _ (AA.Ep _ _ _);refine wp_seq ?_;refine wp_mono (HM (B:=B) (N:=6) (hs:=[]) (df:=[⟨.fn (.func 256) #[pv],#[]⟩]) (.Mi [⟨none,none,.st 1 (.t 2) (.c (.bool true))⟩]) _ (by kernel_rfl) (fun e σ H'=>e=.norm∧σ=[(2,some (.ref id 0))]∧H'=H4.set id (.cells 1 [.bool true] 0)) g4 H4 w4 [(2,some (.ref id 0))] _ u4 e5 (by rw [DM]; exact s6) (by rw [put_defers]; exact s7) ?_) ?_
   ·simp only [go_sem,jB,↓reduceIte]
    simp [AK,wr,AV.one]
   intro e a5 w5 hq
   cases e with
   | normal =>
    obtain ⟨g5,σ',H',v1,⟨-,rfl,rfl⟩,v3,v4,v5,v6,v7⟩:=hq;refine wp_ret ?_
    change Leaves Tryz.prog Tryz.f185 a5.tmps _ a5.defers .returning w5
    rw [v7];refine leaves_cons (f:=256) (args:=#[pv]) (by simp) (hinv w5) ?_;refine (VL pv w5).mono ?_
    rintro e u' w'' ⟨rfl,rfl,rfl⟩
    obtain ⟨v,k1,k2⟩:=Qe [] _ g5 a5.tmps w'' (q1.trans (r1.trans (s1.trans (u1.trans v1)))) v3 v4 (q5.trans (r5.trans (s5.trans (u5.trans v5)))) (AA.Ep _ _ _) (AA.CE _ hn (YL.trans u2));exact ⟨v,k1,v,rfl,k2⟩
   | exit id =>
    obtain ⟨g',σ',H',q1,⟨q2,_⟩,_⟩:=hq
    cases q2
   | ret =>
    obtain ⟨g',σ',H',q1,⟨q2,_⟩,_⟩:=hq
    cases q2
   | goto l=>exact hq.elim
   | panic ch=>exact hq.elim
   | outgrown=>exact hq.elim
  ·intro ch w4 hc hp
   obtain ⟨g4,H4,u1,⟨u2,hb⟩,u3,u4⟩:=hp
   obtain ⟨t,v,rfl⟩:=hc;subst hb
   change Leaves Tryz.prog Tryz.f185 a3.tmps _ a3.defers (.panicking [{ v:=.iface t v,recovered:=false }]) w4
   rw [s7]
   have jB:=u2 id _ (AA.Ep _ _ _);refine leaves_cons (f:=256) (args:=#[pv]) (by simp) (hinv w4) ?_;refine (Yw u3 jB (hpv.mono (s1.trans u1)) t v).mono ?_
   rintro e u' w'' ⟨rfl,rfl,g5,v1,v2,v3⟩
   have e4 : Cc g5 [(2,some (.ref id 0))] a3.tmps:=fun t x hx=>(s4.mono (u1.trans v1)) t x (by
    simp only [Env.Hb,get_nil] at hx ⊢
    by_cases e2 : t=2
    ·subst e2; simpa using hx
    ·simp [e2] at hx)
   obtain ⟨v,k1,k2⟩:=Qe [] _ g5 a3.tmps w'' (q1.trans (r1.trans (s1.trans (u1.trans v1)))) v2 e4 (q5.trans (r5.trans (s5.trans (u4.trans v3)))) (AA.Ep _ _ _) (AA.CE _ hn (YL.trans u2));exact ⟨v,k1,v,rfl,k2⟩
 | exit id =>
  obtain ⟨g',σ',H',q1,⟨q2,_⟩,_⟩:=hq
  cases q2
 | ret =>
  obtain ⟨g',σ',H',q1,⟨q2,_⟩,_⟩:=hq
  cases q2
 | goto l=>exact hq.elim
 | panic ch=>exact hq.elim
 | outgrown=>exact hq.elim
end Go.Proofs.Shf
namespace Go.Proofs.Shf
open Go.AW Go.Proofs Go.Shf
theorem dR {P : Program} {N : Nat} {hs : Hints} {s : SC} {c : Code} (h : B6 P N hs c=some s.strip) : Gx P N hs (.sc s) c:=h
def bB : XC :=
 .seq (.sc (.Mi [⟨some 8,none,.mv (.c (.int .i64 0))⟩]))
 (.BA [0,1,2,3] (.seq (.sc (.Mi [⟨some 10,none,.mv (.t 0)⟩,⟨some 11,none,.mv (.t 1)⟩,⟨some 12,none,.mv (.t 2)⟩,⟨some 13,none,.mv (.t 3)⟩,⟨some 14,none,.call (.c (.fn (.func 90) [])) [.t 10,.t 11,.t 12,.t 13]⟩,⟨some 9,none,.mv (.t 14)⟩]))
 (.BA [9] (.seq (.seq (.sc (.Mi [⟨some 15,none,.mv (.t 9)⟩,⟨some 16,none,.len (.t 15)⟩,⟨some 17,none,.ar .neq .i64 (.t 16) (.c (.int .i64 1))⟩]))
  (.BA [9,17] (.cond (.t 17) (.vW [⟨some 18,none,.sL [] []⟩,⟨some 19,none,.nS 292 (.t 18)⟩] (.t 19)) (.sc .skip))))
 (.BA [9] (.seq (.sc (.Mi [⟨some 20,none,.mv (.t 9)⟩,⟨some 21,none,.idx 1 (.t 20) (.c (.int .i64 0))⟩,⟨some 22,none,.ld none (.t 21)⟩,⟨some 8,none,.mv (.t 22)⟩])) (.sc .ret)))))))
theorem lC : Gx Tryz.prog Tryz.f187.ntmps [] bB (Tryz.f187.body.getD .skip) :=
 ⟨dR (by kernel_rfl),dR (by kernel_rfl),⟨dR (by kernel_rfl),by kernel_rfl,⟨_,_,rfl,rfl,by kernel_rfl,rfl,rfl,by kernel_rfl⟩,dR (by kernel_rfl)⟩,dR (by kernel_rfl),dR (by kernel_rfl)⟩
theorem dU (B : Nat) (f : SF) (x : Int) (s t : List Int) (hx : 0≤x∧x.toNat<f.A4.length) (hz : ix f.A4 x≤17) (hs : ∀ a,a∈s→0≤a∧a.toNat<f.Aa.length) (he : ∀ a,a∈s→((ix f.Aa a).length : Int)=ix f.A4 x) (H0 : AA) :
  GF Tryz.prog B 187 [.ptr f.cells,.int .i64 x,iL s,iL t] H0 (fun r H'=>(r=.int .i64 (ix (glue f x s t) 0)∧EW f x s t)∧H'=H0) (fun H'=>¬ EW f x s t∧H'=H0):=by
 refine GF.cN (hs:=[]) (s:=bB) (rvs:=[.tmp 8]) Tryz.func187 rfl (by kernel_rfl) lC (by kernel_rfl) (by rw [Tryz.ntmps187]; simp) fun _=>?_;unfold bB;refine tt ?_;refine (ML B f x s t hx hz hs he).go fun _=>tt ?_;apply bk <;> intro h1
 ·refine tt ?_
  have AU:=dd h1;exact fun e=>AU (by simp only [EW] at e; omega)
 ·refine tt ?_
  have AU:=dd h1;refine ⟨by omega, ?_⟩;exact ⟨H0,.refl _,⟨rfl,by simp only [EW]; omega⟩,rfl⟩
theorem oB (B : Nat) (f : SF) (x : Int) (s t : List Int) (hx : 0≤x∧x.toNat<f.A4.length) (hz : ix f.A4 x≤17) (hs : ∀ a,a∈s→0≤a∧a.toNat<f.Aa.length) (he : ∀ a,a∈s→((ix f.Aa a).length : Int)=ix f.A4 x) (hu : EW f x s t) :
  PB B 187 [.ptr f.cells,.int .i64 x,iL s,iL t] (.int .i64 (ix (glue f x s t) 0)) :=
 ⟨fun H0=>((dU B f x s t hx hz hs he H0).mono (fun r H h=>⟨h.1.1,h.2⟩) (fun H h=>h.1 hu)).toH⟩
def c7 : XC :=
 .seq (.sc (.Mi [⟨some 7,none,.ld none (.t 0)⟩,⟨some 8,none,.len (.t 7)⟩,⟨some 9,none,.mv (.c (.int .i64 0))⟩]))
 (.BA [1,2,3,4,7,8,9] (.block 0 (.loop [9,1,2,3,4,7,8] (.seq (.sc (.Mi [⟨some 10,none,.ar .lss .i64 (.t 9) (.t 8)⟩]))
 (.BA [1,2,3,4,7,8,9,10] (.seq (.sc (.cond (.t 10) .skip (.exit 0)))
 (.BA [1,2,3,4,7,8,9] (.seq (.block 1 (.seq (.sc (.Mi [⟨some 11,none,.idx 1 (.t 7) (.t 9)⟩,⟨some 12,none,.ld none (.t 11)⟩,⟨some 6,none,.mv (.t 12)⟩]))
  (.BA [1,2,3,4,6,7,8,9] (.RL [⟨some 13,none,.ld none (.t 1)⟩,⟨some 14,none,.ld none (.t 2)⟩,⟨some 15,none,.ld none (.t 3)⟩,⟨some 16,none,.nI (.t 15)⟩,⟨some 17,none,.nO 0 1 (.t 16)⟩,⟨some 18,none,.ld none (.t 17)⟩,⟨some 19,none,.nI (.t 18)⟩,⟨some 20,none,.nO 7 1 (.t 19)⟩,⟨some 21,none,.ld none (.t 20)⟩,⟨some 22,none,.ld none (.t 2)⟩,⟨some 23,none,.idx 1 (.t 21) (.t 22)⟩,⟨some 24,none,.ld none (.t 23)⟩,⟨some 25,none,.ld none (.t 4)⟩,⟨some 26,none,.idx 1 (.t 24) (.t 25)⟩,⟨some 27,none,.ld none (.t 26)⟩,⟨some 28,none,.mv (.t 6)⟩] (some 29) (.c (.fn (.func 187) [])) [.t 13,.t 14,.t 27,.t 28]))))
 (.BA [1,2,3,4,7,8,9] (.sc (.Mi [⟨some 30,none,.ar .add .i64 (.t 9) (.c (.int .i64 1))⟩,⟨some 9,none,.mv (.t 30)⟩])))))))))))
def zB : Hints:=[(3,[0,1,2,3,4,5,6,7,8,9,10,11,12,13,14,15,16],[0,0,0,0,0,0,0,0,0,0,0,0,0,0,0,0,0])]
theorem fcx {P : Program} {N : Nat} {hs : Hints} {pre : List Cx} {d : Option Nat} {f : X} {xs : List X} {id : Nat} {ops : Array Oper} {dr : Bool} (h : Qg P N ops ((hs.lookup id).elim [] (·.2)) ((hs.lookup id).elim [] (·.1)) dr=some (pre,⟨d,none,.call f xs⟩)) : Gx P N hs (.RL pre d f xs) (.region id ops dr):=h
theorem jP : Gx Tryz.prog Tryz.f186.ntmps zB c7 (Tryz.f186.body.getD .skip) :=
 ⟨dR (by kernel_rfl),rfl,dR (by kernel_rfl),dR (by kernel_rfl),⟨rfl,dR (by kernel_rfl),fcx (by kernel_rfl)⟩,dR (by kernel_rfl)⟩
end Go.Proofs.Shf
