/- A part of a proof. -/
import Derived.Test.YthflgdphhajkbaaGreatT10
import Derived.Deep.Slices
import Derived.SizedLaws
set_option linter.unusedVariables false
set_option linter.unusedSimpArgs false
set_option linter.unusedSectionVars false
open Nat (reduceEqDiff reduceAdd reduceMul reduceLeDiff reduceLT)
namespace Go.Shf
open Go.AW Go.Proofs.Shf
open Classical in
noncomputable def F5 (j : Dw) (m : SM) : Int:=if j.Form∧m.Is then (if Dj j m.src=0 then (if BL m.CA (Aq j.shape j.AP) then 0 else 4) else Dj j m.src) else 1
noncomputable def Kf (m : SM) (V : List (List Int)) : SM:=⟨AS (AS m.src V) V,m.CA,Cm (AS m.src V) m.CA V (Cm m.src m.CA V m.parts)⟩
def Qv (j : Dw) (m : SM) : Prop:=(j.Form∧m.Is)∧Dj j m.src=0∧BL m.CA (Aq j.shape j.AP)
open Classical in
noncomputable def KV (j : Dw) (m : SM) : SM:=if Qv j m then Kf m (Aq j.shape j.AP) else nK
open Classical in
noncomputable def KL (j : Dw) (m : SM) : List AV:=if Qv j m then SM.cells (Kf m (Aq j.shape j.AP)) else QL
end Go.Shf
namespace Go.Proofs.Shf
open Go.AW Go.Proofs Go.Shf
theorem M8 (B : Nat) (j : Dw) (m : SM) : PB B 53 [.agg j.cells,.agg m.cells] (.CG [.agg (KL j m),.int .i64 (F5 j m)]):=by
 refine ⟨fun H0=>c53p.go fun Gi=>tt ?_⟩;refine nb (.nil _) fun BJ H o=>tt ?_;refine (FN B j).go fun _=>?_
 by_cases hF : j.Form
 rotate_left
 ·have e1 : F5 j m=1:=by rw [F5,if_neg (fun e=>hF e.1)]
  have e2 : KL j m=QL:=by rw [KL,if_neg (fun e=>hF e.1.1)]
  rw [Aa hF,e1,e2,QL];refine tn ?_
  refine sw o fun H o=>tt ?_
  have hr:=o.rc 15 0 (by simp);simp only [List.drop_zero] at hr;rw [hr];exact A6 rfl o.sub
 rw [Aw hF];refine tn ?_
 refine (Ur B m).go fun _=>?_
 by_cases hm : m.Is
 rotate_left
 ·have e1 : F5 j m=1:=by rw [F5,if_neg (fun e=>hm e.2)]
  have e2 : KL j m=QL:=by rw [KL,if_neg (fun e=>hm e.1.2)]
  rw [Aa hm,e1,e2,QL];refine tn ?_
  refine sw o fun H o=>tt ?_
  have hr:=o.rc 15 0 (by simp);simp only [List.drop_zero] at hr;rw [hr];exact A6 rfl o.sub
 rw [Aw hm];refine tn ?_
 refine (RG B j m.src).go fun _=>?_
 by_cases hz : Dj j m.src=0
 rotate_left
 ·have e1 : F5 j m=Dj j m.src:=by rw [F5,if_pos ⟨hF,hm⟩,if_neg hz]
  have e2 : KL j m=QL:=by rw [KL,if_neg (fun e=>hz e.2.1)]
  rw [e1,e2,QL]
  obtain ⟨a1,a2,a3,a4,a5,a6,a7,a8,hA,h1⟩:=mT j m.src
  obtain ⟨b1,b2,b3,b4,b5,b6,b7,b8,hB,h2⟩:=nH j m.src;rw [hA,hB]
  generalize Dj j m.src=cd at *;refine tt ?_;refine nb o fun F4 H o=>tt ?_;refine nb o fun Cq H o=>tt ?_;refine Ap o.swap (by simp) (by (try simp only [go_sem]); (try simp)) h1 fun H o=>?_;have o:=s2 o;refine tt ?_;refine Ap o.swap (by simp) (by (try simp only [go_sem]); (try simp)) h2 fun H o=>?_;have o:=s2 o;refine tt ?_;refine ⟨fun _=>At.mk ?_,fun e=>absurd (by simpa using e) hz⟩;refine tt ?_;refine sw o.tl.tl fun H o=>tt ?_
  have hr:=o.rc 15 0 (by simp);simp only [List.drop_zero] at hr;rw [hr];exact A6 rfl o.sub
 obtain ⟨gJ,Bc⟩:=U7 hz
 obtain ⟨-,hf,FL,Ev⟩:=FM gJ
 have hA : NL j m.src=Cx m.src (Aq j.shape j.AP):=by rw [NL,if_pos ⟨gJ,Bc⟩]
 have hB : NF j m.src=Cx (AS m.src (Aq j.shape j.AP)) (Aq j.shape j.AP):=by rw [NF,if_pos ⟨gJ,Bc⟩]
 have hl:=H9 B j;rw [← FL] at Ev;rw [hz,hA,hB]
 have eC0 : ∀ h : BL m.CA (Aq j.shape j.AP),F5 j m=0:=fun h=>by rw [F5,if_pos ⟨hF,hm⟩,if_pos hz,if_pos h]
 have eC4 : ∀ h : ¬ BL m.CA (Aq j.shape j.AP),F5 j m=4:=fun h=>by rw [F5,if_pos ⟨hF,hm⟩,if_pos hz,if_neg h]
 have eA : ∀ h : BL m.CA (Aq j.shape j.AP),KL j m=SM.cells (Kf m (Aq j.shape j.AP)):=fun h=>by rw [KL,if_pos ⟨⟨hF,hm⟩,hz,h⟩]
 have eN : ∀ h : ¬ BL m.CA (Aq j.shape j.AP),KL j m=QL:=fun h=>by rw [KL,if_neg (fun e=>h e.2.2)]
 generalize hV : Aq j.shape j.AP=V at *
 have heq:=hm.eq
 have K6:=Ev
 have JQ:=Ev;rw [FL] at K6;rw [FL,heq] at JQ
 have qs:=Uy B m.CA hm.t.1 V JQ;refine tt ?_;refine nb o fun F4 H o=>tt ?_;refine nb o fun Cq H o=>tt ?_;refine sw o.swap fun H o=>tt ?_;refine sw o.swap fun H o=>tt ?_;refine ⟨fun e=>(by simp at e),fun _=>At.mk ?_⟩;refine tt ?_;refine hl.go fun _=>tt ?_;refine qs.go fun _=>?_
 by_cases hS : BL m.CA V
 rotate_left
 ·rw [Aa hS,eC4 hS,eN hS,QL];refine tn ?_
  refine sw o.tl.tl fun H o=>tt ?_
  have hr:=o.rc 15 0 (by simp);simp only [List.drop_zero] at hr;rw [hr];exact A6 rfl o.sub
 have q1:=P8 B m.src m.CA hm.s.1 hm.t.1 hm.t.Ei heq m.parts hm.WL V K6 Bc.1 hS
 have q2:=P8 B (AS m.src V) m.CA (CX hm.s.1 K6 Bc.1) hm.t.1 hm.t.Ei heq _ (ED hm.s.1 hm.t.1 hm.t.Ei heq hm.WL K6 hS) V K6 Bc.2 hS
 have q3:=Ga B (AS (AS m.src V) V) m.CA (Cm (AS m.src V) m.CA V (Cm m.src m.CA V m.parts));rw [Aw hS,eC0 hS,eA hS]
 generalize hP1 : Cm m.src m.CA V m.parts=P1 at *
 generalize hP2 : Cm (AS m.src V) m.CA V P1=P2 at *;refine tn ?_
 refine Ac o.tl (by simp) (tt ?_);refine q1.go fun _=>tt ?_;refine Ac o (by simp) (tt ?_);refine Ac o (by simp) (tt ?_);refine ⟨_,q2.run, ?_⟩;refine ⟨_,q3.run,tt ?_⟩;refine sw o.tl.tl fun H o=>tt ?_
 have hr:=o.rc 15 0 (by simp);simp only [List.drop_zero] at hr;rw [hr];exact A6 (by rw [Kf,hP1,hP2]; rfl) o.sub
theorem Ij (B : Nat) (j : Dw) (m : SM) : Gk Tryz.prog B 51 [.agg j.cells,.agg m.cells] fun p X=>mw lJ (F5 j m) p X (KV j m):=by
 refine ⟨fun H0=>c51.go fun _=>?_⟩
 have iE:=fun H=>T1 B j m H;refine tt ?_;refine nb (.nil _) fun id H o=>tt ?_;refine (iE H).mono ?_
 rintro r H ⟨rfl,X,rfl,hX⟩
 have nope : ¬ Qv j m→KV j m=nK:=fun h=>by rw [KV,if_neg h]
 by_cases h0 : MQ j m=0
 ·obtain ⟨cnt,rfl⟩:=hX h0
  have tN : j.Form∧m.Is:=by
   apply Classical.byContradiction; intro e;rw [MQ,if_neg e] at h0; cases h0
  obtain ⟨hF,hm⟩:=tN
  have c1 : codeF j m.src=0:=by rw [← Vp hF hm]; exact h0
  have c2 : codeF j m.CA=0:=by rw [Zq hm]; exact c1
  have p1:=eI B j m.src cnt c1
  have p2:=XI B j m.CA cnt c2
  obtain ⟨-,-,FL,K6⟩:=FM c1
  obtain ⟨-,-,jj,JQ⟩:=FM c2;rw [← FL] at K6;rw [← jj] at JQ;rw [h0]
  have e1:=fun h=>pS c1 h
  have e1n:=fun h=>pR c1 h
  generalize rO : (BS j).cells cnt=cv at *
  generalize hV : Aq j.shape j.AP=V at *;rw [FL] at K6;rw [jj] at JQ;refine tt ?_;refine ⟨fun e=>(by simp at e),fun _=>At.mk ?_⟩;refine tt ?_;refine p1.go fun _=>?_
  by_cases f1 : CQ m.src V
  rotate_left
  ·have e1:=e1n f1
   have hM:=nope fun e=>by rw [e.2.1] at e1; cases e1
   have hC : F5 j m=3:=by rw [F5,if_pos ⟨hF,hm⟩,if_neg (by rw [e1]; decide),e1]
   rw [Aa f1,hM,hC];refine tn ?_
   refine sw o fun H o=>tt ?_
   have hr:=o.rc 15 0 (by simp);simp only [List.drop_zero] at hr;rw [hr];exact ⟨H,.refl H,[],⟨_,rfl,LO⟩,o.tl⟩
  replace e1:=e1 f1
  by_cases f2 : BL m.CA V
  rotate_left
  ·have hM:=nope fun e=>f2 (by have:=e.2.2; rw [hV] at this; exact this)
   have hC : F5 j m=4:=by rw [F5,if_pos ⟨hF,hm⟩,if_pos e1,hV,if_neg f2]
   rw [Aw f1,hM,hC,LM,if_pos f1];refine tn ?_
   refine p2.go fun _=>?_;rw [Aa f2];refine tn ?_
   refine sw o fun H o=>tt ?_
   have hr:=o.rc 15 0 (by simp);simp only [List.drop_zero] at hr;rw [hr];exact ⟨H,.refl H,[],⟨_,rfl,LO⟩,o.tl⟩
  have hM : KV j m=Kf m V:=by rw [KV,if_pos ⟨⟨hF,hm⟩,e1,by rw [hV]; exact f2⟩,hV]
  have hC : F5 j m=0:=by rw [F5,if_pos ⟨hF,hm⟩,if_pos e1,hV,if_pos f2]
  have heq:=hm.eq
  have q1:=Mm B m.src m.CA hm.s.1 hm.t.1 hm.t.Ei heq m.parts hm.WL V K6 f1.1 f2
  have q2:=Mm B (AS m.src V) m.CA (CX hm.s.1 K6 f1.1) hm.t.1 hm.t.Ei heq _ (ED hm.s.1 hm.t.1 hm.t.Ei heq hm.WL K6 f2) V K6 f1.2 f2
  have Hk:=PI B (AS (AS m.src V) V) m.CA (Cm (AS m.src V) m.CA V (Cm m.src m.CA V m.parts));rw [Aw f1,hM,hC,LM,if_pos f1];rw [Kf]
  generalize Cm m.src m.CA V m.parts=P1 at *
  generalize Cm (AS m.src V) m.CA V P1=P2 at *;refine tn ?_
  refine p2.go fun _=>?_;rw [Aw f2];refine tn ?_
  refine ⟨_,q1.run, ?_⟩;refine ⟨_,q2.run,tt ?_⟩;refine Hk.go o fun Y p H q o _=>?_
  obtain ⟨Ys,rfl,hl,h1⟩:=lJ.YS q;refine tt ?_
  have o:=AA.last o;refine Ap o (by simp) hl h1 fun H o=>?_
  obtain ⟨y1,y2,y3,y4,y5,y6,y7,y8,y9,y10,y11,y12,y13,y14,y15,rfl⟩:=nI hl;have o:=s2 o;refine tt ?_
  have hr:=o.rc 15 0 (by simp);simp only [List.drop_zero] at hr;rw [hr];exact ⟨H,.refl H,p,⟨_,rfl,q⟩,o.tl⟩
 ·have hC : F5 j m=MQ j m:=by
   by_cases tN : j.Form∧m.Is
   ·have e0:=Vp tN.1 tN.2;rw [e0] at h0 ⊢
    have e1 : Dj j m.src=codeF j m.src:=by rw [Dj,if_neg h0]
    rw [F5,if_pos tN,if_neg (by rw [e1]; exact h0),e1]
   ·rw [F5,if_neg tN,MQ,if_neg tN]
  have hM:=nope fun e=>by
   have e2:=U7 e.2.1;rw [← Vp e.1.1 e.1.2] at e2;exact h0 e2.1
  rw [hM,hC];refine tt ?_;refine ⟨fun _=>At.mk ?_,fun e=>?_⟩;rotate_left
  ·exact absurd (by simpa using e) h0
  refine tt ?_;refine sw o fun H o=>tt ?_
  have hr:=o.rc 15 0 (by simp);simp only [List.drop_zero] at hr;rw [hr];exact ⟨H,.refl H,[],⟨_,rfl,LO⟩,o.tl⟩
theorem NG (B : Nat) (j : Dw) (m : SM) : PB B 53 [.agg j.cells,.agg m.cells] (.CG [.agg (SM.cells (KV j m)),.int .i64 (F5 j m)]):=by
 refine (M8 B j m).yB fun g v hv=>?_
 by_cases h : Qv j m
 ·have e1 : KL j m=SM.cells (KV j m):=by rw [KL,KV,if_pos h,if_pos h]
  rw [e1] at hv;exact hv
 ·have e1 : KL j m=QL:=by rw [KL,if_neg h]
  have e2 : KV j m=nK:=by rw [KV,if_neg h]
  rw [e1] at hv;rw [e2];exact YI.code fb g v hv
theorem Jo (B : Nat) (j : Dw) (m : SM) : PB B 51 [.agg j.cells,.agg m.cells] (.CG [.agg (SM.cells (KV j m)),.int .i64 (F5 j m)]):=Gk.pur (f:=fun k : SM=>.CG [.agg k.cells,.int .i64 (F5 j m)]) (yY.ib _) (Ij B j m)
theorem cA {j : Dw} {f : SF} (hz : Dj j f=0) : LH j f=⟨f,AS (AS f (Aq j.shape j.AP)) (Aq j.shape j.AP),SO f (Aq j.shape j.AP)⟩:=by
 rw [LH,if_pos (U7 hz)]; rfl
end Go.Proofs.Shf
namespace Go.AW
@[go_sem] def ZW (q : Int × Int) : AV:=.agg [iI q.1,iI q.2]
instance : ON 2 ZW:=⟨by omega,fun _=>rfl,fun _=>rfl,fun a c hc=>by
 simp only [ZW,AV.cells,List.mem_cons,List.not_mem_nil,or_false] at hc
 rcases hc with rfl | rfl <;> rfl⟩
end Go.AW
namespace Go.Proofs.Shf
open Go.AW Go.Proofs Go.Shf
@[go_sem] def Lw (f g : SF) (X fv : AV) : AF:=.cells 5 [.ptr f.cells,.ptr g.cells,.bool false,X,fv] 0
theorem qP (B : Nat) {f g : SF} {x e d : Int} (w : TL f g x e d) {p : List (List Int)} (hP : PT f g p) {DM Kq Ko : Nat} {fv X : AV} {q l : Ob} {H0 H : AB} (hX : N0 q X p)
  (o : AA H0 H ((DM,Lw f g X fv)::(Kq,.cells 1 [.buf Ko 0] 0)::(Ko,.cells 2 [] 0)::(q++l))) :
  CB B 301 [.ref DM 0,iI x,iI e,iI d,.ref Kq 0] H fun r H'=>∃ (ok : Bool) (k : Nat) (p' : List (List Int)) (N : List (Int × Int)) (q' : Ob) (idB' : Nat),r=.bool ok∧N0 q' X p' ∧
   AA H0 H' ((DM,Lw f g X fv)::(Kq,.cells 1 [.buf idB' N.length] 0)::(idB',.cells 2 (flat (N.map ZW)) 0)::(q'++l))∧E7 f g p x e d k p' N∧k≤(outs f.shape x).length ∧
   (ok=true→k=(outs f.shape x).length)∧(ok=false→∀ t,HR f g p t→ix (ix t x) e≠d):=by
 refine dz.go fun _=>?_
 have hm:=w.hf.1.is.1.m
 have F3:=w.hf.1.is.1.o
 have IQ:=w.hf.1.is.1.HN
 have TM : (outs f.shape x).length≤40:=by
  rw [outs,List.length_map];refine Nat.le_trans (List.length_filter_le _ _) ?_;rw [List.length_range]; omega
 have s8 : g.AU.length=f.shape.AJ.length:=by have:=w.hg.1.al; rw [← w.sh] at this; exact this
 refine tt ?_;refine AK o (by simp) (tt ?_);refine (GY B f.shape x).go fun _=>tt ?_
 refine AD [0,2,3,4,11,25,26] (G:=List (List Int) × List (Int × Int) × Ob × Nat) (fun k _=>[(27,some (.int .i64 (k : Int)))])
  (fun k G H=>N0 G.2.2.1 X G.1∧E7 f g p x e d k G.1 G.2.1∧AA H0 H ((DM,Lw f g X fv)::(Kq,AF.cells 1 [.buf G.2.2.2 G.2.1.length] 0)::(G.2.2.2,AF.cells 2 (flat (G.2.1.map ZW)) 0)::(G.2.2.1++l))) (outs f.shape x).length (p,[],q,Ko) ⟨hX,.zero f g p x e d,o⟩ rfl ?_
 clear o hX
 rintro k ⟨p',N,q,Ko⟩ H hk ⟨hX,hS,o⟩;dsimp only at hX hS o;refine tt ?_;apply bk <;> intro h1
 ·have AR:=A7 h1
  have w1:=ws k
  obtain ⟨a,ea⟩ : ∃ a,(outs f.shape x).getD k default=a:=⟨_,rfl⟩
  have hA:=w.arr (b:=a) (AE.mpr ⟨k,AR,ea⟩)
  have Eo:=hP.ew w.hf.1 hA.2.2.1 hA.2.2.2.1
  have TF:=w.hf.1.Nq hA.1 (e:=e) (by rw [hA.2.1]; exact w.he)
  have gX:=w.hg.1.Nq (a:=a) (e:=d) (by rw [← w.sh]; exact hA.1) (by rw [← w.sh,hA.2.1]; exact w.hd)
  have Np:=w.hf.1.al
  have Io : (ix f.shape.to a).toNat<p'.length:=by rw [hS.len]; exact Eo.1.2
  have Er : (ix (ix f.AU a) e).toNat<(p'.getD (ix f.shape.to a).toNat default).length:=by rw [hS.row]; exact Eo.2.2
  have o1 : AA H0 H (q++((DM,Lw f g X fv)::(Kq,.cells 1 [.buf Ko N.length] 0)::(Ko,.cells 2 (flat (N.map ZW)) 0)::l)):=o.pm
  obtain ⟨FK,Xs,Jl,rfl,IV,TO,Vf,n9,Hk⟩:=Ou hX o1 Io Er
  have M0 : H.get DM=some (Lw f g (.buf FK Xs.length) fv):=o.h0;refine tt ?_;refine ⟨AR, ?_⟩;rw [ea];refine tt ?_;refine ⟨⟨hA.1.1,by omega⟩, ?_⟩;refine Af M0 (by simp) (tt ?_);refine ⟨⟨hA.1.1,by omega⟩,TF,Af M0 (by simp) ?_⟩;refine tt ?_;refine ⟨⟨hA.1.1,by omega⟩,gX, ?_⟩;refine Af M0 (by simp) (tt ?_);refine ⟨⟨hA.2.2.1.1,by omega⟩,Af TO (by omega) ?_⟩;rw [Vf];refine tt ?_;refine ⟨⟨hA.2.2.2.1.1,Er⟩,Bo (f:=iI) n9 Er ?_⟩
  have eV : (p'.getD (ix f.shape.to a).toNat default).getD (ix (ix f.AU a) e).toNat default=ix (ix p' (ix f.shape.to a)) (ix (ix f.AU a) e):=rfl;rw [eV];refine tt ?_;apply bk <;> intro h2
  ·have Ah : 0≤ix (ix p' (ix f.shape.to a)) (ix (ix f.AU a) e):=A7 h2;refine tt ?_;refine Af M0 (by simp) (tt ?_);refine ⟨⟨hA.2.2.1.1,by omega⟩,Af TO (by omega) ?_⟩;rw [Vf];refine tt ?_;refine ⟨⟨hA.2.2.2.1.1,Er⟩,Bo (f:=iI) n9 Er ?_⟩;rw [eV];refine tt ?_;apply bk <;> intro h3
   ·have B8:=dd h3;refine tt ?_;exact ⟨H,.refl H,false,k,p',N,q,Ko,rfl,hX,o,hS,hk,(fun h=>by cases h),fun _ t ht=>hS.bad w AR ea Ah B8 t ht⟩
   ·have B8:=dd h3;refine tw w1 ?_;exact A5 (p',N,q,Ko) (by omega) ⟨hX,hS.same AR ea B8,o⟩ rfl
  ·have Ah : ¬ 0≤ix (ix p' (ix f.shape.to a)) (ix (ix f.AU a) e):=A9 h2
   have hNl:=hS.nl
   have Na:=hS.fresh w hP AR ea Ah;refine tt ?_;refine Af M0 (by simp) (tt ?_);refine Af M0 (by simp) (tt ?_);refine ⟨⟨hA.2.2.1.1,by omega⟩,Af TO (by omega) ?_⟩;rw [Vf];refine tt ?_;refine ⟨⟨hA.2.2.2.1.1,Er⟩, ?_⟩;refine Hk _ _ fun q' H HJ o=>tt ?_
   have o : AA H0 H ((Ko,.cells 2 (flat (N.map ZW)) 0)::(Kq,.cells 1 [.buf Ko N.length] 0)::(DM,Lw f g (.buf FK Xs.length) fv)::(q'++l)):=o.pm
   have vj : H.get Kq=some (.cells 1 [.buf Ko N.length] 0):=o.tl.h0;refine Af vj (by simp) (tt ?_);refine J1 (f:=ZW) (ix f.shape.to a,ix (ix f.AU a) e) o rfl rfl (by simp only [AL]; omega) fun Ko H o=>tt ?_;refine sw o.swap fun H o=>?_;refine tw w1 ?_;exact A5 (_,N++[(ix f.shape.to a,ix (ix f.AU a) e)],q',Ko) (by omega) ⟨HJ,Na,(by simp only [Lw,SF.cells] at o ⊢; exact o.pm)⟩ rfl
 ·have AR:=A9 h1
  obtain rfl : k=(outs f.shape x).length:=by omega
  refine tt ?_;exact ⟨H,.refl H,true,_,p',N,q,Ko,rfl,hX,o,hS,Nat.le_refl _,fun _=>rfl,fun h=>by cases h⟩
theorem U3 {p : List Int} (h : indexOf p (-1)<0) {i : Int} (hi : 0≤i∧i.toNat<p.length) : ix p i≠-1:=fun e=>by
 have:=(ET p (-1)).mpr (by rw [← e]; exact Bh hi.2);omega
def OK (B : Nat) (f g : SF) (F : FuncId) (ca : List AV) (Fs Es : List (List (List Int))→Ob→Prop) : Prop :=
 ∀ (p : List (List Int)) (A : List (List (List Int))) (X : AV) (q w l : Ob) (H0 H : AB),PT f g p→N0 q X p→Fs A w→AA H0 H (q++(w++l)) →
  CB B F ([X]++ca) H fun r H'=>∃ (b : Bool) (w' : Ob),r=.bool b∧(b=true→Fs (A++[p]) w')∧(b=false→Es (A++[p]) w')∧AA H0 H' (q++(w'++l))
theorem kY (B : Nat) {f g : SF} (hf : f.Is) (hg : g.Is) (sh : f.shape=g.shape) {F : FuncId} {ca : List AV} {Fs Es : List (List (List Int))→Ob→Prop} (hF : OK B f g F ca Fs Es) (DM : Nat) (X : AV) :
  ∀ (n : Nat) (p : List (List Int)),Iv f p=n→PT f g p→∀ (A : List (List (List Int))) (q w l : Ob) (H0 H : AB),N0 q X p→Fs A w→AA H0 H ((DM,Lw f g X (.fn (.func F) ca))::(q++(w++l))) →
   CB B 268 [.ref DM 0] H fun r H'=>∃ (b : Bool) (q' w' : Ob) (M : List (List (List Int))),r=.bool b∧N0 q' X p∧AA H0 H' ((DM,Lw f g X (.fn (.func F) ca))::(q'++(w'++l)))∧M <+: Cz f g p ∧
    (b=true→Fs (A++M) w'∧M=Cz f g p)∧(b=false→Es (A++M) w'):=by
 intro n
 induction n using Nat.strongRecOn with
 | _ n ih =>
 intro p hn hP A q w l H0 H hX TC o;refine xV.go fun _=>?_
 have hm:=hf.1.is.1.m
 have F3:=hf.1.is.1.o
 have Fg:=hf.1.sl
 have Kn:=hP.len
 have Ps : ∀ x,x<f.A4.length→0≤f.A4.getD x default∧f.A4.getD x default<17:=fun x hx=>hf.1.sz _ (AE.mpr ⟨x,hx,rfl⟩)
 have mq:=hX.xa;refine tt ?_;refine AK o (by simp) ?_;refine tw mq ?_
 refine AD [0,15] (G:=Unit) (fun k _=>[(16,some (.int .i64 (k : Int)))])
  (fun k _ H=>(∀ y : Nat,y<k→indexOf (p.getD y default) (-1)<0)∧AA H0 H ((DM,Lw f g X (.fn (.func F) ca))::(q++(w++l)))) p.length () ⟨by simp,o⟩ rfl ?_
 clear o
 rintro k _ H hk ⟨ES,o⟩
 have M0 : H.get DM=some (Lw f g X (.fn (.func F) ca)):=o.h0;refine tt ?_;apply bk <;> intro h1
 rotate_left 1
 ·have AR:=A9 h1
  obtain rfl : k=p.length:=by omega
  refine tt ?_;refine Af M0 (by simp) (tt ?_);refine Af M0 (by simp) (tt ?_)
  have o2 : AA H0 H (q++(w++((DM,Lw f g X (.fn (.func F) ca))::l))):=o.pm;refine (hF p A X q w _ H0 H hP hX TC o2).mono ?_
  rintro r H' ⟨b,w',rfl,hFs',hEs',o⟩;refine tt ?_
  have N6:=KO hf hP fun y i hy hi=>U3 (ES y.toNat (by omega)) (hP.ew hf.1 hy hi).2
  have XW:=J0 hf hg sh hP N6;exact ⟨H',.refl _,b,q,w',[p],rfl,hX,(by simp only [Lw,SF.cells] at o ⊢; exact o.pm),by rw [← XW]; exact List.prefix_refl _,fun h=>⟨hFs' h,XW⟩,hEs'⟩
 have AR:=A7 h1
 have w1:=ws k
 have Me : k<f.A4.length:=by omega
 obtain ⟨FK,Xs,rfl,IV,TO,pr,sJ,lx⟩:=kR hX (show AA H0 H (q++((DM,Lw f g X (.fn (.func F) ca))::(w++l))) from o.pm) AR;refine tt ?_;refine Af M0 (by simp) (tt ?_);refine ⟨by omega,Af TO (by omega) ?_⟩;refine tt ?_;refine B7.FV (es:=[iL (p.getD k default),.int .i64 (-1)]) (.int _ _) rfl (fun i hi=>?_) (Lg B (p.getD k default) (-1)).run ?_
 ·obtain rfl | rfl : i=0∨i=1:=by simp only [List.length_cons,List.length_nil] at hi; omega
  ·intro gg ww v hW hv;exact vD.ln pr _ _ sJ gg B H ww v hW lx hv
  ·exact DA _
 have hib:=GL (p.getD k default) (-1);refine tt ?_;apply bk <;> intro h2
 ·have Ah:=A7 h2;refine tw w1 ?_;exact A5 () (by omega) ⟨AG ES Ah,o⟩ rfl
 have Ah:=A9 h2
 obtain ⟨f1,f2,f3⟩:=K2 (l:=p.getD k default) (a:=-1) (by omega)
 generalize gQ : indexOf (p.getD k default) (-1)=e at *
 have B3:=hP.row k Me
 have Yl:=Ps k Me
 have hx : 0≤(k : Int)∧(k : Int)<f.shape.AO:=by omega
 have he : 0≤e∧e<ix f.A4 (k : Int):=by rw [AH]; omega
 have uz : ix (ix p (k : Int)) e=-1:=by rw [AH]; exact f2
 have hv : ∀ y i : Int,0≤y∧y<f.shape.AO→0≤i∧i<ix f.A4 y→ix (ix p y) i=-1∨0≤ix (ix p y) i:=fun y i hy hi=>(hP.val y i hy hi).imp id fun h=>h.1
 have hfst : ∀ y i : Int,0≤y∧y<f.shape.AO→0≤i∧i<ix f.A4 y→(y<(k : Int)∨(y=(k : Int)∧i<e))→ix (ix p y) i≠-1:=by
  intro y i hy hi h
  rcases h with h | ⟨rfl,h⟩
  ·exact U3 (ES y.toNat (by omega)) (hP.ew hf.1 hy hi).2
  ·rw [AH]; exact f3 i.toNat (by omega)
 have hFT : Ug f p k e:=⟨hx,he,uz,hfst⟩
 have rP:=hg.1.sl;rw [← sh] at rP
 have hgz : 0≤ix g.A4 (k : Int)∧ix g.A4 (k : Int)<17:=by rw [AH]; exact hg.1.sz _ (AE.mpr ⟨k,by omega,rfl⟩)
 have hgz2:=hgz;rw [AH] at hgz2;refine tt ?_
 refine AD [0,3,4] (G:=List (List (List Int)) × Ob × Ob) (fun d _=>[(5,some (.int .i64 (d : Int)))])
  (fun d G H=>FP f g p k e d G.1∧N0 G.2.1 (.buf FK Xs.length) p∧Fs (A++G.1) G.2.2∧AA H0 H ((DM,Lw f g (.buf FK Xs.length) (.fn (.func F) ca))::(G.2.1++(G.2.2++l)))) (g.A4.getD k default).toNat ([],q,w) ⟨.zero hx he,hX,by rw [List.append_nil]; exact TC,o⟩ rfl ?_
 clear o hX TC M0 TO sJ lx IV
 rintro d ⟨M,q,w⟩ H hd ⟨hM,hX,TC,o⟩;dsimp only at hM hX TC o;refine tt ?_;refine AK o (by simp) (tt ?_);refine ⟨by omega, ?_⟩;apply bk <;> intro h3
 rotate_left 1
 ·have B8:=A9 h3;refine tt ?_
  have hdd : (d : Int)=ix g.A4 (k : Int):=by rw [AH]; omega
  rw [hdd] at hM
  have XW:=J0 hf hg sh hP (hM.done hx he);exact ⟨H,.refl _,true,q,w,M,rfl,hX,o,by rw [← XW]; exact List.prefix_refl _,fun _=>⟨TC,XW⟩,fun h=>by cases h⟩
 have B8:=A7 h3
 have w2:=ws d
 have Hs : TL f g k e d:=⟨hf,hg,sh,hx,he,by rw [AH]; omega⟩;refine tt ?_;refine Ae o fun Ko H o=>tt ?_;refine Ai o fun Kq H o=>tt ?_;refine sw o fun H o=>tt ?_
 have o2 : AA H0 H ((DM,Lw f g (.buf FK Xs.length) (.fn (.func F) ca))::(Kq,.cells 1 [.buf Ko 0] 0)::(Ko,.cells 2 [] 0)::(q++(w++l))):=o.pm;refine (qP B Hs hP hX o2).mono ?_;clear o o2 hX
 rintro r H ⟨ok,kk,p',N,q,Ko,rfl,hX,o,hS,Nl,Eb,TJ⟩;refine tt ?_
 have o : AA H0 H ((DM,Lw f g (.buf FK Xs.length) (.fn (.func F) ca))::(q++(w++((Kq,.cells 1 [.buf Ko N.length] 0)::(Ko,.cells 2 (flat (N.map ZW)) 0)::l)))):=o.pm
 have wH:=hS.qZ
 have hNr : ∀ j,j<N.length→(0≤(N.getD j default).1∧(N.getD j default).1.toNat<p.length)∧(0≤(N.getD j default).2∧(N.getD j default).2.toNat<(ix p (N.getD j default).1).length):=fun j hj=>by
  have:=hS.Jr (N.getD j default).1 (N.getD j default).2 (AE.mpr ⟨j,hj,rfl⟩);exact ⟨this.1,this.2.1⟩
 have hNl : N.length≤40:=by
  have h1:=hS.nl
  have h2 : (outs f.shape (k : Int)).length≤40:=by
   rw [outs,List.length_map];refine Nat.le_trans (List.length_filter_le _ _) ?_;rw [List.length_range]; omega
  omega
 have sD:=hS.len
 have Rg:=hS.row
 cases ok
 case' true =>
  obtain rfl:=Eb rfl;refine tt ?_;refine (ih (Iv f p') (by rw [← hn]; exact hS.less Hs hP uz) p' rfl (hS.pt Hs hP) (A++M) q w _ H0 H hX TC o).mono ?_;clear o hX TC
  rintro r H ⟨b,q,w,M2,rfl,hX,o,HI,Rb,NA⟩
  have ur:=Gb hf hg sh (hS.pt Hs hP)
  have hMn:=hM.next hFT hP Fg ur fun t=>hS.ext Hs hP t
  have Lp : (b=true→∃ M',Fs (A++M') w∧FP f g p k e ((d : Int)+1) M')∧(b=false→∃ M',Es (A++M') w∧M' <+: Cz f g p):=⟨fun h=>by
   obtain ⟨h1,h2⟩:=Rb h;rw [h2] at h1;exact ⟨M++Cz f g p',by rw [← List.append_assoc]; exact h1,hMn⟩,fun h=>by
   have h1:=NA h;exact ⟨M++M2,by rw [← List.append_assoc]; exact h1,List.IsPrefix.trans ((List.prefix_append_right_inj M).mpr HI) (hMn.pre hFT hP Fg (Gb hf hg sh hP))⟩⟩
  clear Rb NA HI hMn ur;refine tt ?_
 case' false =>
  have oK : Fs (A++M) w∧FP f g p k e ((d : Int)+1) M:=⟨TC,hM.none (TJ rfl)⟩;clear TC;refine tt ?_
  obtain ⟨b,Rb,NA⟩ : ∃ b : Bool,AV.bool true=AV.bool b∧b=true:=⟨true,rfl,rfl⟩
  have Lp : (b=true→∃ M',Fs (A++M') w∧FP f g p k e ((d : Int)+1) M')∧(b=false→∃ M',Es (A++M') w∧M' <+: Cz f g p):=⟨fun _=>⟨M,oK⟩,fun h=>by rw [NA] at h; cases h⟩;rw [Rb];clear Rb NA oK
 all_goals
  have vj : H.get Kq=some (.cells 1 [.buf Ko N.length] 0):=o.get (Kq,.cells 1 [.buf Ko N.length] 0) (by simp);refine Af vj (by simp) (tt ?_)
  refine AD [0,3,4,5,8,55,56] (G:=Ob) (fun j _=>[(57,some (.int .i64 (j : Int)))])
   (fun j q H=>N0 q (.buf FK Xs.length) (G9 p' (N.take j))∧AA H0 H ((DM,Lw f g (.buf FK Xs.length) (.fn (.func F) ca))::(q++(w++((Kq,AF.cells 1 [.buf Ko N.length] 0)::(Ko,AF.cells 2 (flat (N.map ZW)) 0)::l))))) N.length q ⟨hX,o⟩ rfl ?_
  clear o hX vj
  rintro j q H hj ⟨hX,o⟩
  replace hX : N0 q (.buf FK Xs.length) (G9 p' (N.take j)):=hX
  replace o : AA H0 H ((DM,Lw f g (.buf FK Xs.length) (.fn (.func F) ca))::(q++(w++((Kq,.cells 1 [.buf Ko N.length] 0)::(Ko,.cells 2 (flat (N.map ZW)) 0)::l)))):=o;refine tt ?_;apply bk <;> intro h4
  ·have Cr:=A7 h4
   have wj:=ws j
   have hr:=hNr j Cr
   have vn:=XM p' Cr
   have oB : AA H0 H ((Ko,.cells 2 (flat (N.map ZW)) 0)::((DM,Lw f g (.buf FK Xs.length) (.fn (.func F) ca))::(Kq,.cells 1 [.buf Ko N.length] 0)::(q++(w++l)))):=o.pm;refine tt ?_;refine ⟨Cr,Ns (f:=ZW) oB Cr ?_⟩
   generalize N.getD j default=yy at *
   obtain ⟨y,i⟩:=yy;refine tt ?_;refine Ai o fun Lv H o=>tt ?_;refine sw o fun H o=>?_
   have hpl2 : (G9 p' (N.take j)).length=p.length:=by rw [Qw,sD]
   have kr : ((G9 p' (N.take j)).getD y.toNat default).length=(p.getD y.toNat default).length:=by rw [RS,Rg]
   have oc : AA H0 H (q++((Lv,.cells 2 [iI y,iI i] 0)::(Ko,.cells 2 (flat (N.map ZW)) 0)::(DM,Lw f g (.buf FK Xs.length) (.fn (.func F) ca))::(Kq,.cells 1 [.buf Ko N.length] 0)::(w++l))):=o.pm
   obtain ⟨idX',Xs',Jl,hXe,IV,TO,Vf,n9,Hk⟩:=Ou hX oc (y:=y.toNat) (i:=i.toNat) (by have:=hr.1.2; omega) (by rw [kr]; exact hr.2.2)
   obtain ⟨rfl,hXX⟩:=AV.buf.inj hXe
   have M0 : H.get DM=some (Lw f g (.buf FK Xs.length) (.fn (.func F) ca)):=oc.get (DM,Lw f g (.buf FK Xs.length) (.fn (.func F) ca)) (by simp)
   have nY:=hr.1.2;refine tt ?_;refine Af M0 (by simp) (tt ?_);refine AK o (by simp) (tt ?_);refine ⟨⟨hr.1.1,by omega⟩,Af TO (by omega) ?_⟩;rw [Vf];refine tt ?_;refine AK o (by simp) (tt ?_);refine ⟨⟨hr.2.1,by rw [kr]; exact hr.2.2⟩,Hk _ _ fun q' H HJ o=>?_⟩;refine tw wj ?_;refine A5 q' (by omega) ⟨by rw [vn]; exact HJ, ?_⟩ rfl
   have o:=o.perm (show _ from List.perm_middle)
   have o3:=o.tl;simp only [Lw,SF.cells] at o3 ⊢;exact o3.pm
  ·have Cr:=A9 h4
   obtain rfl : j=N.length:=by omega
   rw [List.take_length,wH] at hX
   have o:=o.KW (l':=(DM,Lw f g (.buf FK Xs.length) (.fn (.func F) ca))::(q++(w++l))) (.cons_cons _ (List.Sublist.append_left (List.Sublist.append_left ((List.sublist_cons_self _ _).trans (List.sublist_cons_self _ _)) _) _));refine tt ?_
   cases b
   ·obtain ⟨M',h1,h2⟩:=Lp.2 rfl;refine tt ?_;exact ⟨H,.refl _,false,q,w,M',rfl,hX,o,h2,(fun h=>by cases h),fun _=>h1⟩
   ·obtain ⟨M',TC,wI⟩:=Lp.1 rfl;refine tw w2 ?_;exact A5 (M',q,w) (by omega) ⟨by rw [Int.natCast_succ]; exact wI,hX,TC,o⟩ rfl
end Go.Proofs.Shf
namespace Go.Proofs.Shf
open Go.AW Go.Proofs Go.Shf
theorem qR (B : Nat) (l : List Int) : Gk Tryz.prog B 221 [iL l] fun p X=>OL p X l :=
 ⟨fun H=>(Ji B l H H [] (.nil H)).mono fun r H' ⟨id,A,e,o,q⟩=>by
  subst e q;exact ⟨_,.inr ⟨id,_,[],rfl,by simp,PX _⟩,o⟩⟩
theorem jV (B : Nat) (l : List (List Int)) : Gk Tryz.prog B 179 [BA l] fun p X=>N0 p X l:=by
 refine ⟨fun H0=>nP.go fun ⟨hf,_⟩=>?_⟩
 have hl:=AM hf;simp only [AL] at hl;refine tt ?_;refine ⟨by simp only [AL]; omega,Ae (.nil _) fun id H o=>?_⟩;refine tt ?_
 refine AD [9,10] (G:=AV × Ob) (fun k g=>[(3,some g.1),(11,some (.int .i64 (k : Int)))])
  (fun k g H=>N0 g.2 g.1 (l.take k)∧AA H0 H (g.2++[])) l.length (.buf id 0,[(id,.cells 1 [] 0)]) ⟨.inr ⟨id,[],[],rfl,rfl,.nil⟩,o⟩ rfl ?_
 clear o
 rintro k ⟨X,q⟩ H hk ⟨hX,o⟩;dsimp only at hX o;refine tt ?_;apply bk <;> intro h1
 ·have AR:=A7 h1
  have w:=ws k;refine tt ?_;refine ⟨AR, ?_⟩;refine (qR B (l.getD k default)).call o fun Y p H hY o=>?_
  have mB:=hY.one;refine tt ?_;refine ⟨by simp [DK,AV.cells_one mB,mB], ?_⟩;refine hX.bm hY ⟨AV.cells_one mB,mB⟩ o (by rw [List.length_take]; simp only [AL]; omega) fun X' q' H QB HJ o=>?_;refine tw w ?_;refine A5 (X',q') AR ⟨?_,o⟩ rfl
  simp only;rw [B9 l AR]; exact HJ
 ·have AR:=A9 h1
  obtain rfl : k=l.length:=by omega
  rw [List.take_length] at hX;rw [List.append_nil] at o;refine tt ?_;exact ⟨H,.refl H,q,hX,o⟩
def lI (Fz : Nat) (A : List (List (List Int))) (w : Ob) : Prop:=∃ (Y : AV) (p : Ob),w=(Fz,.cells 1 [Y] 0)::p∧QA BA p Y A
def xC (most Fz : Nat) (A : List (List (List Int))) (w : Ob) : Prop:=lI Fz A w∧A.length≤most
theorem Wu (f : SF) {k : Nat} (hk : k<f.A4.length) {n : Nat} (hn : f.A4.getD k default=n) : (BR f).take (k+1)=(BR f).take k++[List.replicate n (-1)]:=by
 rw [take_one _ (by simpa [BR] using hk)]
 congr 2
 rw [BR,BB _ hk,hn,Int.toNat_natCast]
theorem UR (B : Nat) {f g : SF} (hf : f.Is) (hg : g.Is) (sh : f.shape=g.shape) : PB B 122 [.ptr f.cells,.ptr g.cells] (iI 0):=by
 refine ⟨fun H0=>c122.go fun _=>tt ?_⟩;refine (show PB B _ [.sl [.ptr f.cells,.ptr g.cells]] _ from Eg B [f,g]).go fun _=>?_;rw [Aw (by simp [hf,hg])];refine tt ?_;refine ⟨_,(EG B f.shape g.shape).run, ?_⟩;rw [Aw sh];refine tt ?_;exact A6 rfl (.refl _)
theorem dS (B : Nat) (f : SF) (hl : f.A4.length≤8) (hz : ∀ y,y∈f.A4→0≤y∧y<17) : PB B 123 [.ptr f.cells] (iI f.A4.sum):=by
 refine ⟨fun H0=>zD.go fun _=>tt ?_⟩;refine AD [9,10] (G:=Unit) (fun k _=>[(3,some (.int .i64 (f.A4.take k).sum)),(11,some (.int .i64 (k : Int)))]) (fun k _ H=>H=H0∧0≤(f.A4.take k).sum∧(f.A4.take k).sum≤17*k) f.A4.length () ⟨rfl,by simp,by simp⟩ rfl ?_
 rintro k _ H hk ⟨rfl,hs⟩;refine tt ?_;apply bk <;> intro h1
 ·have h1:=A7 h1
  have w1:=ws k
  have CU:=hz _ (AE.mpr ⟨k,h1,rfl⟩)
  have e : (f.A4.take (k+1)).sum=(f.A4.take k).sum+f.A4.getD k default:=by rw [Co _ h1]; simp
  have w2 : IntKind.i64.wrap ((f.A4.take k).sum+f.A4.getD k default)=(f.A4.take (k+1)).sum:=by rw [wrap_i64 (by omega) (by omega),e]
  refine tt ?_;refine ⟨h1, ?_⟩;refine t2 w1 w2 ?_
  exact A5 () (by omega) ⟨rfl,by omega,by omega⟩ rfl
 ·have h1:=A9 h1
  obtain rfl : k=f.A4.length:=by omega
  refine tt ?_;exact A6 (by rw [List.take_length]) (.refl _)
def OutE (most Fz : Nat) (A : List (List (List Int))) (w : Ob) : Prop:=lI Fz A w∧most<A.length
theorem SG (B : Nat) (f g : SF) (most : Nat) (FY : most≤1048576) (Fz : Nat) : OK B f g 205 [.ref Fz 0,.ptr [.int .i64 most]] (xC most Fz) (OutE most Fz):=by
 intro p A X q w l H0 H hP hX TC o
 obtain ⟨⟨Y,pw,rfl,hY⟩,hA⟩:=TC;refine xI.go fun _=>?_;refine tt ?_
 have hgO : H.get Fz=some (.cells 1 [Y] 0):=o.get (Fz,.cells 1 [Y] 0) (by simp);refine Af hgO (by simp) (tt ?_);refine Gk.bg fQ (jV B p) rfl (fun i hi=>?_) fun H' hs=>⟨hs, ?_⟩
 ·obtain rfl : i=0:=by simp only [List.length_cons,List.length_nil] at hi; omega
  exact fQ.arg hX o fun x hx=>List.mem_append_left _ hx
 have o:=o.ext hs
 have oY : AA H0 H' (pw++((Fz,.cells 1 [Y] 0)::(q++l))):=o.pm;refine tt ?_;refine (CZ.mk oY hY).app p rfl (by simp only [AL]; omega) fun Av H o=>tt ?_;refine sw o.swap fun H o=>tt ?_;refine AK o (by simp) (tt ?_)
 have hg : lI Fz (A++[p]) [(Fz,.cells 1 [.buf Av (A++[p]).length] 0),(Av,.cells 1 ((A++[p]).map BA) 0)]:=⟨_,_,rfl,.inr ⟨Av,rfl,rfl⟩⟩;refine ⟨H,.refl H,_,_,rfl,fun hb=>⟨hg, ?_⟩,fun hb=>⟨hg, ?_⟩,o.pm⟩
 ·exact of_decide_eq_true hb
 ·exact Nat.lt_of_not_le (of_decide_eq_false hb)
theorem UZ (B : Nat) {f g : SF} (hf : f.Is) (hg : g.Is) (sh : f.shape=g.shape) {F : FuncId} {ca : List AV} {Fs Es : List (List (List Int))→Ob→Prop} (hF : OK B f g F ca Fs Es) (A : List (List (List Int))) (w l : Ob) (H0 H : AB) (TC : Fs A w) (o : AA H0 H (w++l)) :
  CB B 204 [.ptr f.cells,.ptr g.cells,.bool false,.fn (.func F) ca] H fun r H'=>∃ (b : Bool) (w' : Ob) (M : List (List (List Int))),r=.bool b∧AA H0 H' (w'++l)∧M <+: Cz f g (BR f) ∧
   (b=true→Fs (A++M) w'∧M=Cz f g (BR f))∧(b=false→Es (A++M) w'):=by
 refine xG.go fun _=>?_
 have F3:=hf.1.is.1.o
 have Fg:=hf.1.sl
 have Ps : ∀ x,x<f.A4.length→0≤f.A4.getD x default∧f.A4.getD x default<17:=fun x hx=>hf.1.sz _ (AE.mpr ⟨x,hx,rfl⟩)
 have Ly : (AV.fn (.func F) ca).cells=[.fn (.func F) ca]:=rfl;try simp only [go_sem,↓reduceIte,reduceEqDiff,reduceAdd,reduceMul,reduceLeDiff,reduceLT,Ly,FI,HE,List.set_cons_zero,List.set_cons_succ]
 refine Ai o fun DM H o=>tt ?_
 refine AD [9,21,22] (G:=AV × Ob) (fun k _=>[(23,some (.int .i64 (k : Int)))])
  (fun k G H=>N0 G.2 G.1 ((BR f).take k)∧AA H0 H ((DM,Lw f g G.1 (.fn (.func F) ca))::(G.2++(w++l)))) f.A4.length (.A1,[]) ⟨.inl ⟨rfl,rfl,rfl⟩,o⟩ rfl ?_
 clear o
 rintro k ⟨X,q⟩ H hk ⟨hX,o⟩;dsimp only at hX o;refine tt ?_;apply bk <;> intro h1
 ·have AR:=A7 h1
  have w1:=ws k
  have Yl:=Ps k AR
  obtain ⟨n,hn⟩ : ∃ n : Nat,f.A4.getD k default=n:=⟨_,(Int.toNat_of_nonneg Yl.1).symm⟩;rw [hn] at Yl;refine tt ?_;refine ⟨AR, ?_⟩;refine AK o (by simp) ?_;rw [hn];refine tt ?_;refine (L9 B (-1) n (by omega) H H [] (.nil H)).mono ?_
  rintro r H2 ⟨BQ,R,rfl,or,rfl⟩;refine ⟨or.sub, ?_⟩
  have o:=o.trans or
  have o2 : AA H0 H2 ([(BQ,.cells 1 ((List.replicate n (-1 : Int)).map iI) 0)]++(q++((DM,Lw f g X (.fn (.func F) ca))::(w++l)))):=o.pm;refine tt ?_;refine hX.bm (O:=OL) (p:=[(BQ,.cells 1 ((List.replicate n (-1 : Int)).map iI) 0)]) (a:=List.replicate n (-1)) (.inr ⟨BQ,_,[],rfl,by simp,PX _⟩) ⟨rfl,rfl⟩ o2 (by rw [List.length_take]; simp only [AL]; omega) fun X' q' H QB HJ o=>?_
  have o3 : AA H0 H ((DM,Lw f g X (.fn (.func F) ca))::(q'++(w++l))):=o.pm;rw [← Wu f AR hn] at HJ;try simp only [go_sem,↓reduceIte,reduceEqDiff,reduceAdd,reduceMul,reduceLeDiff,reduceLT,AV.cells_one QB]
  refine Ap o3 (by simp) rfl (by simp only [Bi,CR]; exact ⟨QB,trivial⟩) fun H o=>?_;have o:=s2 o;refine tw w1 ?_;exact A5 (X',q') (by omega) ⟨HJ,o⟩ rfl
 ·have AR:=A9 h1
  have Nl : k=f.A4.length:=by omega
  rw [Nl,List.take_of_length_le (by simp [BR])] at hX;refine tt ?_;refine (kY B hf hg sh hF DM X _ (BR f) rfl (LA hf.1) A q w l H0 H hX TC o).mono ?_
  rintro r H' ⟨b,q',w',M,rfl,HJ,o,HI,hb⟩;refine tt ?_;exact ⟨H',.refl _,b,w',M,rfl,o.KW ((List.sublist_append_right _ _).trans (List.sublist_cons_self _ _)),HI,hb⟩
def oS (f g : SF) (most : Nat) (r : AV) : Prop:=∃ (L : List (List (List Int))) (b : Bool),r=.CG [Ft L,.bool b]∧(b=true→L=Cz f g (BR f)∧L.length≤most)∧(b=false→most<(Cz f g (BR f)).length)
theorem NN (B : Nat) {f g : SF} (hf : f.Is) (hg : g.Is) (sh : f.shape=g.shape) (most : Nat) (FY : most≤1048576) : Jq B 124 [.ptr f.cells,.ptr g.cells,.int .i64 most] (oS f g most):=by
 intro H0;refine zA.go fun _=>?_
 have o : AA H0 H0 []:=.nil _;refine tt ?_;refine Ae o fun VQ H o=>tt ?_;refine Ai o fun Fz H o=>tt ?_;refine sw o fun H o=>tt ?_
 have TC : xC most Fz [] [(Fz,.cells 1 [.buf VQ 0] 0),(VQ,.cells 1 [] 0)]:=⟨⟨.buf VQ 0,[(VQ,.cells 1 [] 0)],rfl,.inr ⟨VQ,rfl,rfl⟩⟩,Nat.zero_le _⟩;refine (UZ B hf hg sh (SG B f g most FY Fz) [] _ [] H0 H TC o).mono ?_;clear o TC
 rintro r H ⟨b,w,L,rfl,o,HI,Rb,NA⟩;rw [List.nil_append] at Rb NA
 have hq : (b=true→L=Cz f g (BR f)∧L.length≤most)∧(b=false→most<(Cz f g (BR f)).length):=⟨fun h=>⟨(Rb h).2,(Rb h).1.2⟩,fun h=>Nat.lt_of_lt_of_le (NA h).2 HI.length_le⟩
 obtain ⟨Y,p,rfl,hY⟩ : lI Fz L w:=by
  cases b
  ·exact (NA rfl).1
  ·exact (Rb rfl).1.1
 clear Rb NA;refine tt ?_;refine AK (show AA H0 H ((Fz,.cells 1 [Y] 0)::(p++[])) from o) (by simp) (tt ?_)
 have ob:=o.sub
 rcases hY with ⟨rfl,rfl,rfl⟩ | ⟨Av,rfl,rfl⟩
 ·refine tt ?_;exact Bj ⟨[],b,rfl,hq⟩ ob
 ·refine Al (f:=BA) (show AA H0 H ((Av,.cells 1 (L.map BA) 0)::[(Fz,.cells 1 [.buf Av L.length] 0)]) from o.swap) rfl fun H o=>tt ?_;exact Bj ⟨L,b,rfl,hq⟩ o.sub
def oU (f g : SF) (r : AV) : Prop:=∃ (L : List (List (List Int))) (k : Int),r=.CG [Ft L,iI k]∧((k=0∧L=Cz f g (BR f)∧L.length≤200∧f.A4.sum≤12)∨(k=3∧L=[]∧(12<f.A4.sum∨200<(Cz f g (BR f)).length)))
theorem JK (B : Nat) {f g : SF} (hf : f.Is) (hg : g.Is) (sh : f.shape=g.shape) : Jq B 54 [.agg f.cells,.agg g.cells] (oU f g):=by
 intro H0;refine c54.go fun _=>?_
 have F3:=hf.1.is.1.o
 have Fg:=hf.1.sl;refine tt ?_;refine (UR B hf hg sh).go fun _=>?_;refine td ?_;refine (dS B f (by omega) fun y hy=>hf.1.sz y hy).go fun _=>tt ?_;apply bk <;> intro h1
 ·have AR:=A7 h1;refine tt ?_;exact Bj ⟨[],3,rfl,.inr ⟨rfl,rfl,.inl (by omega)⟩⟩ (.refl _)
 have hsum : f.A4.sum≤12:=by have:=A9 h1; omega
 refine tt ?_;refine (NN B hf hg sh 200 (by omega)).go fun r _ ⟨L,b,e,Rb,NA⟩=>?_;subst e;refine tt ?_
 cases b
 ·refine tt ?_;exact Bj ⟨[],3,rfl,.inr ⟨rfl,rfl,.inr (NA rfl)⟩⟩ (.refl _)
 ·refine tt ?_;exact Bj ⟨L,0,rfl,.inl ⟨rfl,(Rb rfl).1,(Rb rfl).2,hsum⟩⟩ (.refl _)
theorem Vh (B : Nat) (code : List UInt8) : Jq B 52 [mL Go.AW.iB code] eS:=by
 intro H0;refine c52.go fun _=>?_
 have o : AA H0 H0 []:=.nil _;refine tt ?_;refine nb o fun ER H o=>tt ?_;refine nb o fun Ce H o=>tt ?_;refine (Z9 B code true).go fun r _ ⟨j,m,e⟩=>?_;subst e;refine tt ?_;refine sw o.swap fun H o=>tt ?_;refine sw o.swap fun H o=>tt ?_
 have hr3:=o.rc 15 0 (by simp)
 have BV:=o.tl.rc 6 0 (by simp);simp only [List.drop_zero] at BV hr3;rw [BV,hr3];exact Bj ⟨j,m,rfl⟩ o.sub
theorem qW {j : Dw} {m : SM} (h : F5 j m=0) : Qv j m:=by
 rw [F5] at h
 split at h
 ·rename_i h1
  split at h
  ·rename_i h2
   split at h
   ·rename_i h3; exact ⟨h1,h2,h3⟩
   ·cases h
  ·rename_i h2; exact absurd h h2
 ·cases h
theorem Zs {j : Dw} {f g : SF} {p : List (List Int)} (h : Qv j ⟨f,g,p⟩) : ∃ (F : SF) (u M : List (List Int)),LH j f=⟨f,F,u⟩∧KV j ⟨f,g,p⟩=⟨F,g,M⟩ ∧
  SM.Is ⟨f,F,u⟩∧SM.Is ⟨F,g,M⟩∧thenS u M=p∧f.Is∧g.Is∧F.Is∧f.shape=g.shape∧F.shape=g.shape∧(Cz F g (BR F)).length=(Cz f g (BR f)).length:=by
 have h0:=h
 obtain ⟨⟨hF,hm⟩,zf,hs⟩:=h;dsimp only at zf hs
 obtain ⟨kf,ff⟩:=U7 zf
 obtain ⟨_,hf,shf,vf'⟩:=FM kf
 have e : f.shape=g.shape:=hm.eq
 have hg : g.Is:=hm.t
 have vf : Ba f.shape (Aq j.shape j.AP):=by rw [shf]; exact vf'
 have hM : KV j ⟨f,g,p⟩=Kf ⟨f,g,p⟩ (Aq j.shape j.AP):=by rw [KV,if_pos h0]
 have uf:=cA zf
 generalize Aq j.shape j.AP=V at *
 have iF1:=Nd hf vf ff.1
 have iF:=Nd (f:=AS f V) iF1 vf ff.2
 have u1:=Db hf.1 hf.Ei vf
 have u2 : D5 (AS f V) (AS (AS f V) V) _:=Db iF1.1 iF1.Ei vf
 have u : D5 f (AS (AS f V) V) (SO f V):=u1.then u2 rfl hf.1
 have m : D5 f g p:=hm.WL
 have d1:=ED hf.1 hg.1 hg.Ei e m vf hs
 have d2 : D5 (AS (AS f V) V) g _:=ED iF1.1 hg.1 hg.Ei e d1 vf hs;exact ⟨AS (AS f V) V,SO f V,_,uf,hM,Uq hf iF rfl u,Uq iF hg e d2,O8 hf.1 hf.Ei hg.1 hg.Ei e m vf ff hs,hf,hg,iF,e,e,bI hf hg e vf ff iF hs⟩
theorem fnSheafUniversal_ok (B : Nat) (code : List UInt8) : PB B 7 [mL Go.AW.iB code] (.bool true):=by
 refine ⟨fun H0=>c7p.go fun _=>?_⟩
 have o : AA H0 H0 []:=.nil _;refine tt ?_;refine (qY B code).go fun _=>tt ?_;apply bk <;> intro g0
 ·refine tt ?_;exact A6 rfl (.refl _)
 refine tt ?_;refine (Vh B code).go fun r _ ⟨j,⟨f,g,p⟩,e⟩=>?_;subst e;refine tt ?_;refine nb o fun Ce H o=>tt ?_;refine nb o fun BJ H o=>tt ?_;refine sw o.swap fun H o=>tt ?_;refine sw o.swap fun H o=>tt ?_;refine D8 4 o rfl fun H o=>D8 3 o rfl fun H o=>AY ?_;refine tt ?_;refine (Jo B j ⟨f,g,p⟩).go fun _=>tt ?_;refine nb o fun CP H o=>tt ?_;refine sw o fun H o=>tt ?_;refine (NG B j ⟨f,g,p⟩).go fun _=>tt ?_;refine nb o fun Cq H o=>tt ?_;refine sw o fun H o=>tt ?_;refine D8 7 o rfl fun H o=>D8 5 o rfl fun H o=>AY ?_;refine td ?_;refine (IK B (KV j ⟨f,g,p⟩)).go fun _=>?_;refine td ?_
 by_cases hz : F5 j ⟨f,g,p⟩=0
 rotate_left
 ·rw [decide_eq_false hz];refine tt ?_;exact A6 rfl o.sub
 have h0:=qW hz
 have zf : Dj j f=0:=h0.2.1
 obtain ⟨F,u,M,uf,hM,iu,iM,hn,hf,hg,hF,e1,e2,hc⟩:=Zs h0
 have q1:=NH B j f
 have q3:=VD B j f;rw [uf,zf] at q1 q3
 have q5:=S3 B ⟨F,g,M⟩;rw [Aw iM] at q5
 have q6:=Ti B f F g u M iu iM;rw [hn] at q6
 have q7:=JK B hF hg e2
 have q8:=JK B hf hg e1;rw [hM,hz];clear uf hM iu iM hn zf h0 hz;refine td ?_;refine q1.go fun _=>tt ?_;refine nb o fun Gf H o=>tt ?_;refine sw o fun H o=>tt ?_;refine q3.go fun _=>tt ?_;refine nb o fun G0 H o=>tt ?_;refine sw o fun H o=>tt ?_;refine D8 11 o rfl fun H o=>D8 9 o rfl fun H o=>AY ?_;refine tt ?_;refine q6.go fun _=>tt ?_;refine nb o fun Pu H o=>tt ?_;refine sw o fun H o=>tt ?_;refine D8 13 o rfl fun H o=>AY ?_;refine tt ?_;refine q5.go fun _=>?_;refine td ?_;refine (IK B ⟨f,F,u⟩).go fun _=>?_;refine td ?_;refine (IK B ⟨f,g,p⟩).go fun _=>?_;refine td ?_;refine q7.go fun r _ ⟨L1,k1,e,h1⟩=>?_;subst e;refine tt ?_;refine q8.go fun r _ ⟨L2,k2,e,h2⟩=>?_;subst e
 have h30 : decide ((3 : Int)=0)=false:=by decide
 rcases h1 with ⟨rfl,rfl,_⟩ | ⟨rfl,_⟩
 ·rcases h2 with ⟨rfl,rfl,_⟩ | ⟨rfl,_⟩
  ·try simp only [go_sem,↓reduceIte,reduceEqDiff,reduceAdd,reduceMul,reduceLeDiff,reduceLT,hc,dT5]
   exact A6 rfl o.sub
  ·try simp only [go_sem,↓reduceIte,reduceEqDiff,reduceAdd,reduceMul,reduceLeDiff,reduceLT,dT5,h30]
   exact A6 rfl o.sub
 ·refine tw h30 ?_;exact A6 rfl o.sub
end Go.Proofs.Shf
namespace Go.AW
def WN (P : AV→Prop) (a : AV) : Prop:=(∃ al : List AV,a=.sl al∧∀ x,x∈al→P x)∨∃ n,1048576<n∧n≤140737488355328∧a=.VU n
def WB (a : AV) : Prop:=(∃ l : List UInt8,a=mL iB l)∨∃ n,1048576<n∧n≤140737488355328∧a=.VU n
end Go.AW
namespace Go.Proofs.Shf
open Go.AW Go.Proofs Go.Shf
open Go.Deep
def qN (W : World) : Gh:=⟨fun b o=>W.cell? ⟨b,o,none⟩,fun _=>none,fun _=>none⟩
theorem ig (W : World) : Ao (qN W) W.heap.size [] W where
 fz b o v h:=h
 fm b es h:=by cases h
 ob i o h:=by simp [AB.get] at h
 inj i j b c c' n h:=by simp [AB.get] at h
 HK i j b n h:=by simp [AB.get] at h
 base:=Nat.le_refl _
 fin:=⟨0,fun i _=>rfl⟩
section
variable {H : Type} {enc : TypeId × Value→H} {W : World}
def yg (enc : TypeId × Value→H) (W : World) (t : TypeId) (Q : AV→Prop) : Prop :=
 ∀ fuel v d ps,DataW.trod enc Tryz.prog W 0 (fun _=>true) true fuel t [v]=some (d,ps)→(∀ n,n∈d.weights Tryz.prog t→n≤reachBytes)→∃ a,Q a∧Ab (qN W) a v
theorem j7 : yg enc W 5 fun a=>∃ b : UInt8,a=Go.AW.iB b:=by
 intro fuel v d ps h _
 cases fuel with
 | zero=>simp [DataW.trod] at h
 | succ fuel =>
  cases v <;> simp only [DataW.trod,Tryz.underlying5] at h <;> try (cases h; done)
  rename_i k n
  split at h
  ·rename_i hk
   obtain ⟨rfl,hf⟩:=hk
   have hr : 0≤n∧n≤255:=by
    simp only [Lit.wf,Bool.and_eq_true,decide_eq_true_eq] at hf;exact ⟨hf.1,hf.2⟩
   refine ⟨_,⟨UInt8.ofNat n.toNat,rfl⟩, ?_⟩
   have e : Go.AW.iB (UInt8.ofNat n.toNat)=.int .u8 n:=by
    have h1 : (UInt8.ofNat n.toNat).toNat=n.toNat:=by rw [UInt8.toNat_ofNat']; omega
    rw [Go.AW.iB,h1,Int.toNat_of_nonneg hr.1]
   rw [e];exact .int _ n
  ·cases h
theorem P6 {P : Program} {e : TypeId} {l : List (DataW H)} {x : DataW H} (hx : x∈l) {n : Nat} (hn : n∈x.weights P e) : n∈DataW.weightsAll P e l:=by
 induction l with
 | nil=>simp at hx
 | cons y r ih =>
  simp only [DataW.weightsAll,List.mem_append]
  rcases List.mem_cons.mp hx with rfl | hx
  ·exact .inl hn
  ·exact .inr (ih hx)
theorem cR {t e : TypeId} {Q : AV→Prop} (ht : Tryz.prog.underlying t=some (.slice e)) (hc : Tryz.prog.cellsOf e=1) (hb : 1≤Tryz.prog.bytesOf e) (hQ : ∀ a,Q a→a.cells=[a]) (h : yg enc W e Q) : yg enc W t (WN Q):=by
 intro fuel v d ps iy hw
 rcases open_slice1 ht hc iy with ⟨hv,hx⟩ | ⟨a,len,cap,m,n,V,D,Pl,hv,_,hl,hm,bD,hx,aY⟩
 ·injection hv with hv
  subst hv;exact ⟨.sl [],.inl ⟨[],rfl,by simp⟩,.slnil none 0⟩
 ·injection hv with hv
  subst hv;simp only [if_true] at bD;subst bD;simp only [Prod.mk.injEq] at hx
  obtain ⟨rfl,rfl⟩:=hx
  have hw0 : (((List.range len).map D).length+((List.range (m - len)).map fun j=>D (len+j)).length)*Tryz.prog.bytesOf e≤reachBytes:=hw _ (by simp [DataW.weights,ht])
  have hlen : len≤140737488355328:=by
   simp only [List.length_map,List.length_range] at hw0
   have h1 : len*1≤(len+(m - len))*Tryz.prog.bytesOf e:=Nat.mul_le_mul (by omega) hb
   have h2 : reachBytes≤140737488355328:=by decide
   omega
  by_cases hbig : 1099511627776<len
  ·exact ⟨.VU len,.inr ⟨len,by omega,hlen,rfl⟩,.VU _ _ _ hlen⟩
  ·have Ak : ∀ i,∃ x,i<len→Q x∧Ab (qN W) x (V i):=by
    intro i
    by_cases hi : i<len
    ·obtain ⟨x,q1,q2⟩:=h n (V i) (D i) (Pl i) (aY i (by omega)).2 fun k hk=>hw k (by
      simp only [DataW.weights,ht,List.mem_cons,List.mem_append];exact .inr (.inl (P6 (List.mem_map.mpr ⟨i,List.mem_range.mpr hi,rfl⟩) hk)))
     exact ⟨x,fun _=>⟨q1,q2⟩⟩
    ·exact ⟨.G1,fun h=>absurd h hi⟩
   obtain ⟨A,hA⟩:=Classical.axiomOfChoice Ak
   have Cj : ∀ i,i<len→((List.range len).map A).getD i nv=A i:=fun i hi=>AX A nv hi;refine ⟨.sl ((List.range len).map A),.inl ⟨_,rfl,fun x hx=>?_⟩, ?_⟩
   ·obtain ⟨i,hi,rfl⟩:=List.mem_map.mp hx;exact (hA i (List.mem_range.mp hi)).1
   ·by_cases h0 : len=0
    ·subst h0; exact .slnil _ _
    ·have hsp : a=⟨a.block,a.off,none⟩:=by
      have:=(aY 0 (by omega)).1
      obtain ⟨b,o,s⟩:=a
      cases s with
      | none=>rfl
      | some s=>exfalso; simp [Addr.add,World.cell?] at this; split at this <;> simp at this
     have hadd : ∀ i,a.add i=⟨a.block,a.off+i,none⟩:=by
      intro i;rw [hsp];unfold Addr.add
      split
      ·rename_i e; simp [e]
      ·rfl
     have key : Ab (qN W) (.sl ((List.range len).map A)) (.slice (some ⟨a.block,a.off,none⟩) ((List.range len).map A).length m):=by
      refine .sl _ a.block a.off 1 m V (by simp [AL]; omega) (by simp; omega) (fun i hi=>?_) (fun i j hi hj=>?_) (fun i j hi hj=>?_)
      ·rw [Cj i (by simpa using hi),hQ _ (hA i (by simpa using hi)).1]; rfl
      ·have Fh : i<len:=by simpa using hi
       have:=(aY i (by omega)).1;rw [hadd] at this
       have e : i*1+j=i:=by omega
       rw [e]; exact this
      ·have Fh : i<len:=by simpa using hi
       have e : i*1+j=i:=by omega
       obtain rfl : j=0:=by omega
       rw [e,Cj i Fh,hQ _ (hA i Fh).1];exact (hA i Fh).2
     rw [List.length_map,List.length_range,← hsp] at key;exact key
theorem WB.of {a : AV} (h : WN (fun a=>∃ b : UInt8,a=Go.AW.iB b) a) : WB a:=by
 rcases h with ⟨l,rfl,hl⟩ | h
 ·refine .inl ⟨l.map fun x=>match x with | .int _ n=>UInt8.ofNat n.toNat | _=>0, ?_⟩
  rw [mL,List.map_map]
  congr 1
  have : ∀ x,x∈l→(Go.AW.iB ∘ fun x : AV=>match x with | .int _ n=>UInt8.ofNat n.toNat | _=>0) x=x:=fun x hx=>by
   obtain ⟨n,rfl⟩:=hl x hx
   simp [Go.AW.iB]
  exact ((List.map_congr_left this).trans (by simp)).symm
 ·exact .inr h
theorem cX : ∀ fuel v d ps,DataW.trod enc Tryz.prog W 0 (fun _=>true) true fuel 22 [v]=some (d,ps)→(∀ n,n∈d.weights Tryz.prog 22→n≤reachBytes)→∃ a,WB a∧Ab (qN W) a v:=fun fuel v d ps k w=>by
 obtain ⟨a,q1,q2⟩:=cR Tryz.underlying22 (by kernel_rfl) (of_decide_eq_true (by kernel_rfl)) (fun a ⟨n,e⟩=>by rw [e]; rfl) j7 fuel v d ps k w;exact ⟨a,WB.of q1,q2⟩
end
theorem kI (B n : Nat) (hn : 1048576<n) : PB B 8 [.VU n] (.bool true):=by
 refine ⟨fun H0=>c8.go fun hf=>tt ?_⟩;exact A6 (by congr 1; simp; omega) (.refl _)
end Go.Proofs.Shf
namespace Go.Proofs.Shf
open Go.AW Go.Proofs Go.Shf
theorem fnSheafUniversal_all (B : Nat) (a : AV) (h : WB a) : PB B 7 [a] (.bool true):=by
 rcases h with ⟨l,rfl⟩ | ⟨n,hn,_,rfl⟩
 ·exact fnSheafUniversal_ok B l
 ·refine ⟨fun H0=>c7p.go fun _=>tt ?_⟩;refine (kI B n hn).go fun _=>tt ?_;exact A6 rfl (.refl _)
end Go.Proofs.Shf
