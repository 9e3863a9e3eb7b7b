/- Contracts, part 4. -/
import Derived.Test.YtphikjciekmijaaGreatF3
set_option linter.unusedVariables false
set_option linter.unusedSimpArgs false
set_option linter.unusedSectionVars false
set_option maxRecDepth 100000
open Nat (reduceEqDiff reduceAdd reduceMul reduceLeDiff reduceLT)
namespace Go.Proofs.Shf
open Go.AW Go.Proofs Go.Shf
theorem dr : fC [[1]]:=.of (by decide) (by decide) (by decide) (by decide)
theorem Gj (B : Nat) : Rd B 159 [] (T9 100):=by
 intro id s H0 H hs o;refine pQ.go fun _=>?_;refine tt ?_;refine Ai o fun GD H o=>tt ?_;refine (AY B 12).go hs o.swap fun r s H _ ⟨k,e,hk0,Qw,_⟩ hs o=>?_;subst e
 have Qw:=Qw (by omega);refine tt ?_;apply bk <;> intro q0
 ·refine tt ?_;refine (AY B 5).go hs o fun r s H _ ⟨v,e,Xl,C0,_⟩ hs o=>?_;subst e
  have C0:=C0 (by omega);refine tt ?_
  obtain ⟨v,rfl⟩:=Int.eq_ofNat_of_zero_le Xl;refine (He B v (by omega)).go hs o fun r s H _ ⟨T,e,hT⟩ hs o=>?_;subst e;refine tt ?_;refine (D3 B T hT).go fun r _ ⟨c,e,hc⟩=>?_;subst e;refine tt ?_;refine sw o.swap fun H o=>tt ?_
  have CG:=o.rc 5 0 (by simp);simp only [List.drop_zero] at CG;rw [CG];refine tt ?_;exact B4 ⟨c,rfl,hc.mono (by omega)⟩ hs o.swap
 refine tt ?_;apply bk <;> intro q1
 ·refine tt ?_;refine (D3 B [[1,1],[0,1]] (.of (by decide) (by decide) (by decide) (by decide))).go fun r _ ⟨c,e,hc⟩=>?_;subst e;refine tt ?_;refine sw o.swap fun H o=>tt ?_
  have CG:=o.rc 5 0 (by simp);simp only [List.drop_zero] at CG;rw [CG];refine tt ?_;exact B4 ⟨c,rfl,hc.mono (by omega)⟩ hs o.swap
 refine tt ?_;apply bk <;> intro q2
 ·refine tt ?_;refine (D3 B [[1,1,1],[0,1,0],[0,0,1]] (.of (by decide) (by decide) (by decide) (by decide))).go fun r _ ⟨c,e,hc⟩=>?_;subst e;refine tt ?_;refine sw o.swap fun H o=>tt ?_
  have CG:=o.rc 5 0 (by simp);simp only [List.drop_zero] at CG;rw [CG];refine tt ?_;exact B4 ⟨c,rfl,hc.mono (by omega)⟩ hs o.swap
 refine tt ?_;apply bk <;> intro q3
 ·refine tt ?_;refine (IC B 2 [0,0] [1,1] ⟨by decide,by decide,by decide,by decide⟩).go fun r _ ⟨c,e,hc⟩=>?_;subst e;refine tt ?_;refine sw o.swap fun H o=>tt ?_
  have CG:=o.rc 5 0 (by simp);simp only [List.drop_zero] at CG;rw [CG];refine tt ?_;exact B4 ⟨c,rfl,hc.mono (by omega)⟩ hs o.swap
 refine tt ?_;apply bk <;> intro q4
 ·refine tt ?_;refine (Gl B).go hs o fun r s H _ ⟨T,e,hT⟩ hs o=>?_;subst e;refine tt ?_;refine (H9 B T hT).go fun r _ ⟨c,e,hc⟩=>?_;subst e;refine tt ?_;refine sw o.swap fun H o=>tt ?_
  have CG:=o.rc 5 0 (by simp);simp only [List.drop_zero] at CG;rw [CG];refine tt ?_;exact B4 ⟨c,rfl,hc.mono (by omega)⟩ hs o.swap
 refine tt ?_;apply bk <;> intro q5
 ·refine tt ?_;refine (AY B 3).go hs o fun r s H _ ⟨v,e,Xl,C0,_⟩ hs o=>?_;subst e
  have C0:=C0 (by omega)
  obtain ⟨v,rfl⟩:=Int.eq_ofNat_of_zero_le Xl
  have wv : IntKind.i64.wrap (1+(v : Int))=((1+v : Nat) : Int):=by rw [wrap_i64 (by omega) (by omega)]; omega
  generalize hm : 1+v=m at *;refine tw wv ?_;refine AP o fun Bt H o=>tt ?_;refine AD [2,3] (G:=Nat × List (List Int)) (fun i g=>[(4,some (.buf g.1 g.2.length)),(5,some (.int .i64 (i : Int)))]) (fun i g H=>g.2.length=i∧(∀ r,r∈g.2→r=List.replicate m 1)∧A9 H0 H [(g.1,AG.cells 1 (g.2.map iL) 0),(id,s.obj),(GD,AG.cells 5 [.int .i64 0,.A0,.A0,.A0,.A0] 0)]) m (Bt,[]) ⟨rfl,by simp,o⟩ rfl ?_;clear o
  rintro i ⟨Bt,T⟩ H hi ⟨hT,jt,o⟩;dsimp only at hT jt o;refine tt ?_;apply bk <;> intro h1
  ·have AU:=A6 h1
   have wi:=ws i;refine tt ?_;refine AP o fun ik H o=>tt ?_;refine AD [2,3,4,5] (G:=Nat × List Int) (fun j g=>[(6,some (.buf g.1 g.2.length)),(7,some (.int .i64 (j : Int)))]) (fun j g H=>g.2=List.replicate j 1∧A9 H0 H [(g.1,AG.cells 1 (g.2.map iI) 0),(Bt,AG.cells 1 (T.map iL) 0),(id,s.obj),(GD,AG.cells 5 [.int .i64 0,.A0,.A0,.A0,.A0] 0)]) m (ik,[]) ⟨rfl,o⟩ rfl ?_;clear o
   rintro j ⟨ik,row⟩ H hj ⟨Dv,o⟩;dsimp only at Dv
   have hr : row.length=j:=by rw [Dv]; simp
   dsimp only at o;refine tt ?_;apply bk <;> intro h2
   ·have Aq:=A6 h2
    have wj:=ws j;refine tt ?_;refine BB _ o rfl rfl (by simp only [AN]; omega) fun ik H row2 er2 G2 o=>?_;refine tw wj ?_;exact A4 (ik,row2) Aq ⟨by show row2=_; rw [er2,Dv,← List.replicate_succ'],o⟩ rfl
   ·have Aq:=A7 h2;refine tt ?_;refine Am o rfl fun H o=>tt ?_;refine BB row o rfl rfl (by simp only [AN]; omega) fun Bt H T2 eT pF o=>?_;refine tw wi ?_;refine A4 (Bt,T2) AU ⟨by show T2.length=_; omega,fun r CG=>?_,o⟩ rfl;dsimp only at CG;rw [eT] at CG
    rcases List.mem_append.mp CG with h | h
    ·exact jt r h
    ·rw [List.mem_singleton] at h; subst h; rw [Dv,show j=m by omega]
  have AU:=A7 h1
  have hTm : T.length=m:=by omega
  have GX : ∀ i j,i<T.length→j<T.length→Gm T i j=1:=fun i j hi hj=>by
   rw [Gm,jt _ (AE.mpr ⟨i,hi,rfl⟩),Go.AW.gE,List.getElem?_replicate,if_pos (by omega)]; rfl
  have hTP : fC T:=⟨by omega,fun x hx=>by rw [jt _ (AE.mpr ⟨x,hx,rfl⟩)]; simp; omega,fun i hi=>GX i i hi hi,fun i j k hi hj hk _ _=>GX i k hi hk⟩;refine tt ?_;refine Am o rfl fun H o=>tt ?_;refine (D3 B T hTP).go fun r _ ⟨c,e,hc⟩=>?_;subst e;refine tt ?_;refine sw o.swap fun H o=>tt ?_
  have CG:=o.rc 5 0 (by simp);simp only [List.drop_zero] at CG;rw [CG];refine tt ?_;exact B4 ⟨c,rfl,hc.mono (by omega)⟩ hs o.swap
 refine tt ?_;apply bk <;> intro q6
 ·refine tt ?_;refine (IC B 3 [0,1,0] [1,2,2] ⟨by decide,by decide,by decide,by decide⟩).go fun r _ ⟨c,e,hc⟩=>?_;subst e;refine tt ?_;refine sw o.swap fun H o=>tt ?_
  have CG:=o.rc 5 0 (by simp);simp only [List.drop_zero] at CG;rw [CG];refine tt ?_;exact B4 ⟨c,rfl,hc.mono (by omega)⟩ hs o.swap
 refine tt ?_;apply bk <;> intro q7
 ·refine tt ?_;refine (TF B).go fun r _ ⟨c,e,hc⟩=>?_;subst e;refine tt ?_;refine sw o.swap fun H o=>tt ?_
  have CG:=o.rc 5 0 (by simp);simp only [List.drop_zero] at CG;rw [CG];refine tt ?_;exact B4 ⟨c,rfl,hc.mono (by omega)⟩ hs o.swap
 refine tt ?_;apply bk <;> intro q8
 ·refine tt ?_;refine (Gl B).go hs o fun r s H _ ⟨T,e,hT⟩ hs o=>?_;subst e;refine tt ?_;refine (H9 B T hT).go fun r _ ⟨c,e,hc⟩=>?_;subst e;refine tt ?_;refine (D3 B [[1]] dr).go fun r _ ⟨d,e,hd⟩=>?_;subst e;refine tt ?_;refine (MU B 4 16 (by omega) (by omega) c d hc hd).go fun r _ ⟨c,e,hc⟩=>?_;subst e;refine tt ?_;refine (YR B (4+16+4*16) (by omega) c hc).go fun r _ ⟨c,e,hc⟩=>?_;subst e;refine tt ?_;refine sw o.swap fun H o=>tt ?_
  have CG:=o.rc 5 0 (by simp);simp only [List.drop_zero] at CG;rw [CG];refine tt ?_;exact B4 ⟨c,rfl,hc.mono (by omega)⟩ hs o.swap
 refine tt ?_;apply bk <;> intro q9
 ·refine tt ?_;refine (Gl B).go hs o fun r s H _ ⟨T,e,hT⟩ hs o=>?_;subst e;refine tt ?_;refine (H9 B T hT).go fun r _ ⟨c,e,hc⟩=>?_;subst e;refine tt ?_;refine (D3 B [[1]] dr).go fun r _ ⟨d,e,hd⟩=>?_;subst e;refine tt ?_;refine (MU B 4 16 (by omega) (by omega) c d hc hd).go fun r _ ⟨c,e,hc⟩=>?_;subst e;refine tt ?_;refine sw o.swap fun H o=>tt ?_
  have CG:=o.rc 5 0 (by simp);simp only [List.drop_zero] at CG;rw [CG];refine tt ?_;exact B4 ⟨c,rfl,hc.mono (by omega)⟩ hs o.swap
 refine tt ?_;apply bk <;> intro q10
 ·refine tt ?_;refine (AY B 2).go hs o fun r s H _ ⟨v,e,Xl,C0,_⟩ hs o=>?_;subst e
  have C0:=C0 (by omega)
  obtain ⟨v,rfl⟩:=Int.eq_ofNat_of_zero_le Xl
  have wv : IntKind.i64.wrap (2+(v : Int))=((2+v : Nat) : Int):=by rw [wrap_i64 (by omega) (by omega)]; omega
  refine tw wv ?_;refine (He B (2+v) (by omega)).go hs o fun r s H _ ⟨T,e,hT⟩ hs o=>?_;subst e;refine tt ?_;refine (D3 B T hT).go fun r _ ⟨c,e,hc⟩=>?_;subst e;refine tt ?_;refine sw o.swap fun H o=>tt ?_
  have CG:=o.rc 5 0 (by simp);simp only [List.drop_zero] at CG;rw [CG];refine tt ?_;exact B4 ⟨c,rfl,hc.mono (by omega)⟩ hs o.swap
 refine tt ?_;refine (AY B 2).go hs o fun r s H _ ⟨v,e,Xl,C0,_⟩ hs o=>?_;subst e
 have C0:=C0 (by omega)
 obtain ⟨v,rfl⟩:=Int.eq_ofNat_of_zero_le Xl
 have wv : IntKind.i64.wrap (2+(v : Int))=((2+v : Nat) : Int):=by rw [wrap_i64 (by omega) (by omega)]; omega
 obtain ⟨n,hn⟩ : ∃ n,2+v=n:=⟨_,rfl⟩;rw [hn] at wv
 have hn23 : n=2∨n=3:=by omega
 clear Xl C0 hn;refine tw wv ?_;refine AP o fun f H o=>tt ?_;refine AP o fun t H o=>tt ?_;refine (AY B 4).go hs (o.pull [_,_]) fun r s H _ ⟨q,e,pD,Pa,_⟩ hs o=>?_;subst e
 have Pa:=Pa (by omega)
 obtain ⟨q,rfl⟩:=Int.eq_ofNat_of_zero_le pD;refine tt ?_
 refine E3 [0,2,8] (G:=Src × (Nat × List Int) × (Nat × List Int) × Nat) (fun g=>[(9,some (.buf g.2.1.1 g.2.1.2.length)),(10,some (.buf g.2.2.1.1 g.2.2.1.2.length)),(11,some (.int .i64 (g.2.2.2 : Int)))])
  (fun m g H=>m=g.2.2.2∧g.1.Ok∧g.2.1.2.length+g.2.2.2≤3∧g.2.2.1.2.length=g.2.1.2.length∧(∀ e,e<g.2.1.2.length→0≤g.2.1.2.getD e default∧g.2.1.2.getD e default<g.2.2.1.2.getD e default∧g.2.2.1.2.getD e default<n) ∧
   A9 H0 H [(id,g.1.obj),(g.2.2.1.1,AG.cells 1 (g.2.2.1.2.map iI) 0),(g.2.1.1,AG.cells 1 (g.2.1.2.map iI) 0),(GD,AG.cells 5 [.int .i64 0,.A0,.A0,.A0,.A0] 0)]) q (s,(f,[]),(t,[]),q) ⟨rfl,hs,by simp only [List.length_nil]; omega,rfl,fun e he=>by simp at he,o⟩ rfl ?_
 clear o hs pD Pa
 rintro m ⟨s,⟨f,F⟩,⟨t,T⟩,q⟩ H ⟨hm,hs,hF,hT,hE,o⟩;dsimp only at hm;subst hm;dsimp only at hs hF hT hE o
 have wn : IntKind.i64.wrap ((n : Int) - 1)=((n - 1 : Nat) : Int):=W0 (by omega) (by omega);refine tt ?_;apply bk <;> intro h1
 ·have AU:=A6 h1
  have wm : IntKind.i64.wrap ((m : Int) - 1)=((m - 1 : Nat) : Int):=W0 (by omega) (by omega);refine tw wn ?_;refine (AY B ((n - 1 : Nat) : Int)).go hs o fun r s H _ ⟨x,e,hx0,oS,_⟩ hs o=>?_;subst e
  have oS:=oS (by omega)
  obtain ⟨x,rfl⟩:=Int.eq_ofNat_of_zero_le hx0;refine tt ?_;refine BB _ (o.pull [_,_]) rfl rfl (by simp only [AN]; omega) fun f H F2 eF pG o=>?_
  have w1 : IntKind.i64.wrap ((x : Int)+1)=((x+1 : Nat) : Int):=Oi (by omega)
  have w2 : IntKind.i64.wrap (((n - 1 : Nat) : Int) - (x : Int))=((n - 1 - x : Nat) : Int):=by rw [wrap_i64 (by omega) (by omega)]; omega
  try simp only [go_sem,↓reduceIte,reduceEqDiff,reduceAdd,reduceMul,reduceLeDiff,reduceLT,wn,w1,w2]
  refine (AY B ((n - 1 - x : Nat) : Int)).go hs o.swap fun r s H _ ⟨y,e,hy0,xM,_⟩ hs o=>?_;subst e
  have xM:=xM (by omega)
  obtain ⟨y,rfl⟩:=Int.eq_ofNat_of_zero_le hy0
  have w3 : IntKind.i64.wrap (((x+1 : Nat) : Int)+(y : Int))=((x+1+y : Nat) : Int):=by rw [wrap_i64 (by omega) (by omega)]; omega
  refine tw w3 ?_;refine BB _ (o.pull [_,_]) rfl rfl (by simp only [AN]; omega) fun t H T2 eT pF o=>?_;refine tw wm ?_;refine CJ (m - 1) (s,(f,F2),(t,T2),m - 1) (by omega) ⟨rfl,hs,by show F2.length+(m - 1)≤3; omega,by show T2.length=F2.length; omega,fun e he=>?_, ?_⟩ rfl
  ·show 0≤F2.getD e default∧F2.getD e default<T2.getD e default∧T2.getD e default<n
   dsimp only at he
   by_cases h2 : e<F.length
   ·have e1 : F2.getD e default=F.getD e default:=by rw [eF,Go.AW.gE,List.getElem?_append_left h2,← Go.AW.gE]
    have e2 : T2.getD e default=T.getD e default:=by rw [eT,Go.AW.gE,List.getElem?_append_left (by omega),← Go.AW.gE]
    rw [e1,e2]; exact hE e h2
   ·have e0 : e=F.length:=by omega
    have e1 : F2.getD e default=(x : Int):=by rw [eF,e0]; simp
    have e2 : T2.getD e default=((x+1+y : Nat) : Int):=by rw [eT,e0,← hT]; simp
    rw [e1,e2]; omega
  ·exact o.pm
 ·have AU:=A7 h1;refine tt ?_;refine Am o.swap rfl fun H o=>tt ?_;refine Am o.swap rfl fun H o=>tt ?_;refine (IC B n F T ⟨by omega,by omega,hT,hE⟩).go fun r _ ⟨c,e,hc⟩=>?_;subst e;refine tt ?_;refine sw o.swap fun H o=>tt ?_
  have CG:=o.rc 5 0 (by simp);simp only [List.drop_zero] at CG;rw [CG];refine tt ?_;exact B4 ⟨c,rfl,hc.mono (by omega)⟩ hs o.swap
def rF (r : AV) : Prop:=∃ c : Ax,r=.agg c.cells∧c.Sh 20000∧c.Shape
theorem E1 (B : Nat) (mo ma : Int) : Rd B 51 [iI mo,iI ma] rF:=by
 intro id s H0 H hs o;refine qg.go fun _=>?_;refine tt ?_;refine Ai o fun Ba H o=>tt ?_;refine AD [0,1,2,6] (G:=Src) (fun k _=>[(7,some (.int .i64 (k : Int)))]) (fun k s H=>s.Ok∧A9 H0 H [(id,s.obj),(Ba,AG.cells 5 [.int .i64 0,.A0,.A0,.A0,.A0] 0)]) 12 s ⟨hs,o.swap⟩ rfl ?_;clear o hs
 rintro k s H hk ⟨hs,o⟩
 replace hs : s.Ok:=hs
 replace o : A9 H0 H [(id,s.obj),(Ba,AG.cells 5 [.int .i64 0,.A0,.A0,.A0,.A0] 0)]:=o;refine tt ?_;refine ⟨fun h1=>At.mk ?_,fun h1=>At.mk ?_⟩
 ·have AU:=A6 h1
  have wk1:=ws k;refine tt ?_;refine (Gj B).go hs o fun r s H _ ⟨c0,e,xj⟩ hs o=>?_;subst e;refine tt ?_;refine Ai o fun Cm H o=>tt ?_;refine sw o fun H o=>tt ?_;refine (AY B 5).go hs o.swap fun r s H _ ⟨v,e,_⟩ hs o=>?_;subst e;refine tt ?_;refine ⟨fun h2=>At.mk ?_,fun h2=>At.mk ?_⟩
  case' refine_1 =>
   refine tt ?_;refine ⟨⟨_,_,o.tl.h0⟩,AO o.tl (by simp) ?_⟩;refine tt ?_;refine (Gj B).IE hs o fun r s H _ ⟨c2,e,gR⟩ hs o hz=>⟨hz, ?_⟩;subst e;refine tt ?_;refine ID.go' (MO B 100 100 (by omega) c0 c2 xj gR) o fun X1 p1 H ⟨a,b,i,d,Xs,ob,e1,hX,e2⟩ o _=>?_;subst e1 e2
   have hq:=Ko xj gR
   generalize BW c0 c2=q at hX hq o ⊢;refine tt ?_
   have o : A9 H0 H ((Cm,AG.cells 5 [iI c0.AF,iL c0.AB,iL c0.to,iL c0.Ac,B5 c0.comp] 0)::(d,AG.cells 1 Xs 0)::(a,AG.cells 1 (q.AB.map iI) 0)::(b,AG.cells 1 (q.to.map iI) 0)::(i,AG.cells 1 (q.Ac.map iI) 0)::(id,s.obj)::(Ba,AG.cells 5 [.int .i64 0,.A0,.A0,.A0,.A0] 0)::ob):=o.pm;refine sw o fun H o=>tt ?_
   have Iw:=hX.len
   have od : A9 H0 H ((d,AG.cells 1 Xs 0)::(ob++[(Cm,AG.cells 5 [iI q.AF,.buf a q.AB.length,.buf b q.to.length,.buf i q.Ac.length,.buf d Xs.length] 0),(a,AG.cells 1 (q.AB.map iI) 0),(b,AG.cells 1 (q.to.map iI) 0),(i,AG.cells 1 (q.Ac.map iI) 0),(id,s.obj),(Ba,AG.cells 5 [.int .i64 0,.A0,.A0,.A0,.A0] 0)])):=o.pm;refine EA hX [] H od fun H o=>?_;simp only [List.nil_append] at o
   have o : A9 H0 H [(Cm,AG.cells 5 [iI q.AF,.buf a q.AB.length,.buf b q.to.length,.buf i q.Ac.length,.buf d Xs.length] 0),(d,AG.cells 1 (q.comp.map iL) 0),(a,AG.cells 1 (q.AB.map iI) 0),(b,AG.cells 1 (q.to.map iI) 0),(i,AG.cells 1 (q.Ac.map iI) 0),(id,s.obj),(Ba,AG.cells 5 [.int .i64 0,.A0,.A0,.A0,.A0] 0)]:=o.pm;refine B6 4 o rfl Iw fun H o=>?_;have o:=s1 o;refine B6 1 o rfl rfl fun H o=>?_;have o:=s1 o;refine B6 2 o rfl rfl fun H o=>?_;have o:=s1 o;refine B6 3 o rfl rfl fun H o=>AX ?_;have o:=s1 o
   have o:=o.swap
   obtain ⟨c,rfl⟩ : ∃ c,c=q:=⟨_,rfl⟩
   have hc : c.Good 200:=hq
  case' refine_2 =>
   refine tt ?_;refine AX ?_
   obtain ⟨c,rfl⟩ : ∃ c,c=c0:=⟨_,rfl⟩
   have hc : c.Good 200:=xj.mono (show 100≤200 by omega)
  all_goals
   try clear h2
   refine tt ?_;refine (AY B 8).go hs o fun r s H _ ⟨v2,e,_⟩ hs o=>?_;subst e;refine tt ?_;refine ⟨fun h3=>At.mk ?_,fun h3=>At.mk ?_⟩
   case' refine_1 =>
    refine tt ?_;refine ⟨⟨_,_,o.tl.h0⟩,AO o.tl (by simp) ?_⟩;refine tt ?_;refine (Gj B).IE hs o fun r s H _ ⟨c2,e,gR⟩ hs o hz=>⟨hz, ?_⟩;subst e;refine tt ?_;refine (O3 B 200 100 (by omega) (by omega) (by omega) c c2 hc gR).go fun r _ ⟨q,e,hq⟩=>?_;subst e;refine tt ?_;refine sw o.swap fun H o=>?_
    have o:=o.swap
    have hc:=hq
    obtain ⟨c,rfl⟩ : ∃ c,c=q:=⟨_,rfl⟩
    replace hc : c.Good 20000:=hc
   case' refine_2 =>
    have hc:=hc.mono (show 200≤20000 by omega)
   all_goals
    try clear h3
    refine tt ?_;refine AH o.tl (by simp) (tt ?_);refine ⟨fun g1=>At.mk ?_,fun g1=>At.mk ?_⟩
    case' refine_1 =>
     refine tw g1 ?_;refine AH o.tl (by simp) (tt ?_);refine ⟨fun g2=>At.mk ?_,fun g2=>At.mk ?_⟩
     case' refine_1 =>
      refine tw g2 ?_;refine AO o.tl (by simp) (tt ?_);refine (N8 B c).go fun _=>tt ?_;refine ⟨fun g3=>At.mk ?_,fun g3=>At.mk ?_⟩
      case refine_1 =>
       have KX:=Gz.mp g3;refine tt ?_;refine AO o.tl (by simp) (tt ?_);refine sw (o.pull [_,_]) fun H o=>tt ?_
       have CG:=o.rc 5 0 (by simp);simp only [List.drop_zero] at CG;rw [CG];refine tt ?_;exact B4 ⟨c,rfl,hc.1,hc.2.shape hc.1 KX.1 KX.2⟩ hs o.swap
    all_goals
     try (try simp only [go_sem,↓reduceIte,reduceEqDiff,reduceAdd,reduceMul,reduceLeDiff,reduceLT,g1])
     try (try simp only [go_sem,↓reduceIte,reduceEqDiff,reduceAdd,reduceMul,reduceLeDiff,reduceLT,g2])
     try (try simp only [go_sem,↓reduceIte,reduceEqDiff,reduceAdd,reduceMul,reduceLeDiff,reduceLT,wk1])
     exact A4 s (by omega) ⟨hs,o.swap.tl⟩ rfl
 ·refine tt ?_;refine (KG B [[1]] dr).go fun r _ e=>?_;subst e
  have hc:=SA dr
  have Pe:=hc.2.shape hc.1 (by show ((([[1]] : List (List Int)).length : Nat) : Int)≤8; decide) (by have:=hc.1.ml; omega)
  generalize Xh [[1]]=c at hc Pe;refine tt ?_;refine sw o.swap fun H o=>tt ?_
  have CG:=o.rc 5 0 (by simp);simp only [List.drop_zero] at CG;rw [CG];refine tt ?_;exact B4 ⟨c,rfl,hc.1.mono (by omega),Pe⟩ hs o.swap
theorem Kl (B : Nat) (c : Ax) (s : c.Shape) (x y : Int) : PB B 201 [.agg c.cells,iI x,iI y] (iL (Ir c x y)):=by
 refine ⟨fun H0=>uk.go fun _=>?_⟩
 have o : A9 H0 H0 []:=.nil _
 have hm:=s.m
 have Jc:=s.L5;refine tt ?_;refine Az iI o fun id H o=>tt ?_
 refine AD [1,2,3] (G:=Nat × List Int) (fun k g=>[(7,some (.buf g.1 g.2.length)),(8,some (.int .i64 (k : Int)))])
  (fun k g H=>g.2=HU c x y k∧A9 H0 H [(g.1,.cells 1 (g.2.map iI) 0)]) c.AB.length (id,[]) ⟨rfl,o⟩ rfl ?_
 clear o
 rintro k ⟨id,out⟩ H hk ⟨B2,o⟩;dsimp only at B2 o
 have houl : out.length≤k:=by rw [B2]; exact K9 _ _ _
 refine tt ?_;apply bk <;> intro h1
 ·have AU : k<c.AB.length:=A6 h1
  have w1:=ws k;refine tt ?_;refine ⟨AU, ?_⟩
  by_cases e1 : c.AB.getD k default=x
  ·rw [decide_eq_true e1];refine tt ?_;refine ⟨by omega, ?_⟩
   by_cases e2 : c.to.getD k default=y
   ·rw [decide_eq_true e2];refine tt ?_;refine Ae (k : Int) o rfl rfl (by simp only [AN]; omega) fun z H o=>?_;refine tw w1 ?_;exact A4 (z,out++[(k : Int)]) AU ⟨by rw [B2,To e1 e2],o⟩ rfl
   ·rw [decide_eq_false e2];refine tw w1 ?_;exact A4 (id,out) AU ⟨by rw [B2,Kk fun h=>e2 h.2],o⟩ rfl
  ·rw [decide_eq_false e1];refine tw w1 ?_;exact A4 (id,out) AU ⟨by rw [B2,Kk fun h=>e1 h.1],o⟩ rfl
 ·have AU:=A7 h1
  have ek : k=c.AB.length:=by omega
  rw [ek,GW] at B2;refine tt ?_;refine Am o rfl fun H o=>tt ?_;exact A5 (by rw [B2]) o.sub
theorem U3 (B : Nat) (c : Ax) (hs : c.Shape) (f : Int) (hf : 0≤f∧f.toNat<c.AB.length) : PB B 202 [.agg c.cells,iI f] (.bool (decide (ix c.Ac (ix c.AB f)=f))):=by
 refine ⟨fun H0=>pU.go fun _=>?_⟩
 have hx:=hs.C3 hf.2
 have TJ:=hs.il;refine tt ?_;exact ⟨hf,⟨hx.1,by omega⟩,A5 rfl (.refl _)⟩
def nh (r : AV) : Prop:=∃ l : List Int,r=iL l
def rT (r : AV) : Prop:=∃ b : Bool,r=.bool b
theorem QJ (B : Nat) (c : Ax) (hc : c.Shape) : Dt B 302 [.agg c.cells] nh:=by
 intro H0;refine kz.go fun _=>?_
 have sm:=hc.m
 have o : A9 H0 H0 []:=.nil _;refine tt ?_;refine Az iI o fun id H o=>tt ?_;refine AD [1] (G:=Nat × List Int) (fun k g=>[(3,some (.buf g.1 g.2.length)),(4,some (.int .i64 (k : Int)))]) (fun k g H=>g.2.length≤k∧A9 H0 H [(g.1,.cells 1 (g.2.map iI) 0)]) c.AB.length (id,[]) ⟨by simp,o⟩ rfl ?_;clear o
 rintro k ⟨id,out⟩ H hk ⟨hl,o⟩;dsimp only at hl o;refine tt ?_;apply bk <;> intro h1
 ·have AU:=A6 h1
  have w:=ws k;refine tt ?_;refine (U3 B c hc k ⟨by omega,by show (k : Int).toNat<_; omega⟩).go fun _=>tt ?_;apply bk <;> intro h2
  ·refine tt ?_;refine Ae (k : Int) o rfl rfl (by simp only [AN]; omega) fun id H o=>?_;refine tw w ?_;exact A4 (_,_) AU ⟨by simp; omega,o⟩ rfl
  ·refine tw w ?_;exact A4 (_,_) AU ⟨by simp only; omega,o⟩ rfl
 ·refine tt ?_;refine Am o rfl fun H o=>tt ?_;exact B0 ⟨out,rfl⟩ o.sub
theorem Ro (B : Nat) (c d : Ax) (hc : c.Shape) : Dt B 292 [.agg c.cells,.agg d.cells] rT:=by
 intro H0;refine ua.go fun _=>?_;refine tt ?_;refine (QJ B c hc).go fun r _ ⟨l,e⟩=>?_;subst e;refine tt ?_
 cases h : decide ((l.length : Int)≤8)
 ·refine tt ?_;exact B0 ⟨_,rfl⟩ (.refl _)
 ·refine tt ?_;exact B0 ⟨_,rfl⟩ (.refl _)
theorem Rs (B : Nat) (c d : Ax) (hc : c.Shape) (hd : d.Shape) (ob : List Int) : Dt B 310 [.agg c.cells,.agg d.cells,iL ob] rT:=by
 intro H0;refine si.go fun _=>?_
 have sm:=hc.m
 have tl:=hc.L5;refine tt ?_;refine AD [2,3,4] (G:=Unit) (fun k _=>[(7,some (.int .i64 (k : Int)))]) (fun k _ H'=>H'=H0) c.AB.length () rfl rfl ?_
 rintro k _ H hk rfl;refine tt ?_;apply bk <;> intro h1
 ·have AU:=A6 h1
  have w:=ws k
  have f0:=(hc.C3 (f:=(k : Int)) AU).1
  have t0:=(hc.DJ (f:=(k : Int)) AU).1
  have f0 : 0≤c.AB.getD k default:=f0
  have t0 : 0≤c.to.getD k default:=t0;refine tt ?_
  (repeat (refine ⟨by first | exact AU | exact (by omega : k<c.to.length), ?_⟩))
  refine tt ?_
  by_cases g1 : c.AB.getD k default<(ob.length : Int)
  ·rw [decide_eq_true g1];refine tt ?_
   by_cases g2 : c.to.getD k default<(ob.length : Int)
   ·rw [decide_eq_true g2];refine tt ?_;refine ⟨⟨f0,by omega⟩,⟨t0,by omega⟩, ?_⟩;refine ⟨_,(Kl B d hd _ _).run,tt ?_⟩;apply bk <;> intro g3
    ·refine tt ?_;exact B0 ⟨_,rfl⟩ (.refl _)
    ·refine tw w ?_;exact A4 () AU rfl rfl
   ·rw [decide_eq_false g2];refine tw w ?_;exact A4 () AU rfl rfl
  ·rw [decide_eq_false g1];refine tw w ?_;exact A4 () AU rfl rfl
 ·refine tt ?_;exact B0 ⟨_,rfl⟩ (.refl _)
theorem dT5 {p : Decidable True} : @decide True p=true:=@decide_eq_true True p trivial
theorem JO (B : Nat) (a : List (List Int)) : PB B 14 [B5 a,B5 a] (.bool true):=by
 refine ⟨fun H0=>c14.go fun ⟨hf,_⟩=>?_⟩
 have hl:=AZ hf;simp only [AN] at hl;refine tt ?_;refine ⟨fun e=>(by simp at e),fun _=>At.mk ?_⟩;refine tt ?_;refine AD [0,1] (G:=Unit) (fun k _=>[(5,some (.int .i64 (k : Int)))]) (fun k _ H=>H=H0) a.length () rfl rfl ?_
 rintro k _ H hk rfl;refine tt ?_;apply bk <;> intro h1
 ·have AU : k<a.length:=A6 h1
  have w:=ws k;refine tt ?_;refine ⟨AU,AU,tt ?_⟩;refine ⟨_,(EK B _ _).run, ?_⟩;rw [Av rfl];refine tw w ?_;exact A4 () (by omega) rfl rfl
 ·refine tt ?_;exact A5 rfl (.refl _)
theorem Rx (B : Nat) (c : Ax) : PB B 26 [.agg c.cells,.agg c.cells] (.bool true):=by
 refine ⟨fun H0=>c26.go fun _=>?_⟩;refine td ?_;refine (EK B _ _).go fun _=>?_;rw [Av rfl];refine td ?_;refine (EK B _ _).go fun _=>?_;rw [Av rfl];refine td ?_;refine (EK B _ _).go fun _=>?_;rw [Av rfl];refine td ?_;refine (JO B _).go fun _=>?_;refine td ?_;exact A5 rfl (.refl _)
instance : Inhabited Ax:=⟨⟨0,[],[],[],[]⟩⟩
abbrev cpP (c : Ax) : AV:=.ptr c.cells
instance : One cpP:=⟨fun _=>rfl,fun _=>rfl⟩
theorem UG (B : Nat) (l : List Ax) : PB B 236 [mL cpP l] (.bool (dec (∀ c,c∈l→c.Is))):=by
 refine ⟨fun H0=>vk.go fun ⟨hf,_⟩=>?_⟩
 have hl:=AZ hf;simp only [AN] at hl;refine tt ?_;refine AD [5,6] (fun k _=>[(7,some (.int .i64 (k : Int)))]) (fun k _ H=>H=H0∧∀ i,i<k→(l.getD i default).Is) l.length () ⟨rfl,by simp⟩ rfl ?_
 rintro k _ H hk ⟨rfl,Au⟩;refine tt ?_;apply bk <;> intro h1
 ·have AU:=dd h1
  have w1:=ws k;refine tt ?_;refine ⟨AU, ?_⟩;refine (J1 ..).go fun _=>tt ?_;apply bk <;> intro h2
  ·have Aq:=dd h2;refine tt ?_;refine A5 ?_ (.refl _);rw [Ad]; intro h;exact Aq (h _ (AE.mpr ⟨k,AU,rfl⟩))
  ·have Aq:=dd h2;refine tw w1 ?_
   exact A4 () AU ⟨rfl,fun i hi=>by
    by_cases e : i=k
    ·subst e; exact Aq
    ·exact Au i (by omega)⟩ rfl
 ·have AU:=dd h1;refine tt ?_;refine A5 ?_ (.refl _);rw [Av]; intro c hc
  obtain ⟨i,hi,rfl⟩:=AE.mp hc;exact Au i (by omega)
end Go.Proofs.Shf
namespace Go.Shf
open Go.AW
section
variable {p : PF} {a b x y : Int}
theorem Ax.Shape.v9 {c : Ax} (h : c.Shape) (ha : c.DB a) : 0≤a∧a.toNat<c.to.length:=by
 have:=h.L5
 obtain ⟨h1,h2⟩:=ha;omega
theorem Ax.Shape.mZ {c : Ax} (h : c.Shape) (hx : c.ES x) : 0≤x∧x.toNat<c.Ac.length:=by
 have:=h.il
 obtain ⟨h1,h2⟩:=hx;omega
theorem Ax.Shape.pO {c : Ax} (h : c.Shape) (ha : c.DB a) : c.ES (ix c.AB a):=h.C3 ha.2
theorem Ax.Shape.qR {c : Ax} (h : c.Shape) (ha : c.DB a) : c.ES (ix c.to a):=h.DJ ha.2
end
end Go.Shf
namespace Go.Shf
open Go.AW
section
variable {c : Ax} {a b : Int}
theorem Ax.Shape.qM (h : c.Shape) (ha : c.DB a) (hb : c.DB b) : (ix c.to a=ix c.AB b∧c.DB (ix (ix c.comp a) b))∨ix (ix c.comp a) b=-1:=by
 by_cases e : ix c.to a=ix c.AB b
 ·left
  have q:=h.yes a.toNat b.toNat ha.2 hb.2 e
  have q : (0≤ix (ix c.comp a) b∧ix (ix c.comp a) b<c.AB.length)∧_:=q;exact ⟨e,q.1.1,by have:=q.1; omega⟩
 ·right
  exact h.R6 a.toNat b.toNat ha.2 hb.2 e
theorem Ax.Shape.oA (h : c.Shape) (ha : c.DB a) : 0≤a∧a.toNat<c.comp.length:=by
 have:=h.cl
 obtain ⟨h1,h2⟩:=ha;omega
theorem Ax.Shape.nA (h : c.Shape) (ha : c.DB a) : (ix c.comp a).length=c.AB.length:=h.row a.toNat ha.2
theorem Ax.Shape.idA (h : c.Shape) {x : Int} (hx : c.ES x) : c.DB (ix c.Ac x)∧ix c.AB (ix c.Ac x)=x∧ix c.to (ix c.Ac x)=x:=h.HJ hx
end
end Go.Shf
namespace Go.Proofs.Shf
open Go.AW Go.Proofs Go.Shf
def iU (c d : Ax) (ob : List Int) (H0 : AA) (id : Nat) (l : Ob) : Ak:=fun r H'=>∃ (b : Bool) (ar : List Int),r=.bool b∧Wl c d ob ar∧A9 H0 H' ((id,.cells 1 (ar.map iI) 0)::l)
theorem Se (B : Nat) {c d : Ax} (hc : c.Shape) (hd : d.Shape) {ob ar : List Int} (t : Wl c d ob ar) (id : Nat) (l : Ob) (H0 H : AA) (o : A9 H0 H ((id,.cells 1 (ar.map iI) 0)::l)) :
  CB B 320 [.agg c.cells,.agg d.cells,.buf id c.AB.length] H (iU c d ob H0 id l):=by
 refine oq.go fun _=>?_
 have sm:=hc.m;refine tt ?_
 refine E3 [2,3,4] (G:=Bool × List Int) (fun g=>[(7,some (.bool g.1))]) (fun m g H=>(m=aM g.2+(if g.1=true then 1 else 0)∧Wl c d ob g.2)∧A9 H0 H ((id,.cells 1 (g.2.map iI) 0)::l))
  (aM ar+1) (true,ar) ⟨⟨by simp,t⟩,o⟩ rfl ?_
 clear o t ar
 rintro m ⟨more,ar⟩ H ⟨⟨hm,t⟩,o⟩;dsimp only at hm t o
 cases more
 ·refine tt ?_;exact ⟨H,.refl _,true,ar,rfl,t,o⟩
 rw [if_pos rfl] at hm;refine tt ?_
 obtain ⟨n0,Xj⟩ : ∃ n0,aM ar=n0:=⟨_,rfl⟩;rw [Xj] at hm
 refine AD [2,3,4] (G:=Bool × List Int) (fun a g=>[(7,some (.bool g.1)),(8,some (.int .i64 (a : Int)))])
  (fun a g H=>(aM g.2+(if g.1=true then 1 else 0)≤n0∧Wl c d ob g.2)∧A9 H0 H ((id,.cells 1 (g.2.map iI) 0)::l)) c.AB.length (false,ar) ⟨⟨by simp [Xj],t⟩,o⟩ rfl ?_
 clear o t Xj ar
 rintro a ⟨more,ar⟩ H ha ⟨⟨V7,t⟩,o⟩;dsimp only at V7 t o;refine tt ?_;apply bk <;> intro h1
 rotate_left
 ·refine tt ?_;exact CJ (aM ar+(if more=true then 1 else 0)) (more,ar) (by omega) ⟨⟨rfl,t⟩,o⟩ rfl
 have AU:=A6 h1
 have w1:=ws a
 have Ke : c.DB a:=⟨by omega,AU⟩
 have ci:=(hc.oA Ke).2
 have cj : (c.comp.getD a default).length=c.AB.length:=hc.nA Ke;refine tt ?_
 refine AD [2,3,4,8] (G:=Bool × List Int) (fun b g=>[(7,some (.bool g.1)),(9,some (.int .i64 (b : Int)))])
  (fun b g H=>(aM g.2+(if g.1=true then 1 else 0)≤n0∧Wl c d ob g.2)∧A9 H0 H ((id,.cells 1 (g.2.map iI) 0)::l)) c.AB.length (more,ar) ⟨⟨V7,t⟩,o⟩ rfl ?_
 clear o t V7
 rintro b ⟨more,ar⟩ H hb ⟨⟨V7,t⟩,o⟩;dsimp only at V7 t o
 have hl:=t.len;refine tt ?_;apply bk <;> intro h2
 rotate_left
 ·refine tw w1 ?_;exact A4 (more,ar) AU ⟨⟨V7,t⟩,o⟩ rfl
 have Aq:=A6 h2
 have w2:=ws b
 have OM : c.DB b:=⟨by omega,Aq⟩
 have cj2 : b<(c.comp.getD a default).length:=by rw [cj]; exact Aq
 refine tt ?_;refine ⟨ci,cj2, ?_⟩
 rcases hc.qM Ke OM with ⟨Xv,fV⟩ | XQ
 rotate_left
 ·have CF : (c.comp.getD a default).getD b default<0:=by
   have e : (c.comp.getD a default).getD b default=-1:=XQ;omega
  rw [decide_eq_true CF];refine tw w2 ?_;exact A4 (more,ar) Aq ⟨⟨V7,t⟩,o⟩ rfl
 obtain ⟨h,hh⟩ : ∃ h : Int,(c.comp.getD a default).getD b default=h:=⟨_,rfl⟩
 have fV : c.DB ((c.comp.getD a default).getD b default):=fV
 have xu : ix (ix c.comp a) b=h:=hh;rw [hh] at fV ⊢;rw [decide_eq_false (show ¬ h<0 by have:=fV.1; omega)];refine tt ?_;refine ⟨AU,CI o (by omega) ?_⟩;refine tt ?_
 by_cases na : ar.getD a default<0
 ·rw [decide_eq_true na];refine tw w2 ?_;exact A4 (more,ar) Aq ⟨⟨V7,t⟩,o⟩ rfl
 rw [decide_eq_false na];refine tt ?_;refine ⟨Aq,CI o (by omega) ?_⟩;refine tt ?_
 by_cases nb : ar.getD b default<0
 ·rw [decide_eq_true nb];refine tw w2 ?_;exact A4 (more,ar) Aq ⟨⟨V7,t⟩,o⟩ rfl
 rw [decide_eq_false nb]
 have ta : TV c d ob a (ar.getD a default):=(t.ty a Ke).resolve_left na
 have tb : TV c d ob b (ar.getD b default):=(t.ty b OM).resolve_left nb
 have ti:=ta.comp hc hd Ke OM Xv tb;rw [xu] at ti
 have di:=hd.oA ta.1
 have dj : (ix d.comp (ar.getD a default)).length=d.AB.length:=hd.nA ta.1
 have dj2 : (ar.getD b default).toNat<(ix d.comp (ar.getD a default)).length:=by rw [dj]; exact tb.1.2
 have tb0:=tb.1.1;refine tt ?_;refine ⟨AU,CI o (by omega) ?_⟩;refine tt ?_;refine ⟨di, ?_⟩;refine ⟨Aq,CI o (by omega) ?_⟩;refine tt ?_;refine ⟨⟨tb0,dj2⟩, ?_⟩
 obtain ⟨v,hv⟩ : ∃ v : Int,ix (ix d.comp (ar.getD a default)) (ar.getD b default)=v:=⟨_,rfl⟩;rw [hv] at ti ⊢
 have gH:=fV.1
 have dS : h.toNat<ar.length:=by rw [hl]; exact fV.2
 have gT : h.toNat<c.AB.length:=fV.2
 have v0:=ti.1.1;refine tt ?_;refine ⟨⟨gH,gT⟩,CI o dS ?_⟩;refine tt ?_
 by_cases g : 0≤ar.getD h.toNat default
 ·rw [decide_eq_true g];refine tt ?_;refine ⟨⟨gH,gT⟩,CI o dS ?_⟩;refine tt ?_;apply bk <;> intro h3
  ·refine tt ?_;exact ⟨H,.refl _,false,ar,rfl,t,o⟩
  have BH : ar.getD h.toNat default=v:=by simpa using h3
  have hs : ar.set h.toNat v=ar:=by
   rw [← BH];refine List.ext_getElem (by simp) fun i q1 q2=>?_
   by_cases e : h.toNat=i
   ·subst e; simp [Go.AW.gE,q2]
   ·simp [List.getElem_set,e]
  cases more
  ·refine tt ?_;refine ⟨⟨gH,gT⟩,CI o dS ?_⟩;refine tt ?_;rw [decide_eq_false (show ¬ ar.getD h.toNat default<0 by omega)];refine tt ?_;refine ⟨⟨gH,gT⟩,BT v o rfl dS fun H o=>?_⟩;rw [hs] at o;refine tw w2 ?_;exact A4 (false,ar) Aq ⟨⟨V7,t⟩,o⟩ rfl
  ·refine tt ?_;refine ⟨⟨gH,gT⟩,BT v o rfl dS fun H o=>?_⟩;rw [hs] at o;refine tw w2 ?_;exact A4 (true,ar) Aq ⟨⟨V7,t⟩,o⟩ rfl
 ·rw [decide_eq_false g]
  have hn:=VI (v:=v) dS (by omega) v0
  have t2:=t.set fV ti
  cases more
  ·rw [if_neg (by simp)] at V7;refine tt ?_;refine ⟨⟨gH,gT⟩,CI o dS ?_⟩;refine tt ?_;rw [decide_eq_true (show ar.getD h.toNat default<0 by omega)];refine tt ?_;refine ⟨⟨gH,gT⟩,BT v o rfl dS fun H o=>?_⟩;refine tw w2 ?_;exact A4 (true,ar.set h.toNat v) Aq ⟨⟨by simp only [if_true]; omega,t2⟩,o⟩ rfl
  ·rw [if_pos rfl] at V7;refine tt ?_;refine ⟨⟨gH,gT⟩,BT v o rfl dS fun H o=>?_⟩;refine tw w2 ?_;exact A4 (true,ar.set h.toNat v) Aq ⟨⟨by simp only [if_true]; omega,t2⟩,o⟩ rfl
@[go_sem] def z13 : List AV:=[iI 0,.A0,.A0,.A0,.A0,iI 0,.A0,.A0,.A0,.A0,.A0,.A0,.A0]
@[go_sem] def pfC (c d : Ax) (X Y Z : AV) : List AV:=[iI c.AF,iL c.AB,iL c.to,iL c.Ac,B5 c.comp,iI d.AF,iL d.AB,iL d.to,iL d.Ac,B5 d.comp,X,Y,Z]
end Go.Proofs.Shf
namespace Go.AW
theorem Qd {P : Program} {B : Nat} {l : List Nat} {a b : SC} {Q : AQ} {σ : Env} {H : AA} (M : Env→AA→Prop) (h1 : Dx P B a (n9 l M Q) σ H) (h2 : ∀ σ' H',M σ' H'→Dx P B b Q σ' H') : Dx P B (.cut l a b) Q σ H:=⟨M,h1,h2⟩
theorem SE (σ : Env) : ∀ (l : List Nat) (s : Nat) (x : AV),(Env.BF l σ).get s=some x→σ.get s=some x
 | [],s,x,h=>by simp [Env.BF,Env.get] at h
 | t::r,s,x,h=>by
  rw [Wt] at h;simp only [Env.get] at h
  split at h
  ·rename_i e; subst e; exact h
  ·exact SE σ r s x h
theorem Vg (l : List Nat) {F : Env→AA→Prop} {σ : Env} {H : AA} (hk : F (Env.BF l σ) H) : EX F σ H :=
 ⟨_,H,fun g B w tm a b=>⟨g,.refl g,a,fun s x e=>b s x (SE σ l s x e)⟩,hk⟩
end Go.AW
