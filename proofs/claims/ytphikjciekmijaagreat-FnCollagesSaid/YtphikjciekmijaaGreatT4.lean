/- Contracts, part 4. -/
import Derived.Test.YtphikjciekmijaaGreatT3
set_option linter.unusedVariables false
set_option linter.unusedSimpArgs false
set_option linter.unusedSectionVars false
set_option maxRecDepth 100000
open Nat (reduceEqDiff reduceAdd reduceMul reduceLeDiff reduceLT)
namespace Go.Proofs.Shf
open Go.AW Go.Proofs Go.Shf
theorem dr : fC [[1]]:=.of (by decide) (by decide) (by decide) (by decide)
theorem Gj (B : Nat) : Rd B 159 [] (T9 100):=by
 intro id s H0 H hs o;refine pQ.go fun _=>?_;refine tt ?_;refine Ai o fun GD H o=>tt ?_;refine (AY B 12).go hs o.swap fun r s H _ ⟨k,e,hk0,Qw,_⟩ hs o=>?_;subst e
 have Qw:=Qw (by omega);refine tt ?_;apply bk <;> intro q0
 ·refine tt ?_;refine (AY B 5).go hs o fun r s H _ ⟨v,e,Xl,C0,_⟩ hs o=>?_;subst e
  have C0:=C0 (by omega);refine tt ?_
  obtain ⟨v,rfl⟩:=Int.eq_ofNat_of_zero_le Xl;refine (He B v (by omega)).go hs o fun r s H _ ⟨T,e,hT⟩ hs o=>?_;subst e;refine tt ?_;refine (D3 B T hT).go fun r _ ⟨c,e,hc⟩=>?_;subst e;refine tt ?_;refine sw o.swap fun H o=>tt ?_
  have CG:=o.rc 5 0 (by simp);simp only [List.drop_zero] at CG;rw [CG];refine tt ?_;exact B4 ⟨c,rfl,hc.mono (by omega)⟩ hs o.swap
 refine tt ?_;apply bk <;> intro q1
 ·refine tt ?_;refine (D3 B [[1,1],[0,1]] (.of (by decide) (by decide) (by decide) (by decide))).go fun r _ ⟨c,e,hc⟩=>?_;subst e;refine tt ?_;refine sw o.swap fun H o=>tt ?_
  have CG:=o.rc 5 0 (by simp);simp only [List.drop_zero] at CG;rw [CG];refine tt ?_;exact B4 ⟨c,rfl,hc.mono (by omega)⟩ hs o.swap
 refine tt ?_;apply bk <;> intro q2
 ·refine tt ?_;refine (D3 B [[1,1,1],[0,1,0],[0,0,1]] (.of (by decide) (by decide) (by decide) (by decide))).go fun r _ ⟨c,e,hc⟩=>?_;subst e;refine tt ?_;refine sw o.swap fun H o=>tt ?_
  have CG:=o.rc 5 0 (by simp);simp only [List.drop_zero] at CG;rw [CG];refine tt ?_;exact B4 ⟨c,rfl,hc.mono (by omega)⟩ hs o.swap
 refine tt ?_;apply bk <;> intro q3
 ·refine tt ?_;refine (IC B 2 [0,0] [1,1] ⟨by decide,by decide,by decide,by decide⟩).go fun r _ ⟨c,e,hc⟩=>?_;subst e;refine tt ?_;refine sw o.swap fun H o=>tt ?_
  have CG:=o.rc 5 0 (by simp);simp only [List.drop_zero] at CG;rw [CG];refine tt ?_;exact B4 ⟨c,rfl,hc.mono (by omega)⟩ hs o.swap
 refine tt ?_;apply bk <;> intro q4
 ·refine tt ?_;refine (Gl B).go hs o fun r s H _ ⟨T,e,hT⟩ hs o=>?_;subst e;refine tt ?_;refine (H9 B T hT).go fun r _ ⟨c,e,hc⟩=>?_;subst e;refine tt ?_;refine sw o.swap fun H o=>tt ?_
  have CG:=o.rc 5 0 (by simp);simp only [List.drop_zero] at CG;rw [CG];refine tt ?_;exact B4 ⟨c,rfl,hc.mono (by omega)⟩ hs o.swap
 refine tt ?_;apply bk <;> intro q5
 ·refine tt ?_;refine (AY B 3).go hs o fun r s H _ ⟨v,e,Xl,C0,_⟩ hs o=>?_;subst e
  have C0:=C0 (by omega)
  obtain ⟨v,rfl⟩:=Int.eq_ofNat_of_zero_le Xl
  have wv : IntKind.i64.wrap (1+(v : Int))=((1+v : Nat) : Int):=by rw [wrap_i64 (by omega) (by omega)]; omega
  generalize hm : 1+v=m at *;refine tw wv ?_;refine AP o fun Bt H o=>tt ?_;refine AD [2,3] (G:=Nat × List (List Int)) (fun i g=>[(4,some (.buf g.1 g.2.length)),(5,some (.int .i64 (i : Int)))]) (fun i g H=>g.2.length=i∧(∀ r,r∈g.2→r=List.replicate m 1)∧A9 H0 H [(g.1,AG.cells 1 (g.2.map iL) 0),(id,s.obj),(GD,AG.cells 5 [.int .i64 0,.A0,.A0,.A0,.A0] 0)]) m (Bt,[]) ⟨rfl,by simp,o⟩ rfl ?_;clear o
  rintro i ⟨Bt,T⟩ H hi ⟨hT,jt,o⟩;dsimp only at hT jt o;refine tt ?_;apply bk <;> intro h1
  ·have AU:=A6 h1
   have wi:=ws i;refine tt ?_;refine AP o fun ik H o=>tt ?_;refine AD [2,3,4,5] (G:=Nat × List Int) (fun j g=>[(6,some (.buf g.1 g.2.length)),(7,some (.int .i64 (j : Int)))]) (fun j g H=>g.2=List.replicate j 1∧A9 H0 H [(g.1,AG.cells 1 (g.2.map iI) 0),(Bt,AG.cells 1 (T.map iL) 0),(id,s.obj),(GD,AG.cells 5 [.int .i64 0,.A0,.A0,.A0,.A0] 0)]) m (ik,[]) ⟨rfl,o⟩ rfl ?_;clear o
   rintro j ⟨ik,row⟩ H hj ⟨Dv,o⟩;dsimp only at Dv
   have hr : row.length=j:=by rw [Dv]; simp
   dsimp only at o;refine tt ?_;apply bk <;> intro h2
   ·have Aq:=A6 h2
    have wj:=ws j;refine tt ?_;refine BB _ o rfl rfl (by simp only [AN]; omega) fun ik H row2 er2 G2 o=>?_;refine tw wj ?_;exact A4 (ik,row2) Aq ⟨by show row2=_; rw [er2,Dv,← List.replicate_succ'],o⟩ rfl
   ·have Aq:=A7 h2;refine tt ?_;refine Am o rfl fun H o=>tt ?_;refine BB row o rfl rfl (by simp only [AN]; omega) fun Bt H T2 eT pF o=>?_;refine tw wi ?_;refine A4 (Bt,T2) AU ⟨by show T2.length=_; omega,fun r CG=>?_,o⟩ rfl;dsimp only at CG;rw [eT] at CG
    rcases List.mem_append.mp CG with h | h
    ·exact jt r h
    ·rw [List.mem_singleton] at h; subst h; rw [Dv,show j=m by omega]
  have AU:=A7 h1
  have hTm : T.length=m:=by omega
  have GX : ∀ i j,i<T.length→j<T.length→Gm T i j=1:=fun i j hi hj=>by
   rw [Gm,jt _ (AE.mpr ⟨i,hi,rfl⟩),Go.AW.gE,List.getElem?_replicate,if_pos (by omega)]; rfl
  have hTP : fC T:=⟨by omega,fun x hx=>by rw [jt _ (AE.mpr ⟨x,hx,rfl⟩)]; simp; omega,fun i hi=>GX i i hi hi,fun i j k hi hj hk _ _=>GX i k hi hk⟩;refine tt ?_;refine Am o rfl fun H o=>tt ?_;refine (D3 B T hTP).go fun r _ ⟨c,e,hc⟩=>?_;subst e;refine tt ?_;refine sw o.swap fun H o=>tt ?_
  have CG:=o.rc 5 0 (by simp);simp only [List.drop_zero] at CG;rw [CG];refine tt ?_;exact B4 ⟨c,rfl,hc.mono (by omega)⟩ hs o.swap
 refine tt ?_;apply bk <;> intro q6
 ·refine tt ?_;refine (IC B 3 [0,1,0] [1,2,2] ⟨by decide,by decide,by decide,by decide⟩).go fun r _ ⟨c,e,hc⟩=>?_;subst e;refine tt ?_;refine sw o.swap fun H o=>tt ?_
  have CG:=o.rc 5 0 (by simp);simp only [List.drop_zero] at CG;rw [CG];refine tt ?_;exact B4 ⟨c,rfl,hc.mono (by omega)⟩ hs o.swap
 refine tt ?_;apply bk <;> intro q7
 ·refine tt ?_;refine (TF B).go fun r _ ⟨c,e,hc⟩=>?_;subst e;refine tt ?_;refine sw o.swap fun H o=>tt ?_
  have CG:=o.rc 5 0 (by simp);simp only [List.drop_zero] at CG;rw [CG];refine tt ?_;exact B4 ⟨c,rfl,hc.mono (by omega)⟩ hs o.swap
 refine tt ?_;apply bk <;> intro q8
 ·refine tt ?_;refine (Gl B).go hs o fun r s H _ ⟨T,e,hT⟩ hs o=>?_;subst e;refine tt ?_;refine (H9 B T hT).go fun r _ ⟨c,e,hc⟩=>?_;subst e;refine tt ?_;refine (D3 B [[1]] dr).go fun r _ ⟨d,e,hd⟩=>?_;subst e;refine tt ?_;refine (MU B 4 16 (by omega) (by omega) c d hc hd).go fun r _ ⟨c,e,hc⟩=>?_;subst e;refine tt ?_;refine (YR B (4+16+4*16) (by omega) c hc).go fun r _ ⟨c,e,hc⟩=>?_;subst e;refine tt ?_;refine sw o.swap fun H o=>tt ?_
  have CG:=o.rc 5 0 (by simp);simp only [List.drop_zero] at CG;rw [CG];refine tt ?_;exact B4 ⟨c,rfl,hc.mono (by omega)⟩ hs o.swap
 refine tt ?_;apply bk <;> intro q9
 ·refine tt ?_;refine (Gl B).go hs o fun r s H _ ⟨T,e,hT⟩ hs o=>?_;subst e;refine tt ?_;refine (H9 B T hT).go fun r _ ⟨c,e,hc⟩=>?_;subst e;refine tt ?_;refine (D3 B [[1]] dr).go fun r _ ⟨d,e,hd⟩=>?_;subst e;refine tt ?_;refine (MU B 4 16 (by omega) (by omega) c d hc hd).go fun r _ ⟨c,e,hc⟩=>?_;subst e;refine tt ?_;refine sw o.swap fun H o=>tt ?_
  have CG:=o.rc 5 0 (by simp);simp only [List.drop_zero] at CG;rw [CG];refine tt ?_;exact B4 ⟨c,rfl,hc.mono (by omega)⟩ hs o.swap
 refine tt ?_;apply bk <;> intro q10
 ·refine tt ?_;refine (AY B 2).go hs o fun r s H _ ⟨v,e,Xl,C0,_⟩ hs o=>?_;subst e
  have C0:=C0 (by omega)
  obtain ⟨v,rfl⟩:=Int.eq_ofNat_of_zero_le Xl
  have wv : IntKind.i64.wrap (2+(v : Int))=((2+v : Nat) : Int):=by rw [wrap_i64 (by omega) (by omega)]; omega
  refine tw wv ?_;refine (He B (2+v) (by omega)).go hs o fun r s H _ ⟨T,e,hT⟩ hs o=>?_;subst e;refine tt ?_;refine (D3 B T hT).go fun r _ ⟨c,e,hc⟩=>?_;subst e;refine tt ?_;refine sw o.swap fun H o=>tt ?_
  have CG:=o.rc 5 0 (by simp);simp only [List.drop_zero] at CG;rw [CG];refine tt ?_;exact B4 ⟨c,rfl,hc.mono (by omega)⟩ hs o.swap
 refine tt ?_;refine (AY B 2).go hs o fun r s H _ ⟨v,e,Xl,C0,_⟩ hs o=>?_;subst e
 have C0:=C0 (by omega)
 obtain ⟨v,rfl⟩:=Int.eq_ofNat_of_zero_le Xl
 have wv : IntKind.i64.wrap (2+(v : Int))=((2+v : Nat) : Int):=by rw [wrap_i64 (by omega) (by omega)]; omega
 obtain ⟨n,hn⟩ : ∃ n,2+v=n:=⟨_,rfl⟩;rw [hn] at wv
 have hn23 : n=2∨n=3:=by omega
 clear Xl C0 hn;refine tw wv ?_;refine AP o fun f H o=>tt ?_;refine AP o fun t H o=>tt ?_;refine (AY B 4).go hs (o.pull [_,_]) fun r s H _ ⟨q,e,pD,Pa,_⟩ hs o=>?_;subst e
 have Pa:=Pa (by omega)
 obtain ⟨q,rfl⟩:=Int.eq_ofNat_of_zero_le pD;refine tt ?_
 refine E3 [0,2,8] (G:=Src × (Nat × List Int) × (Nat × List Int) × Nat) (fun g=>[(9,some (.buf g.2.1.1 g.2.1.2.length)),(10,some (.buf g.2.2.1.1 g.2.2.1.2.length)),(11,some (.int .i64 (g.2.2.2 : Int)))])
  (fun m g H=>m=g.2.2.2∧g.1.Ok∧g.2.1.2.length+g.2.2.2≤3∧g.2.2.1.2.length=g.2.1.2.length∧(∀ e,e<g.2.1.2.length→0≤g.2.1.2.getD e default∧g.2.1.2.getD e default<g.2.2.1.2.getD e default∧g.2.2.1.2.getD e default<n) ∧
   A9 H0 H [(id,g.1.obj),(g.2.2.1.1,AG.cells 1 (g.2.2.1.2.map iI) 0),(g.2.1.1,AG.cells 1 (g.2.1.2.map iI) 0),(GD,AG.cells 5 [.int .i64 0,.A0,.A0,.A0,.A0] 0)]) q (s,(f,[]),(t,[]),q) ⟨rfl,hs,by simp only [List.length_nil]; omega,rfl,fun e he=>by simp at he,o⟩ rfl ?_
 clear o hs pD Pa
 rintro m ⟨s,⟨f,F⟩,⟨t,T⟩,q⟩ H ⟨hm,hs,hF,hT,hE,o⟩;dsimp only at hm;subst hm;dsimp only at hs hF hT hE o
 have wn : IntKind.i64.wrap ((n : Int) - 1)=((n - 1 : Nat) : Int):=W0 (by omega) (by omega);refine tt ?_;apply bk <;> intro h1
 ·have AU:=A6 h1
  have wm : IntKind.i64.wrap ((m : Int) - 1)=((m - 1 : Nat) : Int):=W0 (by omega) (by omega);refine tw wn ?_;refine (AY B ((n - 1 : Nat) : Int)).go hs o fun r s H _ ⟨x,e,hx0,oS,_⟩ hs o=>?_;subst e
  have oS:=oS (by omega)
  obtain ⟨x,rfl⟩:=Int.eq_ofNat_of_zero_le hx0;refine tt ?_;refine BB _ (o.pull [_,_]) rfl rfl (by simp only [AN]; omega) fun f H F2 eF pG o=>?_
  have w1 : IntKind.i64.wrap ((x : Int)+1)=((x+1 : Nat) : Int):=Oi (by omega)
  have w2 : IntKind.i64.wrap (((n - 1 : Nat) : Int) - (x : Int))=((n - 1 - x : Nat) : Int):=by rw [wrap_i64 (by omega) (by omega)]; omega
  try simp only [go_sem,↓reduceIte,reduceEqDiff,reduceAdd,reduceMul,reduceLeDiff,reduceLT,wn,w1,w2]
  refine (AY B ((n - 1 - x : Nat) : Int)).go hs o.swap fun r s H _ ⟨y,e,hy0,xM,_⟩ hs o=>?_;subst e
  have xM:=xM (by omega)
  obtain ⟨y,rfl⟩:=Int.eq_ofNat_of_zero_le hy0
  have w3 : IntKind.i64.wrap (((x+1 : Nat) : Int)+(y : Int))=((x+1+y : Nat) : Int):=by rw [wrap_i64 (by omega) (by omega)]; omega
  refine tw w3 ?_;refine BB _ (o.pull [_,_]) rfl rfl (by simp only [AN]; omega) fun t H T2 eT pF o=>?_;refine tw wm ?_;refine CJ (m - 1) (s,(f,F2),(t,T2),m - 1) (by omega) ⟨rfl,hs,by show F2.length+(m - 1)≤3; omega,by show T2.length=F2.length; omega,fun e he=>?_, ?_⟩ rfl
  ·show 0≤F2.getD e default∧F2.getD e default<T2.getD e default∧T2.getD e default<n
   dsimp only at he
   by_cases h2 : e<F.length
   ·have e1 : F2.getD e default=F.getD e default:=by rw [eF,Go.AW.gE,List.getElem?_append_left h2,← Go.AW.gE]
    have e2 : T2.getD e default=T.getD e default:=by rw [eT,Go.AW.gE,List.getElem?_append_left (by omega),← Go.AW.gE]
    rw [e1,e2]; exact hE e h2
   ·have e0 : e=F.length:=by omega
    have e1 : F2.getD e default=(x : Int):=by rw [eF,e0]; simp
    have e2 : T2.getD e default=((x+1+y : Nat) : Int):=by rw [eT,e0,← hT]; simp
    rw [e1,e2]; omega
  ·exact o.pm
 ·have AU:=A7 h1;refine tt ?_;refine Am o.swap rfl fun H o=>tt ?_;refine Am o.swap rfl fun H o=>tt ?_;refine (IC B n F T ⟨by omega,by omega,hT,hE⟩).go fun r _ ⟨c,e,hc⟩=>?_;subst e;refine tt ?_;refine sw o.swap fun H o=>tt ?_
  have CG:=o.rc 5 0 (by simp);simp only [List.drop_zero] at CG;rw [CG];refine tt ?_;exact B4 ⟨c,rfl,hc.mono (by omega)⟩ hs o.swap
def rF (r : AV) : Prop:=∃ c : Ax,r=.agg c.cells∧c.Sh 20000∧c.Shape
theorem E1 (B : Nat) (mo ma : Int) : Rd B 51 [iI mo,iI ma] rF:=by
 intro id s H0 H hs o;refine qg.go fun _=>?_;refine tt ?_;refine Ai o fun Ba H o=>tt ?_;refine AD [0,1,2,6] (G:=Src) (fun k _=>[(7,some (.int .i64 (k : Int)))]) (fun k s H=>s.Ok∧A9 H0 H [(id,s.obj),(Ba,AG.cells 5 [.int .i64 0,.A0,.A0,.A0,.A0] 0)]) 12 s ⟨hs,o.swap⟩ rfl ?_;clear o hs
 rintro k s H hk ⟨hs,o⟩
 replace hs : s.Ok:=hs
 replace o : A9 H0 H [(id,s.obj),(Ba,AG.cells 5 [.int .i64 0,.A0,.A0,.A0,.A0] 0)]:=o;refine tt ?_;refine ⟨fun h1=>At.mk ?_,fun h1=>At.mk ?_⟩
 ·have AU:=A6 h1
  have wk1:=ws k;refine tt ?_;refine (Gj B).go hs o fun r s H _ ⟨c0,e,xj⟩ hs o=>?_;subst e;refine tt ?_;refine Ai o fun Cm H o=>tt ?_;refine sw o fun H o=>tt ?_;refine (AY B 5).go hs o.swap fun r s H _ ⟨v,e,_⟩ hs o=>?_;subst e;refine tt ?_;refine ⟨fun h2=>At.mk ?_,fun h2=>At.mk ?_⟩
  case' refine_1 =>
   refine tt ?_;refine ⟨⟨_,_,o.tl.h0⟩,AO o.tl (by simp) ?_⟩;refine tt ?_;refine (Gj B).IE hs o fun r s H _ ⟨c2,e,Yj⟩ hs o hz=>⟨hz, ?_⟩;subst e;refine tt ?_;refine ID.go' (MO B 100 100 (by omega) c0 c2 xj Yj) o fun X1 p1 H ⟨a,b,i,d,Xs,ob,e1,hX,e2⟩ o _=>?_;subst e1 e2
   have hq:=Ko xj Yj
   generalize BW c0 c2=q at hX hq o ⊢;refine tt ?_
   have o : A9 H0 H ((Cm,AG.cells 5 [iI c0.AF,iL c0.AB,iL c0.to,iL c0.Ac,B5 c0.comp] 0)::(d,AG.cells 1 Xs 0)::(a,AG.cells 1 (q.AB.map iI) 0)::(b,AG.cells 1 (q.to.map iI) 0)::(i,AG.cells 1 (q.Ac.map iI) 0)::(id,s.obj)::(Ba,AG.cells 5 [.int .i64 0,.A0,.A0,.A0,.A0] 0)::ob):=o.pm;refine sw o fun H o=>tt ?_
   have Iw:=hX.len
   have od : A9 H0 H ((d,AG.cells 1 Xs 0)::(ob++[(Cm,AG.cells 5 [iI q.AF,.buf a q.AB.length,.buf b q.to.length,.buf i q.Ac.length,.buf d Xs.length] 0),(a,AG.cells 1 (q.AB.map iI) 0),(b,AG.cells 1 (q.to.map iI) 0),(i,AG.cells 1 (q.Ac.map iI) 0),(id,s.obj),(Ba,AG.cells 5 [.int .i64 0,.A0,.A0,.A0,.A0] 0)])):=o.pm;refine EA hX [] H od fun H o=>?_;simp only [List.nil_append] at o
   have o : A9 H0 H [(Cm,AG.cells 5 [iI q.AF,.buf a q.AB.length,.buf b q.to.length,.buf i q.Ac.length,.buf d Xs.length] 0),(d,AG.cells 1 (q.comp.map iL) 0),(a,AG.cells 1 (q.AB.map iI) 0),(b,AG.cells 1 (q.to.map iI) 0),(i,AG.cells 1 (q.Ac.map iI) 0),(id,s.obj),(Ba,AG.cells 5 [.int .i64 0,.A0,.A0,.A0,.A0] 0)]:=o.pm;refine B6 4 o rfl Iw fun H o=>?_;have o:=s1 o;refine B6 1 o rfl rfl fun H o=>?_;have o:=s1 o;refine B6 2 o rfl rfl fun H o=>?_;have o:=s1 o;refine B6 3 o rfl rfl fun H o=>AX ?_;have o:=s1 o
   have o:=o.swap
   obtain ⟨c,rfl⟩ : ∃ c,c=q:=⟨_,rfl⟩
   have hc : c.Good 200:=hq
  case' refine_2 =>
   refine tt ?_;refine AX ?_
   obtain ⟨c,rfl⟩ : ∃ c,c=c0:=⟨_,rfl⟩
   have hc : c.Good 200:=xj.mono (show 100≤200 by omega)
  all_goals
   try clear h2
   refine tt ?_;refine (AY B 8).go hs o fun r s H _ ⟨v2,e,_⟩ hs o=>?_;subst e;refine tt ?_;refine ⟨fun h3=>At.mk ?_,fun h3=>At.mk ?_⟩
   case' refine_1 =>
    refine tt ?_;refine ⟨⟨_,_,o.tl.h0⟩,AO o.tl (by simp) ?_⟩;refine tt ?_;refine (Gj B).IE hs o fun r s H _ ⟨c2,e,Yj⟩ hs o hz=>⟨hz, ?_⟩;subst e;refine tt ?_;refine (O3 B 200 100 (by omega) (by omega) (by omega) c c2 hc Yj).go fun r _ ⟨q,e,hq⟩=>?_;subst e;refine tt ?_;refine sw o.swap fun H o=>?_
    have o:=o.swap
    have hc:=hq
    obtain ⟨c,rfl⟩ : ∃ c,c=q:=⟨_,rfl⟩
    replace hc : c.Good 20000:=hc
   case' refine_2 =>
    have hc:=hc.mono (show 200≤20000 by omega)
   all_goals
    try clear h3
    refine tt ?_;refine AH o.tl (by simp) (tt ?_);refine ⟨fun g1=>At.mk ?_,fun g1=>At.mk ?_⟩
    case' refine_1 =>
     refine tw g1 ?_;refine AH o.tl (by simp) (tt ?_);refine ⟨fun g2=>At.mk ?_,fun g2=>At.mk ?_⟩
     case' refine_1 =>
      refine tw g2 ?_;refine AO o.tl (by simp) (tt ?_);refine (N8 B c).go fun _=>tt ?_;refine ⟨fun g3=>At.mk ?_,fun g3=>At.mk ?_⟩
      case refine_1 =>
       have KX:=Gz.mp g3;refine tt ?_;refine AO o.tl (by simp) (tt ?_);refine sw (o.pull [_,_]) fun H o=>tt ?_
       have CG:=o.rc 5 0 (by simp);simp only [List.drop_zero] at CG;rw [CG];refine tt ?_;exact B4 ⟨c,rfl,hc.1,hc.2.shape hc.1 KX.1 KX.2⟩ hs o.swap
    all_goals
     try (try simp only [go_sem,↓reduceIte,reduceEqDiff,reduceAdd,reduceMul,reduceLeDiff,reduceLT,g1])
     try (try simp only [go_sem,↓reduceIte,reduceEqDiff,reduceAdd,reduceMul,reduceLeDiff,reduceLT,g2])
     try (try simp only [go_sem,↓reduceIte,reduceEqDiff,reduceAdd,reduceMul,reduceLeDiff,reduceLT,wk1])
     exact A4 s (by omega) ⟨hs,o.swap.tl⟩ rfl
 ·refine tt ?_;refine (KG B [[1]] dr).go fun r _ e=>?_;subst e
  have hc:=SA dr
  have Pe:=hc.2.shape hc.1 (by show ((([[1]] : List (List Int)).length : Nat) : Int)≤8; decide) (by have:=hc.1.ml; omega)
  generalize Xh [[1]]=c at hc Pe;refine tt ?_;refine sw o.swap fun H o=>tt ?_
  have CG:=o.rc 5 0 (by simp);simp only [List.drop_zero] at CG;rw [CG];refine tt ?_;exact B4 ⟨c,rfl,hc.1.mono (by omega),Pe⟩ hs o.swap
theorem Kl (B : Nat) (c : Ax) (s : c.Shape) (x y : Int) : PB B 201 [.agg c.cells,iI x,iI y] (iL (Ir c x y)):=by
 refine ⟨fun H0=>uk.go fun _=>?_⟩
 have o : A9 H0 H0 []:=.nil _
 have hm:=s.m
 have Jc:=s.L5;refine tt ?_;refine Az iI o fun id H o=>tt ?_
 refine AD [1,2,3] (G:=Nat × List Int) (fun k g=>[(7,some (.buf g.1 g.2.length)),(8,some (.int .i64 (k : Int)))])
  (fun k g H=>g.2=HU c x y k∧A9 H0 H [(g.1,.cells 1 (g.2.map iI) 0)]) c.AB.length (id,[]) ⟨rfl,o⟩ rfl ?_
 clear o
 rintro k ⟨id,out⟩ H hk ⟨B2,o⟩;dsimp only at B2 o
 have s9 : out.length≤k:=by rw [B2]; exact K9 _ _ _
 refine tt ?_;apply bk <;> intro h1
 ·have AU : k<c.AB.length:=A6 h1
  have w1:=ws k;refine tt ?_;refine ⟨AU, ?_⟩
  by_cases e1 : c.AB.getD k default=x
  ·rw [decide_eq_true e1];refine tt ?_;refine ⟨by omega, ?_⟩
   by_cases e2 : c.to.getD k default=y
   ·rw [decide_eq_true e2];refine tt ?_;refine Ae (k : Int) o rfl rfl (by simp only [AN]; omega) fun z H o=>?_;refine tw w1 ?_;exact A4 (z,out++[(k : Int)]) AU ⟨by rw [B2,To e1 e2],o⟩ rfl
   ·rw [decide_eq_false e2];refine tw w1 ?_;exact A4 (id,out) AU ⟨by rw [B2,Kk fun h=>e2 h.2],o⟩ rfl
  ·rw [decide_eq_false e1];refine tw w1 ?_;exact A4 (id,out) AU ⟨by rw [B2,Kk fun h=>e1 h.1],o⟩ rfl
 ·have AU:=A7 h1
  have ek : k=c.AB.length:=by omega
  rw [ek,GW] at B2;refine tt ?_;refine Am o rfl fun H o=>tt ?_;exact A5 (by rw [B2]) o.sub
theorem U3 (B : Nat) (c : Ax) (hs : c.Shape) (f : Int) (hf : 0≤f∧f.toNat<c.AB.length) : PB B 202 [.agg c.cells,iI f] (.bool (decide (ix c.Ac (ix c.AB f)=f))):=by
 refine ⟨fun H0=>pU.go fun _=>?_⟩
 have hx:=hs.C3 hf.2
 have TJ:=hs.il;refine tt ?_;exact ⟨hf,⟨hx.1,by omega⟩,A5 rfl (.refl _)⟩
def nh (r : AV) : Prop:=∃ l : List Int,r=iL l
def rT (r : AV) : Prop:=∃ b : Bool,r=.bool b
theorem QJ (B : Nat) (c : Ax) (hc : c.Shape) : Dt B 302 [.agg c.cells] nh:=by
 intro H0;refine kz.go fun _=>?_
 have sm:=hc.m
 have o : A9 H0 H0 []:=.nil _;refine tt ?_;refine Az iI o fun id H o=>tt ?_;refine AD [1] (G:=Nat × List Int) (fun k g=>[(3,some (.buf g.1 g.2.length)),(4,some (.int .i64 (k : Int)))]) (fun k g H=>g.2.length≤k∧A9 H0 H [(g.1,.cells 1 (g.2.map iI) 0)]) c.AB.length (id,[]) ⟨by simp,o⟩ rfl ?_;clear o
 rintro k ⟨id,out⟩ H hk ⟨hl,o⟩;dsimp only at hl o;refine tt ?_;apply bk <;> intro h1
 ·have AU:=A6 h1
  have w:=ws k;refine tt ?_;refine (U3 B c hc k ⟨by omega,by show (k : Int).toNat<_; omega⟩).go fun _=>tt ?_;apply bk <;> intro h2
  ·refine tt ?_;refine Ae (k : Int) o rfl rfl (by simp only [AN]; omega) fun id H o=>?_;refine tw w ?_;exact A4 (_,_) AU ⟨by simp; omega,o⟩ rfl
  ·refine tw w ?_;exact A4 (_,_) AU ⟨by simp only; omega,o⟩ rfl
 ·refine tt ?_;refine Am o rfl fun H o=>tt ?_;exact B0 ⟨out,rfl⟩ o.sub
theorem Ro (B : Nat) (c d : Ax) (hc : c.Shape) : Dt B 292 [.agg c.cells,.agg d.cells] rT:=by
 intro H0;refine ua.go fun _=>?_;refine tt ?_;refine (QJ B c hc).go fun r _ ⟨l,e⟩=>?_;subst e;refine tt ?_
 cases h : decide ((l.length : Int)≤8)
 ·refine tt ?_;exact B0 ⟨_,rfl⟩ (.refl _)
 ·refine tt ?_;exact B0 ⟨_,rfl⟩ (.refl _)
theorem Rs (B : Nat) (c d : Ax) (hc : c.Shape) (hd : d.Shape) (ob : List Int) : Dt B 310 [.agg c.cells,.agg d.cells,iL ob] rT:=by
 intro H0;refine si.go fun _=>?_
 have sm:=hc.m
 have tl:=hc.L5;refine tt ?_;refine AD [2,3,4] (G:=Unit) (fun k _=>[(7,some (.int .i64 (k : Int)))]) (fun k _ H'=>H'=H0) c.AB.length () rfl rfl ?_
 rintro k _ H hk rfl;refine tt ?_;apply bk <;> intro h1
 ·have AU:=A6 h1
  have w:=ws k
  have f0:=(hc.C3 (f:=(k : Int)) AU).1
  have t0:=(hc.DJ (f:=(k : Int)) AU).1
  have f0 : 0≤c.AB.getD k default:=f0
  have t0 : 0≤c.to.getD k default:=t0;refine tt ?_
  (repeat (refine ⟨by first | exact AU | exact (by omega : k<c.to.length), ?_⟩))
  refine tt ?_
  by_cases g1 : c.AB.getD k default<(ob.length : Int)
  ·rw [decide_eq_true g1];refine tt ?_
   by_cases g2 : c.to.getD k default<(ob.length : Int)
   ·rw [decide_eq_true g2];refine tt ?_;refine ⟨⟨f0,by omega⟩,⟨t0,by omega⟩, ?_⟩;refine ⟨_,(Kl B d hd _ _).run,tt ?_⟩;apply bk <;> intro g3
    ·refine tt ?_;exact B0 ⟨_,rfl⟩ (.refl _)
    ·refine tw w ?_;exact A4 () AU rfl rfl
   ·rw [decide_eq_false g2];refine tw w ?_;exact A4 () AU rfl rfl
  ·rw [decide_eq_false g1];refine tw w ?_;exact A4 () AU rfl rfl
 ·refine tt ?_;exact B0 ⟨_,rfl⟩ (.refl _)
theorem wH {p : Decidable True} : @decide True p=true:=@decide_eq_true True p trivial
theorem JO (B : Nat) (a : List (List Int)) : PB B 14 [B5 a,B5 a] (.bool true):=by
 refine ⟨fun H0=>c14.go fun ⟨hf,_⟩=>?_⟩
 have hl:=AZ hf;simp only [AN] at hl;refine tt ?_;refine ⟨fun e=>(by simp at e),fun _=>At.mk ?_⟩;refine tt ?_;refine AD [0,1] (G:=Unit) (fun k _=>[(5,some (.int .i64 (k : Int)))]) (fun k _ H=>H=H0) a.length () rfl rfl ?_
 rintro k _ H hk rfl;refine tt ?_;apply bk <;> intro h1
 ·have AU : k<a.length:=A6 h1
  have w:=ws k;refine tt ?_;refine ⟨AU,AU,tt ?_⟩;refine ⟨_,(EK B _ _).run, ?_⟩;rw [Av rfl];refine tw w ?_;exact A4 () (by omega) rfl rfl
 ·refine tt ?_;exact A5 rfl (.refl _)
theorem Rx (B : Nat) (c : Ax) : PB B 26 [.agg c.cells,.agg c.cells] (.bool true):=by
 refine ⟨fun H0=>c26.go fun _=>?_⟩;refine td ?_;refine (EK B _ _).go fun _=>?_;rw [Av rfl];refine td ?_;refine (EK B _ _).go fun _=>?_;rw [Av rfl];refine td ?_;refine (EK B _ _).go fun _=>?_;rw [Av rfl];refine td ?_;refine (JO B _).go fun _=>?_;refine td ?_;exact A5 rfl (.refl _)
theorem Hj (B : Nat) (a : List (List (List Int))) : PB B 18 [BE a,BE a] (.bool true):=by
 refine ⟨fun H0=>c18.go fun ⟨hf,_⟩=>?_⟩
 have hl:=AZ hf;simp only [AN] at hl;refine tt ?_;refine ⟨fun e=>(by simp at e),fun _=>At.mk ?_⟩;refine tt ?_;refine AD [0,1] (G:=Unit) (fun k _=>[(5,some (.int .i64 (k : Int)))]) (fun k _ H=>H=H0) a.length () rfl rfl ?_
 rintro k _ H hk rfl;refine tt ?_;apply bk <;> intro h1
 ·have AU : k<a.length:=A6 h1
  have w:=ws k;refine tt ?_;refine ⟨AU,AU,tt ?_⟩;refine ⟨_,(JO B _).run, ?_⟩;refine tw w ?_;exact A4 () (by omega) rfl rfl
 ·refine tt ?_;exact A5 rfl (.refl _)
theorem Tk (B : Nat) (p : PF) : PB B 11 [.agg p.cells,.agg p.cells] (.bool true):=by
 refine ⟨fun H0=>c11.go fun _=>?_⟩;refine td ?_;refine (Rx B p.src).go fun _=>?_;refine td ?_;refine (Rx B p.AL).go fun _=>?_;refine td ?_;refine (JO B _).go fun _=>?_;refine td ?_;refine (Hj B _).go fun _=>?_;refine td ?_;refine (Hj B _).go fun _=>?_;refine td ?_;exact A5 rfl (.refl _)
instance : Inhabited Ax:=⟨⟨0,[],[],[],[]⟩⟩
abbrev cpP (c : Ax) : AV:=.ptr c.cells
instance : One cpP:=⟨fun _=>rfl,fun _=>rfl⟩
theorem UG (B : Nat) (l : List Ax) : PB B 236 [mL cpP l] (.bool (dec (∀ c,c∈l→c.Is))):=by
 refine ⟨fun H0=>vk.go fun ⟨hf,_⟩=>?_⟩
 have hl:=AZ hf;simp only [AN] at hl;refine tt ?_;refine AD [5,6] (fun k _=>[(7,some (.int .i64 (k : Int)))]) (fun k _ H=>H=H0∧∀ i,i<k→(l.getD i default).Is) l.length () ⟨rfl,by simp⟩ rfl ?_
 rintro k _ H hk ⟨rfl,Au⟩;refine tt ?_;apply bk <;> intro h1
 ·have AU:=dd h1
  have w1:=ws k;refine tt ?_;refine ⟨AU, ?_⟩;refine (J1 ..).go fun _=>tt ?_;apply bk <;> intro h2
  ·have Aq:=dd h2;refine tt ?_;refine A5 ?_ (.refl _);rw [Ad]; intro h;exact Aq (h _ (AE.mpr ⟨k,AU,rfl⟩))
  ·have Aq:=dd h2;refine tw w1 ?_
   exact A4 () AU ⟨rfl,fun i hi=>by
    by_cases e : i=k
    ·subst e; exact Aq
    ·exact Au i (by omega)⟩ rfl
 ·have AU:=dd h1;refine tt ?_;refine A5 ?_ (.refl _);rw [Av]; intro c hc
  obtain ⟨i,hi,rfl⟩:=AE.mp hc;exact Au i (by omega)
end Go.Proofs.Shf
namespace Go.Shf
open Go.AW
section
variable {p : PF} {a b x y : Int}
theorem PF.Shape.WK (h : p.Shape) (hx : p.src.ES x) : 0≤x∧x.toNat<p.AK.length:=by
 have:=h.sl
 obtain ⟨h1,h2⟩:=hx;omega
theorem PF.Shape.Ws (h : p.Shape) (hx : p.src.ES x) (hy : p.AL.ES y) : 0≤y∧y.toNat<(ix p.AK x).length:=by
 have:=(h.rl x hx).1
 obtain ⟨h1,h2⟩:=hy;omega
theorem PF.Shape.e9 (h : p.Shape) (ha : p.src.DB a) : 0≤a∧a.toNat<p.before.length:=by
 have:=h.bl
 obtain ⟨h1,h2⟩:=ha;omega
theorem PF.Shape.Uv (h : p.Shape) (ha : p.src.DB a) (hy : p.AL.ES y) : 0≤y∧y.toNat<(ix p.before a).length:=by
 have:=(h.bm a ha).1
 obtain ⟨h1,h2⟩:=hy;omega
theorem PF.Shape.cK (h : p.Shape) (ha : p.AL.DB b) : 0≤b∧b.toNat<p.behind.length:=by
 have:=h.hl
 obtain ⟨h1,h2⟩:=ha;omega
theorem PF.Shape.Uj (h : p.Shape) (ha : p.AL.DB b) (hx : p.src.ES x) : 0≤x∧x.toNat<(ix p.behind b).length:=by
 have:=(h.hm b ha).1
 obtain ⟨h1,h2⟩:=hx;omega
theorem Ax.Shape.v9 {c : Ax} (h : c.Shape) (ha : c.DB a) : 0≤a∧a.toNat<c.to.length:=by
 have:=h.L5
 obtain ⟨h1,h2⟩:=ha;omega
theorem Ax.Shape.mZ {c : Ax} (h : c.Shape) (hx : c.ES x) : 0≤x∧x.toNat<c.Ac.length:=by
 have:=h.il
 obtain ⟨h1,h2⟩:=hx;omega
theorem Ax.Shape.pO {c : Ax} (h : c.Shape) (ha : c.DB a) : c.ES (ix c.AB a):=h.C3 ha.2
theorem Ax.Shape.qR {c : Ax} (h : c.Shape) (ha : c.DB a) : c.ES (ix c.to a):=h.DJ ha.2
end
end Go.Shf
namespace Go.Shf
open Go.AW
section
variable {c : Ax} {a b : Int}
theorem Ax.Shape.qM (h : c.Shape) (ha : c.DB a) (hb : c.DB b) : (ix c.to a=ix c.AB b∧c.DB (ix (ix c.comp a) b))∨ix (ix c.comp a) b=-1:=by
 by_cases e : ix c.to a=ix c.AB b
 ·left
  have q:=h.yes a.toNat b.toNat ha.2 hb.2 e
  have q : (0≤ix (ix c.comp a) b∧ix (ix c.comp a) b<c.AB.length)∧_:=q;exact ⟨e,q.1.1,by have:=q.1; omega⟩
 ·right
  exact h.R6 a.toNat b.toNat ha.2 hb.2 e
theorem Ax.Shape.oA (h : c.Shape) (ha : c.DB a) : 0≤a∧a.toNat<c.comp.length:=by
 have:=h.cl
 obtain ⟨h1,h2⟩:=ha;omega
theorem Ax.Shape.nA (h : c.Shape) (ha : c.DB a) : (ix c.comp a).length=c.AB.length:=h.row a.toNat ha.2
theorem Ax.Shape.uT (h : c.Shape) {x : Int} (hx : c.ES x) : c.DB (ix c.Ac x)∧ix c.AB (ix c.Ac x)=x∧ix c.to (ix c.Ac x)=x:=h.HJ hx
end
end Go.Shf
namespace Go.Proofs.Shf
open Go.AW Go.Proofs Go.Shf
theorem Ff (B : Nat) (n : Int) (hn : 0≤n∧n≤4096) : PB B 119 [iI n] (iL (BG n)):=by
 refine ⟨fun H0=>qb.go fun _=>?_⟩
 have o : A9 H0 H0 []:=.nil _
 obtain ⟨N,rfl⟩ : ∃ N : Nat,n=N:=⟨_,(Int.toNat_of_nonneg hn.1).symm⟩;refine tt ?_;refine ⟨⟨by omega,by simp only [AN]; omega⟩,bU iI o fun id H o=>?_⟩
 have o : A9 H0 H [(id,.cells 1 ((BG (0 : Nat)).map iI++List.replicate (N - 0) (iI 0)) 0)]:=o;refine tt ?_;refine AD [3,8] (G:=Unit) (fun k _=>[(9,some (.int .i64 (k : Int)))]) (fun k _ H=>A9 H0 H [(id,.cells 1 ((BG (k : Nat)).map iI++List.replicate (N - k) (iI 0)) 0)]) N () o rfl ?_;clear o
 rintro k _ H hk o
 have hl : (BG (k : Nat)).length=k:=by simp [BG]
 refine tt ?_;apply bk <;> intro h1
 ·have AU:=A6 h1
  have w:=ws k
  obtain ⟨m,hm⟩ : ∃ m,N - k=m+1:=⟨N - k - 1,by omega⟩;rw [hm] at o;refine tt ?_;refine ⟨AU,kF (k : Int) o rfl (by rw [hl]) fun H o=>?_⟩;rw [show BG (k : Nat)++[(k : Int)]=BG ((k+1 : Nat) : Int) by simp [BG,List.range_succ],show m=N - (k+1) by omega] at o;refine tw w ?_;exact A4 () AU o rfl
 ·have AU:=A7 h1
  obtain rfl : k=N:=by omega
  rw [Nat.sub_self,List.replicate_zero,List.append_nil] at o;refine tt ?_;refine Am o hl.symm fun H o=>tt ?_;exact A5 rfl o.sub
theorem P9 (B : Nat) {m n k : Int} {a b : List Int} (ha : N1 m n a) (hb : N1 n k b) : HG Tryz.prog B 60 [iL a,iL b] (iL (iC a b)) :=
 (then_ok B a b fun y hy=>⟨(ha.mem hy).1,by have h1:=ha.mem hy; have h2:=hb.len; omega⟩).run
theorem IQ (B : Nat) {m n k : Int} {a b : List Int} (ha : N1 m n a) (hb : N1 n k b) : HG Tryz.prog B 68 [iL a,iL b] (iL (iC a b)) :=
 (JI B a b fun y hy=>⟨(ha.mem hy).1,by have h1:=ha.mem hy; have h2:=hb.len; omega⟩).run
theorem jR {m n : Int} {t : List Int} (ht : N1 m n t) (hm : 0≤m∧m≤16) (hn : 0≤n∧n≤16) (hp : pw m n≤64) : ∀ k,k≤t.length→0≤Gd n (t.take k) 0∧Gd n (t.take k) 0≤64:=fun k hk=>by
 have hl:=ht.len
 have hB : N1 k n (t.take k):=.of (by simp; omega) fun i hi=>by
  have q:=ht.at (i:=i) (by omega)
  have e : ix (t.take k) i=ix t i:=by
   rw [ix,ix,Go.AW.gE,List.getElem?_take,if_pos (by omega),← Go.AW.gE]
  rw [e]; exact q
 have q:=rA hB;rw [rp,Int.toNat_natCast] at q;rw [MX,Int.zero_mul,Int.zero_add,List.length_take,Nat.min_eq_left hk]
 by_cases e : k=0
 ·subst e;rw [pw,rp] at q;simp only [Int.toNat_natCast,List.replicate_zero,Bb] at q;simp only [List.replicate_zero];omega
 ·have h1:=ht.at (i:=0) (by omega)
  have q2:=Rz (n:=n) (by omega) k m.toNat (by omega);rw [pw,rp] at hp;rw [pw,rp,Int.toNat_natCast] at q;omega
theorem Rq {f : SF} (hf : f.Shape) {x : Int} (hx : f.shape.ES x) : 0≤x∧x.toNat<f.AK.length:=by
 have h1:=hx.1
 have h2:=hx.2
 have h3:=hf.sl;exact ⟨h1,by omega⟩
theorem xG {f : SF} (hf : f.Shape) {a : Int} (ha : f.shape.DB a) : 0≤a∧a.toNat<f.AJ.length:=⟨ha.1,by have:=hf.al; have:=ha.2; omega⟩
def qe {α : Type} (id : Nat) (A : List α) (Y : AV) : Prop:=(A=[]∧Y=.Dg)∨Y=.Nj id A.length
theorem iZ {α : Type} {f : α→AV} {H0 H : AA} {l : Ob} {id fr n : Nat} {A : List α} {a b : Int} {K : Ak} (h : A9 H0 H ((id,.cells 1 (A.map f) fr)::l)) (hn : n=A.length) (ha : a=n) (hb : b=n)
  (hk : ∀ Y,qe id A Y→K Y H) : cX 1 n (jK id n a b) (H.get id) K H:=by
 have h0:=h.h0;simp only at h0;rw [h0];refine ⟨⟨rfl,by simp [hn]⟩,⟨ha,hb⟩,hk _ ?_⟩
 by_cases e : n=0
 ·rw [if_pos e]; exact .inl ⟨List.eq_nil_of_length_eq_zero (by omega),rfl⟩
 ·rw [if_neg e,hn]; exact .inr rfl
theorem qe.app {α : Type} [Inhabited α] {f : α→AV} [One f] {H0 H : AA} {l : Ob} {id fr : Nat} {A : List α} {Y : AV} {K : Ak} (t : qe id A Y) (a : α) {v : AV} (h : A9 H0 H ((id,.cells 1 (A.map f) fr)::l)) (hv : v=f a) (hm : A.length+1≤AN)
  (hk : ∀ Bz H',A9 H0 H' ((Bz,.cells 1 ((A++[a]).map f) 0)::l)→K (.buf Bz (A++[a]).length) H') : Co 1 (some Y) (some (.sl [v])) K H:=by
 rcases t with ⟨rfl,rfl⟩ | rfl
 ·exact kE a h.tl hv hk
 ·subst hv
  have h0:=h.h0;simp only at h0;simp only [Co,h0,C5,MS];refine ⟨⟨trivial,by simp,by simp,by simpa using hm,by simpa using hm,Km a⟩,fun Bz hn=>?_⟩
  have:=hk Bz _ (h.tl.new hn (.cells 1 ((A++[a]).map f) 0))
  have e : A.map f++flat [f a]=(A++[a]).map f:=by simp [flat,C7]
  rw [e]
  simpa using this
theorem K1 (f g : SF) : (C6 f g).AK.length=f.shape.AF.toNat:=by simp [C6]
def Fs (f g : SF) (x : Int) : List Int:=(List.range g.shape.AF.toNat).map fun y : Nat=>pw (ix f.AK x) (ix g.AK y)
theorem PT {f g : SF} {x : Int} (h : 0≤x∧x<f.shape.AF) : ix (C6 f g).AK x=Fs f g x:=oY (fun x=>Fs f g x) ⟨h.1,by omega⟩
theorem Cw (f g : SF) (x : Int) : (Fs f g x).length=g.shape.AF.toNat:=by simp [Fs]
theorem PM {f g : SF} {x y : Int} (h : 0≤y∧y<g.shape.AF) : ix (Fs f g x) y=pw (ix f.AK x) (ix g.AK y):=oY (fun y=>pw (ix f.AK x) (ix g.AK y)) ⟨h.1,by omega⟩
def yM : Ax:=⟨0,[],[],[],[]⟩
def pf0 : PF:=⟨yM,yM,[],[],[]⟩
@[go_sem] def Af : List AV:=[iI 0,.A0,.A0,.A0,.A0,iI 0,.A0,.A0,.A0,.A0,.A0,.A0,.A0]
@[go_sem] def CM (c d : Ax) (X Y Z : AV) : List AV:=[iI c.AF,iL c.AB,iL c.to,iL c.Ac,B5 c.comp,iI d.AF,iL d.AB,iL d.to,iL d.Ac,B5 d.comp,X,Y,Z]
theorem eY {F : Env→AA→Prop} {σ : Env} {H0 H : AA} {l : Ob} {id : Nat} (o : A9 H0 H ((id,.cells 13 Af 0)::l)) (hk : ∀ H',A9 H0 H' ((id,.cells 13 pf0.cells 0)::l)→EX F σ H') : EX F σ H:=by
 unfold Af at o;refine UY 1 o rfl fun H o=>?_;refine UY 2 o rfl fun H o=>?_;refine UY 3 o rfl fun H o=>?_;refine UY 4 o rfl fun H o=>?_;refine UY 6 o rfl fun H o=>?_;refine UY 7 o rfl fun H o=>?_;refine UY 8 o rfl fun H o=>?_;refine UY 9 o rfl fun H o=>?_;refine UY 10 o rfl fun H o=>?_;refine UY 11 o rfl fun H o=>?_;refine UY 12 o rfl fun H o=>?_;exact hk H o
def sN (p : PF) : List AV:=CM p.src p.AL (B5 p.AK) (BE p.before) (BE p.behind)
def K8 (f g : SF) (a : Int) : List (List Int):=(List.range g.shape.AF.toNat).map fun y : Nat=>Kv f g a y
def Js (f g : SF) (b : Int) : List (List Int):=(List.range f.shape.AF.toNat).map fun x : Nat=>L2 f g b x
theorem Ja (f g : SF) (x : Int) : (K8 f g x).length=g.shape.AF.toNat:=by simp [K8]
theorem KN (f g : SF) (x : Int) : (Js f g x).length=f.shape.AF.toNat:=by simp [Js]
theorem nX {f g : SF} {x y : Int} (h : 0≤y∧y<g.shape.AF) : ix (K8 f g x) y=Kv f g x y:=oY (fun y=>Kv f g x y) ⟨h.1,by omega⟩
theorem iM {f g : SF} {x y : Int} (h : 0≤y∧y<f.shape.AF) : ix (Js f g x) y=L2 f g x y:=oY (fun y=>L2 f g x y) ⟨h.1,by omega⟩
theorem lL {f g : SF} {a : Int} (h : f.shape.DB a) : ix (C6 f g).before a=K8 f g a:=oY (fun a=>K8 f g a) h
theorem jI {f g : SF} {b : Int} (h : g.shape.DB b) : ix (C6 f g).behind b=Js f g b:=oY (fun b=>Js f g b) h
theorem Fl {α : Type} [Inhabited α] {l : List α} {k : Nat} (h : k<l.length) {y : α} (e : ix l (k : Int)=y) : l.take (k+1)=l.take k++[y]:=by
 rw [Ar _ h,← e,AR]
theorem Tv {s : List Int} {k : Nat} (hk : k<s.length) : Bb (s.drop k)=s.getD k default*Bb (s.drop (k+1)):=by
 have : s.drop k=s.getD k default::s.drop (k+1):=by
  rw [List.drop_eq_getElem_cons hk]; simp [Go.AW.gE,hk]
 rw [this,Bb]
def T7 (s : List Int) (n : Int) (k : Nat) : List Int:=(List.range s.length).map fun j=>if s.length≤j+k then Xm s n j else 0
theorem aC (s : List Int) (n : Int) : T7 s n 0=List.replicate s.length 0:=by
 refine List.ext_getElem (by simp [T7]) fun i h1 h2=>?_
 have : i<s.length:=by simpa [T7] using h1
 simp [T7]; omega
theorem aH (s : List Int) (n : Int) : T7 s n s.length=T8 s n:=by
 refine List.ext_getElem (by simp [T7,T8]) fun i h1 h2=>?_
 simp [T7,T8]
theorem Yr (s : List Int) (n : Int) {k : Nat} (hk : k<s.length) : (T7 s n k).set (s.length - 1 - k) (Xm s n (s.length - 1 - k))=T7 s n (k+1):=by
 refine List.ext_getElem (by simp [T7]) fun i h1 h2=>?_
 have hi : i<s.length:=by simpa [T7] using h2
 simp only [T7,List.getElem_set,List.getElem_map,List.getElem_range]
 by_cases e : s.length - 1 - k=i
 ·rw [if_pos e,if_pos (by omega),e]
 ·rw [if_neg e]
  by_cases e2 : s.length≤i+k
  ·rw [if_pos e2,if_pos (by omega)]
  ·rw [if_neg e2,if_neg (by omega)]
theorem Uz (s : List Int) (n : Int) (k : Nat) : (T7 s n k).length=s.length:=by simp [T7]
theorem kH {s : List Int} (hp : ∀ a,a∈s→0<a) {n : Int} (hn : 0≤n) {k j : Nat} (hk : k<s.length) (hj : j=s.length - 1 - k) :
  (n / Bb (s.drop (s.length - k))).tmod (s.getD j default)=Xm s n j∧(n / Bb (s.drop (s.length - k))).tdiv (s.getD j default)=n / Bb (s.drop (s.length - (k+1))) ∧
  0<s.getD j default∧0≤n / Bb (s.drop (s.length - (k+1)))∧n / Bb (s.drop (s.length - (k+1)))≤n∧0≤Xm s n j∧s.length - k=j+1∧s.length - (k+1)=j∧j<s.length:=by
 have Fb : j<s.length:=by omega
 have e1 : s.length - k=j+1:=by omega
 have e2 : s.length - (k+1)=j:=by omega
 have hb:=hp _ (AE.mpr ⟨j,Fb,rfl⟩)
 have hP : 0<Bb (s.drop (j+1)):=I9 fun a ha=>hp a (List.mem_of_mem_drop ha)
 have hq : 0≤n / Bb (s.drop (j+1)):=Int.ediv_nonneg hn (by omega);rw [e1,e2,Int.tmod_eq_emod_of_nonneg hq,Int.tdiv_eq_ediv_of_nonneg hq,Tv Fb,Int.mul_comm,← Int.ediv_ediv_of_nonneg (by omega)];refine ⟨rfl,rfl,hb,Int.ediv_nonneg hq (by omega),Int.le_trans (Int.ediv_le_self _ hq) (Int.ediv_le_self _ hn),Int.emod_nonneg _ (by omega),by omega,by omega,Fb⟩
theorem SD (B : Nat) (s : List Int) (hl : s.length≤4096) (hp : ∀ a,a∈s→0<a) (n : Int) (hn : 0≤n∧n<9223372036854775807) : PB B 69 [iL s,iI n] (iL (T8 s n)):=by
 refine ⟨fun H0=>c69.go fun _=>?_⟩
 have w0 : IntKind.i64.wrap ((s.length : Int) - 1)=(s.length : Int) - 1:=wrap_i64 (by omega) (by omega)
 have o : A9 H0 H0 []:=.nil _;refine tt ?_;refine ⟨⟨by omega,by simp only [AN]; omega⟩,EI iI 0 rfl o fun id H o=>?_⟩;refine tw w0 ?_
 refine AD [0,5] (G:=List Int) (fun k _=>[(1,some (iI (n / Bb (s.drop (s.length - k))))),(6,some (iI ((s.length : Int) - 1 - k)))])
  (fun k A H=>A=T7 s n k∧A9 H0 H [(id,.cells 1 (A.map iI) 0)]) s.length (List.replicate s.length 0) ⟨(aC s n).symm,o⟩ (by simp [Bb]; rfl) ?_
 clear o
 rintro k A H hk ⟨hA,o⟩;refine tt ?_;apply bk <;> intro h1
 ·have AU : k<s.length:=by simp at h1; omega
  obtain ⟨j,hj⟩ : ∃ j,j=s.length - 1 - k:=⟨_,rfl⟩
  obtain ⟨m1,m2,m3,m4,m5,m6,m7,m8,m9⟩:=kH hp hn.1 AU hj
  have ej : (s.length : Int) - 1 - k=(j : Int):=by omega
  have w1 : IntKind.i64.wrap ((j : Int) - 1)=(j : Int) - 1:=wrap_i64 (by omega) (by omega)
  have w2 : IntKind.i64.wrap (n / Bb (s.drop (s.length - (k+1))))=n / Bb (s.drop (s.length - (k+1))):=wrap_i64 (by omega) (by omega);rw [ej];refine tt ?_;refine ⟨m9,by omega,m9, ?_⟩;rw [m1];refine BT (f:=iI) _ o rfl (by rw [hA,Uz]; exact m9) fun H o=>tt ?_;refine ⟨m9,by omega, ?_⟩;rw [m2];refine t2 w2 w1 ?_
  exact A4 (A.set j (Xm s n j)) AU ⟨by rw [hA,hj,Yr s n AU],o⟩ (by rw [show (s.length : Int) - 1 - ((k+1 : Nat) : Int)=(j : Int) - 1 by omega])
 ·have AU : k=s.length:=by simp at h1; omega
  subst AU;refine tt ?_;refine Am o (by rw [hA,Uz]) fun H o=>tt ?_;rw [hA,aH];exact A5 rfl o.sub
theorem KB (B : Nat) (m n : Int) (t : List Int) (ht : N1 m n t) (hm : 0≤m∧m≤16) (hn : 0≤n∧n≤16) (hp : pw m n≤64) : PB B 67 [iL (rp m n),iL t] (iI (Hk (rp m n) t)):=by
 refine ⟨fun H0=>c67.go fun _=>?_⟩
 have hl:=ht.len
 have hb:=jR ht hm hn hp;refine tt ?_;refine AD [0,1] (G:=Unit) (fun k _=>[(5,some (.int .i64 (Gd n (t.take k) 0))),(6,some (.int .i64 (k : Int)))]) (fun k _ H=>H=H0) t.length () rfl rfl ?_
 rintro k _ H hk rfl;refine tt ?_;apply bk <;> intro h1
 ·have AU : k<t.length:=A6 h1
  have w1:=ws k
  have b1:=hb k hk
  have b2:=hb (k+1) AU
  have es : Gd n (t.take (k+1)) 0=Gd n (t.take k) 0*n+t.getD k default:=by rw [Ar t AU,Oj]
  have h2 : Gd n (t.take k) 0*n≤64*16:=Int.mul_le_mul b1.2 hn.2 hn.1 (by omega)
  have h3 : 0≤Gd n (t.take k) 0*n:=Int.mul_nonneg b1.1 hn.1
  have w2 : IntKind.i64.wrap (Gd n (t.take k) 0*n)=Gd n (t.take k) 0*n:=wrap_i64 (by omega) (by omega)
  have w3 : IntKind.i64.wrap (Gd n (t.take k) 0*n+t.getD k default)=Gd n (t.take (k+1)) 0:=by rw [← es]; exact wrap_i64 (by omega) (by omega)
  have hr : (rp m n).getD k default=n:=fK (by omega);try simp only [go_sem,↓reduceIte,reduceEqDiff,reduceAdd,reduceMul,reduceLeDiff,reduceLT,hr,w1,w2,w3]
  refine ⟨by rw [QV]; omega, ?_⟩;try simp only [go_sem,↓reduceIte,reduceEqDiff,reduceAdd,reduceMul,reduceLeDiff,reduceLT,hr,w1,w2,w3]
  exact ⟨AU,A4 () AU rfl rfl⟩
 ·have AU : k=t.length:=by have:=A7 h1; omega
  subst AU
  have e : Gd n (t.take t.length) 0=Hk (rp m n) t:=by rw [List.take_length,MX,Int.zero_mul,Int.zero_add,rp,hl]
  rw [e];refine tt ?_;exact A5 rfl (.refl _)
def D8 (n : Int) : Nat→Int
 | 0=>1
 | k+1=>if D8 n k≤64 then D8 n k*n else D8 n k
theorem Qq {n : Int} (hn : 0≤n) : ∀ k,(Bb (List.replicate k n)≤64→D8 n k=Bb (List.replicate k n))∧(64<Bb (List.replicate k n)→64<D8 n k)
 | 0=>⟨fun _=>rfl,fun h=>by simp [Bb] at h⟩
 | k+1=>by
  obtain ⟨h1,h2⟩:=Qq hn k;rw [I7,D8]
  have h0:=Ml hn k
  by_cases e : Bb (List.replicate k n)≤64
  ·rw [h1 e,if_pos e,Int.mul_comm]; exact ⟨fun _=>rfl,fun h=>h⟩
  ·have h3:=h2 (by omega);rw [if_neg (by omega)];refine ⟨fun h=>?_,fun _=>h3⟩
   by_cases en : n=0
   ·subst en
    cases k with
    | zero=>simp [Bb] at e
    | succ k=>rw [I7] at e; omega
   ·exfalso
    have : 1*Bb (List.replicate k n)≤n*Bb (List.replicate k n):=Int.mul_le_mul_of_nonneg_right (by omega) h0;omega
theorem NP {n : Int} (hn : 0≤n∧n≤16) : ∀ k,0≤D8 n k∧D8 n k≤1024
 | 0=>by simp [D8]
 | k+1=>by
  have h:=NP hn k;rw [D8]
  split
  ·have h1:=Int.mul_nonneg h.1 hn.1
   have h2 : D8 n k*n≤64*16:=Int.mul_le_mul (by omega) hn.2 hn.1 (by omega);omega
  ·exact h
theorem RL (B : Nat) (m n : Int) (hm : 0≤m∧m≤16) (hn : 0≤n∧n≤16) : PB B 65 [iI m,iI n] (iI (D8 n m.toNat)):=by
 refine ⟨fun H0=>c65.go fun _=>?_⟩
 have stay : ∀ (k j : Nat),64<D8 n k→D8 n (k+j)=D8 n k:=fun k j h=>by
  induction j with
  | zero=>rfl
  | succ j ih=>rw [show k+(j+1)=(k+j)+1 from rfl,D8,ih,if_neg (by omega)]
 refine tt ?_;refine AD [0,1] (G:=Unit) (fun k _=>[(5,some (.int .i64 (D8 n k))),(6,some (.int .i64 (k : Int)))]) (fun k _ H=>H=H0) m.toNat () rfl rfl ?_
 rintro k _ H hk rfl
 have hb:=NP hn k
 have MI:=NP hn (k+1)
 have w1:=ws k;refine tt ?_;apply bk <;> intro h1
 ·have AU:=A6 h1;refine tw h1 ?_;apply bk <;> intro h2
  ·have Aq:=A6 h2
   have es : D8 n (k+1)=D8 n k*n:=by rw [D8,if_pos (by omega)]
   have w2 : IntKind.i64.wrap (D8 n k*n)=D8 n (k+1):=by rw [← es]; exact wrap_i64 (by omega) (by omega)
   try simp only [go_sem,↓reduceIte,reduceEqDiff,reduceAdd,reduceMul,reduceLeDiff,reduceLT,w1,w2,h2]
   exact A4 () (by omega) rfl rfl
  ·have Aq:=A7 h2;refine tw h2 ?_;exact A5 (by rw [show m.toNat=k+(m.toNat - k) by omega,stay _ _ (by omega)]) (.refl _)
 ·have AU:=A7 h1;refine tw h1 ?_;exact A5 (by rw [show m.toNat=k by omega]) (.refl _)
end Go.Proofs.Shf
namespace Go.AW
theorem Qd {P : Program} {B : Nat} {l : List Nat} {a b : SC} {Q : AQ} {σ : Env} {H : AA} (M : Env→AA→Prop) (h1 : Dx P B a (n9 l M Q) σ H) (h2 : ∀ σ' H',M σ' H'→Dx P B b Q σ' H') : Dx P B (.cut l a b) Q σ H:=⟨M,h1,h2⟩
theorem SE (σ : Env) : ∀ (l : List Nat) (s : Nat) (x : AV),(Env.BF l σ).get s=some x→σ.get s=some x
 | [],s,x,h=>by simp [Env.BF,Env.get] at h
 | t::r,s,x,h=>by
  rw [Wt] at h;simp only [Env.get] at h
  split at h
  ·rename_i e; subst e; exact h
  ·exact SE σ r s x h
theorem Vg (l : List Nat) {F : Env→AA→Prop} {σ : Env} {H : AA} (hk : F (Env.BF l σ) H) : EX F σ H :=
 ⟨_,H,fun g B w tm a b=>⟨g,.refl g,a,fun s x e=>b s x (SE σ l s x e)⟩,hk⟩
end Go.AW
namespace Go.Proofs.Shf
open Go.AW Go.Proofs Go.Shf
theorem VC (B : Nat) (m n : Int) (hm : 0≤m∧m≤16) : PB B 66 [iI n,iI m] (iL (rp m n)):=by
 have:=Q6 B n m.toNat (by omega);rw [Int.toNat_of_nonneg hm.1] at this;exact this
theorem e6 {f g : SF} {x : Int} (hx : f.shape.ES x) : 0≤x∧x.toNat<(C6 f g).AK.length:=by
 have h : 0≤x∧x<f.shape.AF:=hx;rw [K1]; omega
theorem sZ {f g : SF} {x y : Int} (hx : f.shape.ES x) (hy : g.shape.ES y) : 0≤y∧y.toNat<(ix (C6 f g).AK x).length:=by
 have h : 0≤y∧y<g.shape.AF:=hy;rw [PT hx,Cw]; omega
structure oK (c d : Ax) (ob a0 ar : List Int) : Prop where
 ty : Wl c d ob ar
 kn : ∀ i : Nat,0≤a0.getD i default→0≤ar.getD i default
theorem oK.set {c d : Ax} {ob a0 ar : List Int} {h v : Int} (t : oK c d ob a0 ar) (hh : c.DB h) (hv : TV c d ob h v) : oK c d ob a0 (ar.set h.toNat v):=by
 refine ⟨t.ty.set hh hv,fun i hi=>?_⟩
 by_cases e : h.toNat=i
 ·subst e
  have hl : h.toNat<ar.length:=by rw [t.ty.len]; exact hh.2
  have : (ar.set h.toNat v).getD h.toNat default=v:=by simp [Go.AW.gE,hl]
  rw [this]; exact hv.1.1
 ·have : (ar.set h.toNat v).getD i default=ar.getD i default:=by simp [Go.AW.gE,List.getElem?_set_ne e]
  rw [this]; exact t.kn i hi
def Fn (c d : Ax) (ob ar : List Int) : Prop:=Wl c d ob ar∧∀ i : Nat,i<c.AB.length→0≤ar.getD i default
theorem Fn.ar {c d : Ax} {ob ar : List Int} (h : Fn c d ob ar) {a : Int} (ha : c.DB a) : TV c d ob a (ix ar a) :=
 (h.1.ty a ha).resolve_left (by have:=h.2 a.toNat ha.2; have e : ix ar a=ar.getD a.toNat default:=rfl; omega)
def sY (c d : Ax) (ob a0 : List Int) (H0 : AA) (id : Nat) (l : Ob) : Ak:=fun r H'=>∃ (b : Bool) (ar : List Int),r=.bool b∧oK c d ob a0 ar∧A9 H0 H' ((id,.cells 1 (ar.map iI) 0)::l)
theorem Pr (B : Nat) {c d : Ax} (hc : c.Shape) (hd : d.Shape) {ob a0 ar : List Int} (t : oK c d ob a0 ar) (id : Nat) (l : Ob) (H0 H : AA) (o : A9 H0 H ((id,.cells 1 (ar.map iI) 0)::l)) :
  CB B 320 [.agg c.cells,.agg d.cells,.buf id c.AB.length] H (sY c d ob a0 H0 id l):=by
 refine oq.go fun _=>?_
 have sm:=hc.m;refine tt ?_
 refine E3 [2,3,4] (G:=Bool × List Int) (fun g=>[(7,some (.bool g.1))]) (fun m g H=>(m=aM g.2+(if g.1=true then 1 else 0)∧oK c d ob a0 g.2)∧A9 H0 H ((id,.cells 1 (g.2.map iI) 0)::l))
  (aM ar+1) (true,ar) ⟨⟨by simp,t⟩,o⟩ rfl ?_
 clear o t ar
 rintro m ⟨more,ar⟩ H ⟨⟨hm,t⟩,o⟩;dsimp only at hm t o
 cases more
 ·refine tt ?_;exact ⟨H,.refl _,true,ar,rfl,t,o⟩
 rw [if_pos rfl] at hm;refine tt ?_
 obtain ⟨n0,Xj⟩ : ∃ n0,aM ar=n0:=⟨_,rfl⟩;rw [Xj] at hm
 refine AD [2,3,4] (G:=Bool × List Int) (fun a g=>[(7,some (.bool g.1)),(8,some (.int .i64 (a : Int)))])
  (fun a g H=>(aM g.2+(if g.1=true then 1 else 0)≤n0∧oK c d ob a0 g.2)∧A9 H0 H ((id,.cells 1 (g.2.map iI) 0)::l)) c.AB.length (false,ar) ⟨⟨by simp [Xj],t⟩,o⟩ rfl ?_
 clear o t Xj ar
 rintro a ⟨more,ar⟩ H ha ⟨⟨V7,t⟩,o⟩;dsimp only at V7 t o;refine tt ?_;apply bk <;> intro h1
 rotate_left
 ·refine tt ?_;exact CJ (aM ar+(if more=true then 1 else 0)) (more,ar) (by omega) ⟨⟨rfl,t⟩,o⟩ rfl
 have AU:=A6 h1
 have w1:=ws a
 have Ke : c.DB a:=⟨by omega,AU⟩
 have ci:=(hc.oA Ke).2
 have cj : (c.comp.getD a default).length=c.AB.length:=hc.nA Ke;refine tt ?_
 refine AD [2,3,4,8] (G:=Bool × List Int) (fun b g=>[(7,some (.bool g.1)),(9,some (.int .i64 (b : Int)))])
  (fun b g H=>(aM g.2+(if g.1=true then 1 else 0)≤n0∧oK c d ob a0 g.2)∧A9 H0 H ((id,.cells 1 (g.2.map iI) 0)::l)) c.AB.length (more,ar) ⟨⟨V7,t⟩,o⟩ rfl ?_
 clear o t V7
 rintro b ⟨more,ar⟩ H hb ⟨⟨V7,t⟩,o⟩;dsimp only at V7 t o
 have hl:=t.ty.len;refine tt ?_;apply bk <;> intro h2
 rotate_left
 ·refine tw w1 ?_;exact A4 (more,ar) AU ⟨⟨V7,t⟩,o⟩ rfl
 have Aq:=A6 h2
 have w2:=ws b
 have OM : c.DB b:=⟨by omega,Aq⟩
 have cj2 : b<(c.comp.getD a default).length:=by rw [cj]; exact Aq
 refine tt ?_;refine ⟨ci,cj2, ?_⟩
 rcases hc.qM Ke OM with ⟨Xv,fV⟩ | XQ
 rotate_left
 ·have CF : (c.comp.getD a default).getD b default<0:=by
   have e : (c.comp.getD a default).getD b default=-1:=XQ;omega
  rw [decide_eq_true CF];refine tw w2 ?_;exact A4 (more,ar) Aq ⟨⟨V7,t⟩,o⟩ rfl
 obtain ⟨h,hh⟩ : ∃ h : Int,(c.comp.getD a default).getD b default=h:=⟨_,rfl⟩
 have fV : c.DB ((c.comp.getD a default).getD b default):=fV
 have xu : ix (ix c.comp a) b=h:=hh;rw [hh] at fV ⊢;rw [decide_eq_false (show ¬ h<0 by have:=fV.1; omega)];refine tt ?_;refine ⟨AU,CI o (by omega) ?_⟩;refine tt ?_
 by_cases na : ar.getD a default<0
 ·rw [decide_eq_true na];refine tw w2 ?_;exact A4 (more,ar) Aq ⟨⟨V7,t⟩,o⟩ rfl
 rw [decide_eq_false na];refine tt ?_;refine ⟨Aq,CI o (by omega) ?_⟩;refine tt ?_
 by_cases nb : ar.getD b default<0
 ·rw [decide_eq_true nb];refine tw w2 ?_;exact A4 (more,ar) Aq ⟨⟨V7,t⟩,o⟩ rfl
 rw [decide_eq_false nb]
 have ta : TV c d ob a (ar.getD a default):=(t.ty.ty a Ke).resolve_left na
 have tb : TV c d ob b (ar.getD b default):=(t.ty.ty b OM).resolve_left nb
 have ti:=ta.comp hc hd Ke OM Xv tb;rw [xu] at ti
 have di:=hd.oA ta.1
 have dj : (ix d.comp (ar.getD a default)).length=d.AB.length:=hd.nA ta.1
 have dj2 : (ar.getD b default).toNat<(ix d.comp (ar.getD a default)).length:=by rw [dj]; exact tb.1.2
 have tb0:=tb.1.1;refine tt ?_;refine ⟨AU,CI o (by omega) ?_⟩;refine tt ?_;refine ⟨di, ?_⟩;refine ⟨Aq,CI o (by omega) ?_⟩;refine tt ?_;refine ⟨⟨tb0,dj2⟩, ?_⟩
 obtain ⟨v,hv⟩ : ∃ v : Int,ix (ix d.comp (ar.getD a default)) (ar.getD b default)=v:=⟨_,rfl⟩;rw [hv] at ti ⊢
 have gH:=fV.1
 have dS : h.toNat<ar.length:=by rw [hl]; exact fV.2
 have pX : h.toNat<c.AB.length:=fV.2
 have v0:=ti.1.1;refine tt ?_;refine ⟨⟨gH,pX⟩,CI o dS ?_⟩;refine tt ?_
 by_cases g : 0≤ar.getD h.toNat default
 ·rw [decide_eq_true g];refine tt ?_;refine ⟨⟨gH,pX⟩,CI o dS ?_⟩;refine tt ?_;apply bk <;> intro h3
  ·refine tt ?_;exact ⟨H,.refl _,false,ar,rfl,t,o⟩
  have BH : ar.getD h.toNat default=v:=by simpa using h3
  have hs : ar.set h.toNat v=ar:=by
   rw [← BH];refine List.ext_getElem (by simp) fun i q1 q2=>?_
   by_cases e : h.toNat=i
   ·subst e; simp [Go.AW.gE,q2]
   ·simp [List.getElem_set,e]
  cases more
  ·refine tt ?_;refine ⟨⟨gH,pX⟩,CI o dS ?_⟩;refine tt ?_;rw [decide_eq_false (show ¬ ar.getD h.toNat default<0 by omega)];refine tt ?_;refine ⟨⟨gH,pX⟩,BT v o rfl dS fun H o=>?_⟩;rw [hs] at o;refine tw w2 ?_;exact A4 (false,ar) Aq ⟨⟨V7,t⟩,o⟩ rfl
  ·refine tt ?_;refine ⟨⟨gH,pX⟩,BT v o rfl dS fun H o=>?_⟩;rw [hs] at o;refine tw w2 ?_;exact A4 (true,ar) Aq ⟨⟨V7,t⟩,o⟩ rfl
 ·rw [decide_eq_false g]
  have hn:=VI (v:=v) dS (by omega) v0
  have t2:=t.set fV ti
  cases more
  ·rw [if_neg (by simp)] at V7;refine tt ?_;refine ⟨⟨gH,pX⟩,CI o dS ?_⟩;refine tt ?_;rw [decide_eq_true (show ar.getD h.toNat default<0 by omega)];refine tt ?_;refine ⟨⟨gH,pX⟩,BT v o rfl dS fun H o=>?_⟩;refine tw w2 ?_;exact A4 (true,ar.set h.toNat v) Aq ⟨⟨by simp only [if_true]; omega,t2⟩,o⟩ rfl
  ·rw [if_pos rfl] at V7;refine tt ?_;refine ⟨⟨gH,pX⟩,BT v o rfl dS fun H o=>?_⟩;refine tw w2 ?_;exact A4 (true,ar.set h.toNat v) Aq ⟨⟨by simp only [if_true]; omega,t2⟩,o⟩ rfl
def qj (c d : Ax) (ob : List Int) (H0 : AA) (l : Ob) : Ak:=fun r H'=>∃ (id : Nat) (out : List (List Int)),r=.buf id out.length∧(out.length≤201∧∀ a,a∈out→Fn c d ob a)∧A9 H0 H' ((id,.cells 1 (out.map iL) 0)::l)
theorem NT (B : Nat) {c d : Ax} (hc : c.Shape) (hd : d.Shape) {ob : List Int} (Ee : iG c d ob) (l : Ob) (H0 : AA) : ∀ (n f : Nat) (ar : List Int) (id Eo : Nat) (out : List (List Int)) (H : AA),c.AB.length - f=n→f≤c.AB.length →
  Wl c d ob ar→(∀ i : Nat,i<f→0≤ar.getD i default)→out.length≤200→(∀ a,a∈out→Fn c d ob a)→A9 H0 H ((id,.cells 1 (ar.map iI) 0)::(Eo,.cells 1 (out.map iL) 0)::l) →
  CB B 311 [.agg c.cells,.agg d.cells,iL ob,.buf id c.AB.length,iI f,.buf Eo out.length] H (qj c d ob H0 l):=by
 intro n
 induction n using Nat.strongRecOn with
 | _ n ih =>
 intro f ar id Eo out H hn hf t hO B2 TT o;refine qE.go fun _=>?_
 have sm:=hc.m
 have hl:=t.len
 have tl:=hc.L5;refine tt ?_;refine Am (f:=iI) o hl.symm fun H o=>tt ?_;refine Qd (fun σ H=>∃ g : Nat,f≤g∧g≤c.AB.length∧(∀ i : Nat,i<g→0≤ar.getD i default)∧(g<c.AB.length→ar.getD g default<0)∧σ=[(2,some (iL ob)),(3,some (iL ar)),(4,some (iI g)),(5,some (.buf Eo out.length)),(6,some (.ptr c.cells)),(7,some (.ptr d.cells))]∧A9 H0 H ((Eo,.cells 1 (out.map iL) 0)::l)) ?_ ?_
 ·refine tt ?_;refine AD [2,3,5,6,7] (G:=Unit) (fun k _=>[(4,some (.int .i64 ((f+k : Nat) : Int)))]) (fun k _ H'=>H'=H∧∀ i : Nat,i<f+k→0≤ar.getD i default) (c.AB.length - f) () ⟨rfl,hO⟩ rfl ?_
  rintro k _ H' hk ⟨rfl,E8⟩;refine tt ?_
  by_cases h1 : f+k<ar.length
  ·have AU:=h1;rw [decide_eq_true h1]
   have w:=Oi (k:=f+k) (by omega);refine tt ?_;refine ⟨AU, ?_⟩
   by_cases h2 : 0≤ar.getD (f+k) default
   ·rw [decide_eq_true h2];refine tw w ?_
    exact A4 () (by omega) ⟨rfl,fun i hi=>by
     by_cases e : i=f+k
     ·subst e; exact h2
     ·exact E8 i (by omega)⟩ rfl
   ·rw [decide_eq_false h2];refine tt ?_;exact AX ⟨f+k,by omega,by omega,E8,fun _=>by omega,rfl,o⟩
  ·rw [decide_eq_false h1];refine tt ?_;exact AX ⟨f+k,by omega,by omega,E8,fun h=>by omega,rfl,o⟩
 clear o
 rintro σ H ⟨g,hfg,hg,lS,XQ,rfl,o⟩;refine tt ?_;apply bk <;> intro h1
 ·have AU:=A6 h1;refine tt ?_;refine (CX B ar).go fun _=>tt ?_;refine Ae (f:=iL) ar o rfl rfl (by simp only [AN]; omega) fun Eo H o=>tt ?_
  exact ⟨H,.refl _,Eo,_,rfl,⟨by simp; omega,fun x hx=>by
   rcases List.mem_append.mp hx with h | h
   ·exact TT x h
   ·obtain rfl:=List.mem_singleton.mp h;exact ⟨t,fun i hi=>lS i (by omega)⟩⟩,o⟩
 have AU : g<c.AB.length:=by have:=A7 h1; omega
 have LW : c.DB g:=⟨by omega,AU⟩
 have w:=ws g
 have tI:=hc.v9 LW
 have f1:=Ee.ob _ (hc.pO LW)
 have t1:=Ee.ob _ (hc.qR LW)
 have fo:=hc.pO LW
 have to:=hc.qR LW
 have ol:=Ee.len
 have i1 : 0≤ix c.AB g∧(ix c.AB g).toNat<ob.length:=⟨fo.1,by have:=fo.1; have:=fo.2; omega⟩
 have i2 : 0≤ix c.to g∧(ix c.to g).toNat<ob.length:=⟨to.1,by have:=to.1; have:=to.2; omega⟩;refine tt ?_
 (repeat (refine ⟨by first | exact AU | exact i1 | exact i2 | exact tI.2, ?_⟩))
 refine ⟨_,(Kl B d hd _ _).run, ?_⟩
 obtain ⟨hm,Zp⟩ : ∃ L,Ir d (ix ob (c.AB.getD g default)) (ix ob (c.to.getD g default))=L:=⟨_,rfl⟩;rw [Zp]
 have hmt : ∀ v,v∈hm→TV c d ob g v:=fun v hv=>TV.sC (by rw [← Zp] at hv; exact hv)
 have ET : hm.length≤40:=by
  have h5:=hd.m
  have h6 : (HU d (ix ob (c.AB.getD g default)) (ix ob (c.to.getD g default)) d.AB.length).length≤d.AB.length:=K9 _ _ _;rw [GW,Zp] at h6; omega
 refine tt ?_;refine AD [2,3,4,6,7,13] (G:=Nat × List (List Int)) (fun i g=>[(5,some (.buf g.1 g.2.length)),(14,some (.int .i64 (i : Int)))]) (fun i g H=>(g.2.length≤201∧∀ a,a∈g.2→Fn c d ob a)∧A9 H0 H ((g.1,.cells 1 (g.2.map iL) 0)::l)) hm.length (Eo,out) ⟨⟨by simp only; omega,TT⟩,o⟩ rfl ?_;clear o B2 TT
 rintro i ⟨Eo,out⟩ H hi ⟨⟨B2,TT⟩,o⟩;dsimp only at B2 TT o;refine tt ?_
 by_cases h2 : i<hm.length
 rotate_left
 ·rw [decide_eq_false h2];refine tt ?_;exact ⟨H,.refl _,Eo,out,rfl,⟨B2,TT⟩,o⟩
 have Aq : i<hm.length:=by omega
 have w2:=ws i;rw [decide_eq_true h2];refine tt ?_
 by_cases h3 : (out.length : Int)≤200
 rotate_left
 ·rw [decide_eq_false h3];refine tt ?_;exact ⟨H,.refl _,Eo,out,rfl,⟨B2,TT⟩,o⟩
 rw [decide_eq_true h3];refine tt ?_;refine (FM B ar H0 H _ o).own fun Ac A H o e=>?_;rw [e] at o ⊢
 have tv:=hmt _ (AE.mpr ⟨i,Aq,rfl⟩)
 have ts:=t.set LW tv;refine tw hl ?_;refine ⟨Aq, ?_⟩;refine ⟨AU,BT (hm.getD i default) o rfl (by omega) fun H o=>?_⟩;refine tt ?_;refine (Pr B hc hd (a0:=ar.set g (hm.getD i default)) ⟨ts,fun i hi=>hi⟩ Ac _ H0 H o).mono ?_
 rintro r H ⟨b,ar2,rfl,t2,o⟩
 cases b
 ·refine tw w2 ?_;exact A4 (Eo,out) Aq ⟨⟨B2,TT⟩,o.tl⟩ rfl
 ·refine tw w ?_;refine (ih (c.AB.length - (g+1)) (by omega) (g+1) ar2 Ac Eo out H rfl (by omega) t2.ty (fun j hj=>t2.kn j ?_) (by omega) TT o).mono ?_
  ·by_cases e : g=j
   ·subst e
    have Ce : g<ar.length:=by omega
    have : (ar.set g (hm.getD i default)).getD g default=hm.getD i default:=by simp [Go.AW.gE,Ce]
    rw [this]; exact tv.1.1
   ·have : (ar.set g (hm.getD i default)).getD j default=ar.getD j default:=by simp [Go.AW.gE,List.getElem?_set_ne e]
    rw [this]; exact lS j (by omega)
  rintro r H ⟨zf,out2,rfl,ib,o⟩;refine tw w2 ?_;exact A4 (zf,out2) Aq ⟨ib,o⟩ rfl
end Go.Proofs.Shf
