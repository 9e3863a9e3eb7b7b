/- Contracts, part 4. -/
import Derived.Test.YtnpimpkmgmnhhaaGreatF3
set_option linter.unusedVariables false
set_option linter.unusedSimpArgs false
set_option linter.unusedSectionVars false
set_option maxRecDepth 100000
open Nat (reduceEqDiff reduceAdd reduceMul reduceLeDiff reduceLT)
namespace Go.Proofs.Shf
open Go.AW Go.Proofs Go.Shf
theorem sq1 : PoR [[1]]:=.of (by decide) (by decide) (by decide) (by decide)
theorem l02Family_ok (B : Nat) : Rd B 164 [] (CatQ 100):=by
 intro id s H0 H hs o;refine c164p (by simp) fun _=>?_;unfold s164p;refine tt ?_;refine newRef_own o fun id2 H o=>tt ?_;refine (l01Next_ok B 12).go hs o.swap fun r s H _ ⟨k,e,hk0,hk1,_⟩ hs o=>?_;subst e
 have hk1:=hk1 (by omega);refine tt ?_;apply bk <;> intro q0
 ·refine tt ?_;refine (l01Next_ok B 5).go hs o fun r s H _ ⟨v,e,hv0,hv1,_⟩ hs o=>?_;subst e
  have hv1:=hv1 (by omega);refine tt ?_
  obtain ⟨v,rfl⟩:=Int.eq_ofNat_of_zero_le hv0;refine (l02Relation_ok B v (by omega)).go hs o fun r s H _ ⟨T,e,hT⟩ hs o=>?_;subst e;refine tt ?_;refine (l03Poset_ok B T hT).go fun r _ ⟨c,e,hc⟩=>?_;subst e;refine tt ?_;refine sw o.swap fun H o=>tt ?_
  have hr2:=o.rc 5 0 (by simp);simp only [List.drop_zero] at hr2;rw [hr2];refine tt ?_;exact src_ret ⟨c,rfl,hc.mono (by omega)⟩ hs o.swap
 refine tt ?_;apply bk <;> intro q1
 ·refine tt ?_;refine (l03Poset_ok B [[1,1],[0,1]] (.of (by decide) (by decide) (by decide) (by decide))).go fun r _ ⟨c,e,hc⟩=>?_;subst e;refine tt ?_;refine sw o.swap fun H o=>tt ?_
  have hr2:=o.rc 5 0 (by simp);simp only [List.drop_zero] at hr2;rw [hr2];refine tt ?_;exact src_ret ⟨c,rfl,hc.mono (by omega)⟩ hs o.swap
 refine tt ?_;apply bk <;> intro q2
 ·refine tt ?_;refine (l03Poset_ok B [[1,1,1],[0,1,0],[0,0,1]] (.of (by decide) (by decide) (by decide) (by decide))).go fun r _ ⟨c,e,hc⟩=>?_;subst e;refine tt ?_;refine sw o.swap fun H o=>tt ?_
  have hr2:=o.rc 5 0 (by simp);simp only [List.drop_zero] at hr2;rw [hr2];refine tt ?_;exact src_ret ⟨c,rfl,hc.mono (by omega)⟩ hs o.swap
 refine tt ?_;apply bk <;> intro q3
 ·refine tt ?_;refine (l03Paths_ok B 2 [0,0] [1,1] ⟨by decide,by decide,by decide,by decide⟩).go fun r _ ⟨c,e,hc⟩=>?_;subst e;refine tt ?_;refine sw o.swap fun H o=>tt ?_
  have hr2:=o.rc 5 0 (by simp);simp only [List.drop_zero] at hr2;rw [hr2];refine tt ?_;exact src_ret ⟨c,rfl,hc.mono (by omega)⟩ hs o.swap
 refine tt ?_;apply bk <;> intro q4
 ·refine tt ?_;refine (l02Monoid_ok B).go hs o fun r s H _ ⟨T,e,hT⟩ hs o=>?_;subst e;refine tt ?_;refine (l03Monoid_ok B T hT).go fun r _ ⟨c,e,hc⟩=>?_;subst e;refine tt ?_;refine sw o.swap fun H o=>tt ?_
  have hr2:=o.rc 5 0 (by simp);simp only [List.drop_zero] at hr2;rw [hr2];refine tt ?_;exact src_ret ⟨c,rfl,hc.mono (by omega)⟩ hs o.swap
 refine tt ?_;apply bk <;> intro q5
 ·refine tt ?_;refine (l01Next_ok B 3).go hs o fun r s H _ ⟨v,e,hv0,hv1,_⟩ hs o=>?_;subst e
  have hv1:=hv1 (by omega)
  obtain ⟨v,rfl⟩:=Int.eq_ofNat_of_zero_le hv0
  have wv : IntKind.i64.wrap (1+(v : Int))=((1+v : Nat) : Int):=by rw [wrap_i64 (by omega) (by omega)]; omega
  generalize hm : 1+v=m at *;refine tw wv ?_;refine newBuf_own o fun idr H o=>tt ?_;refine awp_for [2,3] (G:=Nat × List (List Int)) (fun i g=>[(4,some (.buf g.1 g.2.length)),(5,some (.int .i64 (i : Int)))]) (fun i g H=>g.2.length=i∧(∀ r,r∈g.2→r=List.replicate m 1)∧Owns H0 H [(g.1,MObj.cells 1 (g.2.map iL) 0),(id,s.obj),(id2,MObj.cells 5 [.int .i64 0,.nilsl,.nilsl,.nilsl,.nilsl] 0)]) m (idr,[]) ⟨rfl,by simp,o⟩ rfl ?_;clear o
  rintro i ⟨idr,T⟩ H hi ⟨hT,hTr,o⟩;dsimp only at hT hTr o;refine tt ?_;apply bk <;> intro h1
  ·have h1p:=of_decide h1
   have wi:=wsucc (k:=i) (by omega);refine tt ?_;refine newBuf_own o fun ida H o=>tt ?_;refine awp_for [2,3,4,5] (G:=Nat × List Int) (fun j g=>[(6,some (.buf g.1 g.2.length)),(7,some (.int .i64 (j : Int)))]) (fun j g H=>g.2=List.replicate j 1∧Owns H0 H [(g.1,MObj.cells 1 (g.2.map iI) 0),(idr,MObj.cells 1 (T.map iL) 0),(id,s.obj),(id2,MObj.cells 5 [.int .i64 0,.nilsl,.nilsl,.nilsl,.nilsl] 0)]) m (ida,[]) ⟨rfl,o⟩ rfl ?_;clear o
   rintro j ⟨ida,row⟩ H hj ⟨hrE,o⟩;dsimp only at hrE
   have hr : row.length=j:=by rw [hrE]; simp
   dsimp only at o;refine tt ?_;apply bk <;> intro h2
   ·have h2p:=of_decide h2
    have wj:=wsucc (k:=j) (by omega);refine tt ?_;refine app_own' _ o rfl rfl (by simp only [maxL]; omega) fun ida H row2 er2 hrow2 o=>?_;refine tw wj ?_;exact for_next (ida,row2) h2p ⟨by show row2=_; rw [er2,hrE,← List.replicate_succ'],o⟩ rfl
   ·have h2p:=of_ndecide h2;refine tt ?_;refine fz_own o rfl fun H o=>tt ?_;refine app_own' row o rfl rfl (by simp only [maxL]; omega) fun idr H T2 eT hT2 o=>?_;refine tw wi ?_;refine for_next (idr,T2) h1p ⟨by show T2.length=_; omega,fun r hr2=>?_,o⟩ rfl;dsimp only at hr2;rw [eT] at hr2
    rcases List.mem_append.mp hr2 with h | h
    ·exact hTr r h
    ·rw [List.mem_singleton] at h; subst h; rw [hrE,show j=m by omega]
  have h1p:=of_ndecide h1
  have hTm : T.length=m:=by omega
  have hat : ∀ i j,i<T.length→j<T.length→relE T i j=1:=fun i j hi hj=>by
   rw [relE,hTr _ (mem_getD.mpr ⟨i,hi,rfl⟩),List.getD_eq_getElem?_getD,List.getElem?_replicate,if_pos (by omega)]; rfl
  have hTP : PoR T:=⟨by omega,fun x hx=>by rw [hTr _ (mem_getD.mpr ⟨x,hx,rfl⟩)]; simp; omega,fun i hi=>hat i i hi hi,fun i j k hi hj hk _ _=>hat i k hi hk⟩;refine tt ?_;refine fz_own o rfl fun H o=>tt ?_;refine (l03Poset_ok B T hTP).go fun r _ ⟨c,e,hc⟩=>?_;subst e;refine tt ?_;refine sw o.swap fun H o=>tt ?_
  have hr2:=o.rc 5 0 (by simp);simp only [List.drop_zero] at hr2;rw [hr2];refine tt ?_;exact src_ret ⟨c,rfl,hc.mono (by omega)⟩ hs o.swap
 refine tt ?_;apply bk <;> intro q6
 ·refine tt ?_;refine (l03Paths_ok B 3 [0,1,0] [1,2,2] ⟨by decide,by decide,by decide,by decide⟩).go fun r _ ⟨c,e,hc⟩=>?_;subst e;refine tt ?_;refine sw o.swap fun H o=>tt ?_
  have hr2:=o.rc 5 0 (by simp);simp only [List.drop_zero] at hr2;rw [hr2];refine tt ?_;exact src_ret ⟨c,rfl,hc.mono (by omega)⟩ hs o.swap
 refine tt ?_;apply bk <;> intro q7
 ·refine tt ?_;refine (l02Split_ok B).go fun r _ ⟨c,e,hc⟩=>?_;subst e;refine tt ?_;refine sw o.swap fun H o=>tt ?_
  have hr2:=o.rc 5 0 (by simp);simp only [List.drop_zero] at hr2;rw [hr2];refine tt ?_;exact src_ret ⟨c,rfl,hc.mono (by omega)⟩ hs o.swap
 refine tt ?_;apply bk <;> intro q8
 ·refine tt ?_;refine (l02Monoid_ok B).go hs o fun r s H _ ⟨T,e,hT⟩ hs o=>?_;subst e;refine tt ?_;refine (l03Monoid_ok B T hT).go fun r _ ⟨c,e,hc⟩=>?_;subst e;refine tt ?_;refine (l03Poset_ok B [[1]] sq1).go fun r _ ⟨d,e,hd⟩=>?_;subst e;refine tt ?_;refine (l03Join_ok B 4 16 (by omega) (by omega) c d hc hd).go fun r _ ⟨c,e,hc⟩=>?_;subst e;refine tt ?_;refine (l03Op_ok B (4+16+4*16) (by omega) c hc).go fun r _ ⟨c,e,hc⟩=>?_;subst e;refine tt ?_;refine sw o.swap fun H o=>tt ?_
  have hr2:=o.rc 5 0 (by simp);simp only [List.drop_zero] at hr2;rw [hr2];refine tt ?_;exact src_ret ⟨c,rfl,hc.mono (by omega)⟩ hs o.swap
 refine tt ?_;apply bk <;> intro q9
 ·refine tt ?_;refine (l02Monoid_ok B).go hs o fun r s H _ ⟨T,e,hT⟩ hs o=>?_;subst e;refine tt ?_;refine (l03Monoid_ok B T hT).go fun r _ ⟨c,e,hc⟩=>?_;subst e;refine tt ?_;refine (l03Poset_ok B [[1]] sq1).go fun r _ ⟨d,e,hd⟩=>?_;subst e;refine tt ?_;refine (l03Join_ok B 4 16 (by omega) (by omega) c d hc hd).go fun r _ ⟨c,e,hc⟩=>?_;subst e;refine tt ?_;refine sw o.swap fun H o=>tt ?_
  have hr2:=o.rc 5 0 (by simp);simp only [List.drop_zero] at hr2;rw [hr2];refine tt ?_;exact src_ret ⟨c,rfl,hc.mono (by omega)⟩ hs o.swap
 refine tt ?_;apply bk <;> intro q10
 ·refine tt ?_;refine (l01Next_ok B 2).go hs o fun r s H _ ⟨v,e,hv0,hv1,_⟩ hs o=>?_;subst e
  have hv1:=hv1 (by omega)
  obtain ⟨v,rfl⟩:=Int.eq_ofNat_of_zero_le hv0
  have wv : IntKind.i64.wrap (2+(v : Int))=((2+v : Nat) : Int):=by rw [wrap_i64 (by omega) (by omega)]; omega
  refine tw wv ?_;refine (l02Relation_ok B (2+v) (by omega)).go hs o fun r s H _ ⟨T,e,hT⟩ hs o=>?_;subst e;refine tt ?_;refine (l03Poset_ok B T hT).go fun r _ ⟨c,e,hc⟩=>?_;subst e;refine tt ?_;refine sw o.swap fun H o=>tt ?_
  have hr2:=o.rc 5 0 (by simp);simp only [List.drop_zero] at hr2;rw [hr2];refine tt ?_;exact src_ret ⟨c,rfl,hc.mono (by omega)⟩ hs o.swap
 refine tt ?_;refine (l01Next_ok B 2).go hs o fun r s H _ ⟨v,e,hv0,hv1,_⟩ hs o=>?_;subst e
 have hv1:=hv1 (by omega)
 obtain ⟨v,rfl⟩:=Int.eq_ofNat_of_zero_le hv0
 have wv : IntKind.i64.wrap (2+(v : Int))=((2+v : Nat) : Int):=by rw [wrap_i64 (by omega) (by omega)]; omega
 obtain ⟨n,hn⟩ : ∃ n,2+v=n:=⟨_,rfl⟩;rw [hn] at wv
 have hn23 : n=2∨n=3:=by omega
 clear hv0 hv1 hn;refine tw wv ?_;refine newBuf_own o fun f H o=>tt ?_;refine newBuf_own o fun t H o=>tt ?_;refine (l01Next_ok B 4).go hs (o.pull [_,_]) fun r s H _ ⟨q,e,hq0,hq1,_⟩ hs o=>?_;subst e
 have hq1:=hq1 (by omega)
 obtain ⟨q,rfl⟩:=Int.eq_ofNat_of_zero_le hq0;refine tt ?_
 refine awp_while [0,2,8] (G:=Src × (Nat × List Int) × (Nat × List Int) × Nat) (fun g=>[(9,some (.buf g.2.1.1 g.2.1.2.length)),(10,some (.buf g.2.2.1.1 g.2.2.1.2.length)),(11,some (.int .i64 (g.2.2.2 : Int)))])
  (fun m g H=>m=g.2.2.2∧g.1.Ok∧g.2.1.2.length+g.2.2.2≤3∧g.2.2.1.2.length=g.2.1.2.length∧(∀ e,e<g.2.1.2.length→0≤g.2.1.2.getD e default∧g.2.1.2.getD e default<g.2.2.1.2.getD e default∧g.2.2.1.2.getD e default<n) ∧
   Owns H0 H [(id,g.1.obj),(g.2.2.1.1,MObj.cells 1 (g.2.2.1.2.map iI) 0),(g.2.1.1,MObj.cells 1 (g.2.1.2.map iI) 0),(id2,MObj.cells 5 [.int .i64 0,.nilsl,.nilsl,.nilsl,.nilsl] 0)]) q (s,(f,[]),(t,[]),q) ⟨rfl,hs,by simp only [List.length_nil]; omega,rfl,fun e he=>by simp at he,o⟩ rfl ?_
 clear o hs hq0 hq1
 rintro m ⟨s,⟨f,F⟩,⟨t,T⟩,q⟩ H ⟨hm,hs,hF,hT,hE,o⟩;dsimp only at hm;subst hm;dsimp only at hs hF hT hE o
 have wn : IntKind.i64.wrap ((n : Int) - 1)=((n - 1 : Nat) : Int):=wpred (by omega) (by omega);refine tt ?_;apply bk <;> intro h1
 ·have h1p:=of_decide h1
  have wm : IntKind.i64.wrap ((m : Int) - 1)=((m - 1 : Nat) : Int):=wpred (by omega) (by omega);refine tw wn ?_;refine (l01Next_ok B ((n - 1 : Nat) : Int)).go hs o fun r s H _ ⟨x,e,hx0,hx1,_⟩ hs o=>?_;subst e
  have hx1:=hx1 (by omega)
  obtain ⟨x,rfl⟩:=Int.eq_ofNat_of_zero_le hx0;refine tt ?_;refine app_own' _ (o.pull [_,_]) rfl rfl (by simp only [maxL]; omega) fun f H F2 eF hF2 o=>?_
  have w1 : IntKind.i64.wrap ((x : Int)+1)=((x+1 : Nat) : Int):=wsucc (by omega)
  have w2 : IntKind.i64.wrap (((n - 1 : Nat) : Int) - (x : Int))=((n - 1 - x : Nat) : Int):=by rw [wrap_i64 (by omega) (by omega)]; omega
  try simp only [go_sem,↓reduceIte,reduceEqDiff,reduceAdd,reduceMul,reduceLeDiff,reduceLT,wn,w1,w2]
  refine (l01Next_ok B ((n - 1 - x : Nat) : Int)).go hs o.swap fun r s H _ ⟨y,e,hy0,hy1,_⟩ hs o=>?_;subst e
  have hy1:=hy1 (by omega)
  obtain ⟨y,rfl⟩:=Int.eq_ofNat_of_zero_le hy0
  have w3 : IntKind.i64.wrap (((x+1 : Nat) : Int)+(y : Int))=((x+1+y : Nat) : Int):=by rw [wrap_i64 (by omega) (by omega)]; omega
  refine tw w3 ?_;refine app_own' _ (o.pull [_,_]) rfl rfl (by simp only [maxL]; omega) fun t H T2 eT hT2 o=>?_;refine tw wm ?_;refine while_next (m - 1) (s,(f,F2),(t,T2),m - 1) (by omega) ⟨rfl,hs,by show F2.length+(m - 1)≤3; omega,by show T2.length=F2.length; omega,fun e he=>?_, ?_⟩ rfl
  ·show 0≤F2.getD e default∧F2.getD e default<T2.getD e default∧T2.getD e default<n
   dsimp only at he
   by_cases h2 : e<F.length
   ·have e1 : F2.getD e default=F.getD e default:=by rw [eF,List.getD_eq_getElem?_getD,List.getElem?_append_left h2,← List.getD_eq_getElem?_getD]
    have e2 : T2.getD e default=T.getD e default:=by rw [eT,List.getD_eq_getElem?_getD,List.getElem?_append_left (by omega),← List.getD_eq_getElem?_getD]
    rw [e1,e2]; exact hE e h2
   ·have e0 : e=F.length:=by omega
    have e1 : F2.getD e default=(x : Int):=by rw [eF,e0]; simp
    have e2 : T2.getD e default=((x+1+y : Nat) : Int):=by rw [eT,e0,← hT]; simp
    rw [e1,e2]; omega
  ·exact o.pm
 ·have h1p:=of_ndecide h1;refine tt ?_;refine fz_own o.swap rfl fun H o=>tt ?_;refine fz_own o.swap rfl fun H o=>tt ?_;refine (l03Paths_ok B n F T ⟨by omega,by omega,hT,hE⟩).go fun r _ ⟨c,e,hc⟩=>?_;subst e;refine tt ?_;refine sw o.swap fun H o=>tt ?_
  have hr2:=o.rc 5 0 (by simp);simp only [List.drop_zero] at hr2;rw [hr2];refine tt ?_;exact src_ret ⟨c,rfl,hc.mono (by omega)⟩ hs o.swap
def SomeQ (r : AV) : Prop:=∃ c : Cat,r=.agg c.cells∧c.Sh 20000∧c.Shape
theorem l02Some_ok (B : Nat) (mo ma : Int) : Rd B 87 [iI mo,iI ma] SomeQ:=by
 intro id s H0 H hs o;refine c87p (by simp) fun _=>?_;unfold s87p;refine tt ?_;refine newRef_own o fun id6 H o=>tt ?_;refine awp_for [0,1,2,6] (G:=Src) (fun k _=>[(7,some (.int .i64 (k : Int)))]) (fun k s H=>s.Ok∧Owns H0 H [(id,s.obj),(id6,MObj.cells 5 [.int .i64 0,.nilsl,.nilsl,.nilsl,.nilsl] 0)]) 12 s ⟨hs,o.swap⟩ rfl ?_;clear o hs
 rintro k s H hk ⟨hs,o⟩
 replace hs : s.Ok:=hs
 replace o : Owns H0 H [(id,s.obj),(id6,MObj.cells 5 [.int .i64 0,.nilsl,.nilsl,.nilsl,.nilsl] 0)]:=o;refine tt ?_;refine ⟨fun h1=>At.mk ?_,fun h1=>At.mk ?_⟩
 ·have h1p:=of_decide h1
  have wk1:=wsucc (k:=k) (by omega);refine tt ?_;refine (l02Family_ok B).go hs o fun r s H _ ⟨c0,e,hc0⟩ hs o=>?_;subst e;refine tt ?_;refine newRef_own o fun id8 H o=>tt ?_;refine sw o fun H o=>tt ?_;refine (l01Next_ok B 5).go hs o.swap fun r s H _ ⟨v,e,_⟩ hs o=>?_;subst e;refine tt ?_;refine ⟨fun h2=>At.mk ?_,fun h2=>At.mk ?_⟩
  case' refine_1 =>
   refine tt ?_;refine ⟨⟨_,_,o.tl.h0⟩,rd_celln o.tl (by simp) ?_⟩;refine tt ?_;refine (l02Family_ok B).goZ hs o fun r s H _ ⟨c2,e,hc2⟩ hs o hz=>⟨hz, ?_⟩;subst e;refine tt ?_;refine New.go' (l03Sum_new B 100 100 (by omega) c0 c2 hc0 hc2) o fun X1 p1 H ⟨a,b,i,d,Xs,ob,e1,hX,e2⟩ o _=>?_;subst e1 e2
   have hq:=sumC_good hc0 hc2
   generalize sumC c0 c2=q at hX hq o ⊢;refine tt ?_
   have o : Owns H0 H ((id8,MObj.cells 5 [iI c0.objs,iL c0.frm,iL c0.to,iL c0.idn,iLL c0.comp] 0)::(d,MObj.cells 1 Xs 0)::(a,MObj.cells 1 (q.frm.map iI) 0)::(b,MObj.cells 1 (q.to.map iI) 0)::(i,MObj.cells 1 (q.idn.map iI) 0)::(id,s.obj)::(id6,MObj.cells 5 [.int .i64 0,.nilsl,.nilsl,.nilsl,.nilsl] 0)::ob):=o.pm;refine sw o fun H o=>tt ?_
   have hXl:=hX.len
   have od : Owns H0 H ((d,MObj.cells 1 Xs 0)::(ob++[(id8,MObj.cells 5 [iI q.objs,.buf a q.frm.length,.buf b q.to.length,.buf i q.idn.length,.buf d Xs.length] 0),(a,MObj.cells 1 (q.frm.map iI) 0),(b,MObj.cells 1 (q.to.map iI) 0),(i,MObj.cells 1 (q.idn.map iI) 0),(id,s.obj),(id6,MObj.cells 5 [.int .i64 0,.nilsl,.nilsl,.nilsl,.nilsl] 0)])):=o.pm;refine wk_rows hX [] H od fun H o=>?_;simp only [List.nil_append] at o
   have o : Owns H0 H [(id8,MObj.cells 5 [iI q.objs,.buf a q.frm.length,.buf b q.to.length,.buf i q.idn.length,.buf d Xs.length] 0),(d,MObj.cells 1 (q.comp.map iL) 0),(a,MObj.cells 1 (q.frm.map iI) 0),(b,MObj.cells 1 (q.to.map iI) 0),(i,MObj.cells 1 (q.idn.map iI) 0),(id,s.obj),(id6,MObj.cells 5 [.int .i64 0,.nilsl,.nilsl,.nilsl,.nilsl] 0)]:=o.pm;refine wk_cell 4 o rfl hXl fun H o=>?_;simp only [List.set_cons_zero,List.set_cons_succ] at o;refine wk_cell 1 o rfl rfl fun H o=>?_;simp only [List.set_cons_zero,List.set_cons_succ] at o;refine wk_cell 2 o rfl rfl fun H o=>?_;simp only [List.set_cons_zero,List.set_cons_succ] at o;refine wk_cell 3 o rfl rfl fun H o=>wkW_done ?_;simp only [List.set_cons_zero,List.set_cons_succ] at o
   have o:=o.swap
   obtain ⟨c,rfl⟩ : ∃ c,c=q:=⟨_,rfl⟩
   have hc : c.Good 200:=hq
  case' refine_2 =>
   refine tt ?_;refine wkW_done ?_
   obtain ⟨c,rfl⟩ : ∃ c,c=c0:=⟨_,rfl⟩
   have hc : c.Good 200:=hc0.mono (show 100≤200 by omega)
  all_goals
   try clear h2
   refine tt ?_;refine (l01Next_ok B 8).go hs o fun r s H _ ⟨v2,e,_⟩ hs o=>?_;subst e;refine tt ?_;refine ⟨fun h3=>At.mk ?_,fun h3=>At.mk ?_⟩
   case' refine_1 =>
    refine tt ?_;refine ⟨⟨_,_,o.tl.h0⟩,rd_celln o.tl (by simp) ?_⟩;refine tt ?_;refine (l02Family_ok B).goZ hs o fun r s H _ ⟨c2,e,hc2⟩ hs o hz=>⟨hz, ?_⟩;subst e;refine tt ?_;refine (l03Product_ok B 200 100 (by omega) (by omega) (by omega) c c2 hc hc2).go fun r _ ⟨q,e,hq⟩=>?_;subst e;refine tt ?_;refine sw o.swap fun H o=>?_
    have o:=o.swap
    have hc:=hq
    obtain ⟨c,rfl⟩ : ∃ c,c=q:=⟨_,rfl⟩
    replace hc : c.Good 20000:=hc
   case' refine_2 =>
    have hc:=hc.mono (show 200≤20000 by omega)
   all_goals
    try clear h3
    refine tt ?_;refine rd_cells o.tl (by simp) ?_;refine tt ?_;refine ⟨fun g1=>At.mk ?_,fun g1=>At.mk ?_⟩
    case' refine_1 =>
     refine tw g1 ?_;refine rd_cells o.tl (by simp) ?_;refine tt ?_;refine ⟨fun g2=>At.mk ?_,fun g2=>At.mk ?_⟩
     case' refine_1 =>
      refine tw g2 ?_;refine rd_celln o.tl (by simp) ?_;refine tt ?_;refine (l02Fits_ok B c).go fun _=>tt ?_;refine ⟨fun g3=>At.mk ?_,fun g3=>At.mk ?_⟩
      case refine_1 =>
       have hfit:=dec_iff.mp g3;refine tt ?_;refine rd_celln o.tl (by simp) ?_;refine tt ?_;refine sw (o.pull [_,_]) fun H o=>tt ?_
       have hr2:=o.rc 5 0 (by simp);simp only [List.drop_zero] at hr2;rw [hr2];refine tt ?_;exact src_ret ⟨c,rfl,hc.1,hc.2.shape hc.1 hfit.1 hfit.2⟩ hs o.swap
    all_goals
     try (try simp only [go_sem,↓reduceIte,reduceEqDiff,reduceAdd,reduceMul,reduceLeDiff,reduceLT,g1])
     try (try simp only [go_sem,↓reduceIte,reduceEqDiff,reduceAdd,reduceMul,reduceLeDiff,reduceLT,g2])
     try (try simp only [go_sem,↓reduceIte,reduceEqDiff,reduceAdd,reduceMul,reduceLeDiff,reduceLT,wk1])
     exact for_next s (by omega) ⟨hs,o.swap.tl⟩ rfl
 ·refine tt ?_;refine (l03PosetX_ok B [[1]] sq1).go fun r _ e=>?_;subst e
  have hc:=orC_good sq1
  have hcs:=hc.2.shape hc.1 (by show ((([[1]] : List (List Int)).length : Nat) : Int)≤8; decide) (by have:=hc.1.ml; omega)
  generalize orC [[1]]=c at hc hcs;refine tt ?_;refine sw o.swap fun H o=>tt ?_
  have hr2:=o.rc 5 0 (by simp);simp only [List.drop_zero] at hr2;rw [hr2];refine tt ?_;exact src_ret ⟨c,rfl,hc.1.mono (by omega),hcs⟩ hs o.swap
end Go.Proofs.Shf
namespace Go.AW
open Go.Shf
@[go_sem] theorem opE_slc {P : Program} {B : Nat} {d : Option Nat} {F : Env→Heap→Prop} {σ : Env} {H : Heap} (n : Nat) (x : X) (lo hi : Option X) : opE P B d (.slc n x lo hi) F σ H=pE d F σ H (slcE n (val σ x) (lo.map (val σ)) (hi.map (val σ))):=rfl
theorem wk_cat' {F : Env→Heap→Prop} {σ : Env} {H0 H : Heap} {l : Ob} {id fr : Nat} {x : Int} {a b i d : Nat} {A C I : List Int} {D : List (List Int)}
  (o : Owns H0 H ((id,.cells 5 [iI x,.buf a A.length,.buf b C.length,.buf i I.length,.buf d D.length] fr)::(a,.cells 1 (A.map iI) 0)::(b,.cells 1 (C.map iI) 0)::(i,.cells 1 (I.map iI) 0)::(d,.cells 1 (D.map iL) 0)::l))
  (hk : ∀ H',Owns H0 H' ((id,.cells 5 (Cat.cells ⟨x,A,C,I,D⟩) fr)::l)→wkW F σ H') : wkW F σ H:=by
 refine wk_cell 1 o rfl rfl fun H o=>?_;simp only [List.set_cons_zero,List.set_cons_succ] at o;refine wk_cell 2 o rfl rfl fun H o=>?_;simp only [List.set_cons_zero,List.set_cons_succ] at o;refine wk_cell 3 o rfl rfl fun H o=>?_;simp only [List.set_cons_zero,List.set_cons_succ] at o;refine wk_cell 4 o rfl rfl fun H o=>?_;simp only [List.set_cons_zero,List.set_cons_succ] at o;exact hk H o
theorem wk_cat {F : Env→Heap→Prop} {σ : Env} {H0 H : Heap} {l : Ob} {id fr : Nat} {x : Int} {a b i d : Nat} {A C I : List Int} {Xs : List AV} {As : List (List Int)} {ob : Ob} (h : LsR iI Xs As ob)
  (o : Owns H0 H ((id,.cells 5 [iI x,.buf a A.length,.buf b C.length,.buf i I.length,.buf d Xs.length] fr)::(a,.cells 1 (A.map iI) 0)::(b,.cells 1 (C.map iI) 0)::(i,.cells 1 (I.map iI) 0)::(d,.cells 1 Xs 0)::(ob++l)))
  (hk : ∀ H',Owns H0 H' ((id,.cells 5 (Cat.cells ⟨x,A,C,I,As⟩) fr)::l)→wkW F σ H') : wkW F σ H:=by
 have hl:=h.len
 have od : Owns H0 H ((d,.cells 1 Xs 0)::(ob++((id,.cells 5 [iI x,.buf a A.length,.buf b C.length,.buf i I.length,.buf d Xs.length] fr)::(a,.cells 1 (A.map iI) 0)::(b,.cells 1 (C.map iI) 0)::(i,.cells 1 (I.map iI) 0)::l))):=o.pm;refine wk_rows h [] H od fun H o=>?_;simp only [List.nil_append] at o;rw [hl] at o
 have o : Owns H0 H ((id,.cells 5 [iI x,.buf a A.length,.buf b C.length,.buf i I.length,.buf d As.length] fr)::(a,.cells 1 (A.map iI) 0)::(b,.cells 1 (C.map iI) 0)::(i,.cells 1 (I.map iI) 0)::(d,.cells 1 (As.map iL) 0)::l):=o.pm;exact wk_cat' o hk
theorem LsR.row {α : Type} [Inhabited α] {f : α→AV} [One f] {Xs : List AV} {As : List (List α)} {ob : Ob} (h : LsR f Xs As ob) {i : Nat} (hi : i<Xs.length) (hp : 0<(As.getD i []).length) :
  ∃ idr,Xs.getD i nv=.buf idr (As.getD i []).length∧∀ {H0 H : Heap} {l : Ob} {id : Nat} {K : Kont} (o : Owns H0 H ((id,.cells 1 Xs 0)::(ob++l))) (y : Nat) (hy : y<(As.getD i []).length) (v : α) {c : AV} (hc : c=f v)
   (hk : ∀ H' ob',LsR f Xs (As.set i ((As.getD i []).set y v)) ob'→Owns H0 H' ((id,.cells 1 Xs 0)::(ob'++l))→K nv H'),st1 (H.get idr) idr y 1 [c] K H:=by
 obtain ⟨p,r,h1,h2,h3⟩:=h.split i hi
 rcases h2 with ⟨_,_,e⟩ | ⟨idr,rfl,e⟩
 ·rw [e] at hp; simp at hp
 ·refine ⟨idr,e,fun {H0 H l id K} o y hy v {c} hc hk=>?_⟩
  have o1 : Owns H0 H ((idr,.cells 1 ((As.getD i []).map f) 0)::(id,.cells 1 Xs 0)::(r++l)):=by
   refine o.perm (((List.Perm.append_right l h1).cons _).trans ?_);simp only [List.cons_append,List.nil_append];exact .swap _ _ _
  refine set_own v o1 hc hy fun H' o2=>?_
  obtain ⟨o',k1,k2⟩:=h3 (.buf idr ((As.getD i []).set y v).length) ((As.getD i []).set y v) [(idr,.cells 1 (((As.getD i []).set y v).map f) 0)] (.inr ⟨idr,rfl,rfl⟩)
  have e2 : Xs.set i (.buf idr ((As.getD i []).set y v).length)=Xs:=by
   rw [List.length_set,← e];apply List.ext_getElem?
   intro j
   by_cases hj : i=j
   ·subst hj; rw [List.getElem?_set_self hi]; simp [List.getD_eq_getElem?_getD,hi]
   ·rw [List.getElem?_set_ne hj]
  rw [e2] at k1;refine hk H' o' k1 (o2.perm ((List.Perm.swap _ _ _).trans (.cons _ ?_)))
  have:=List.Perm.append_right l k2.symm
  simpa using this
end Go.AW
namespace Go.Proofs.Shf
open Go.AW Go.Proofs Go.Shf
def AnyQ (r : AV) : Prop:=∃ c : Cat,r=.agg c.cells
theorem anyQ (x : Int) (A C I : List Int) (D : List (List Int)) : AnyQ (.agg [iI x,iL A,iL C,iL I,iLL D]):=⟨⟨x,A,C,I,D⟩,rfl⟩
@[go_sem] def bendO (id3 : Nat) (x : Int) (a : Nat) (A : List Int) (b : Nat) (C : List Int) (i : Nat) (I : List Int) (d : Nat) (Xs : List AV) (l : Ob) : Ob :=
 (id3,.cells 5 [iI x,.buf a A.length,.buf b C.length,.buf i I.length,.buf d Xs.length] 0)::(a,.cells 1 (A.map iI) 0)::(b,.cells 1 (C.map iI) 0)::(i,.cells 1 (I.map iI) 0)::(d,.cells 1 Xs 0)::l
theorem l02Bend_ok (B N : Nat) (hN : N≤65536) (c : Cat) (hc : c.Sh N) : Rd B 144 [.agg c.cells] AnyQ:=by
 intro id s H0 H hs o;refine c144p (by simp) fun _=>?_
 obtain ⟨cob,cil,cml,ctl,ccl,crow⟩:=hc;unfold s144p;refine tt ?_;refine newRef_own o fun id3 H o=>tt ?_;refine newRef_own o fun id4 H o=>tt ?_;refine rd_celln o.tl (by simp) ?_;refine tt ?_;refine New.go' (l02Own_new B c) o fun X1 p1 H ⟨a,b,i,d,Xs,ob,e1,hX,e2⟩ o _=>?_;subst e1 e2
 have hXl:=hX.len;refine tt ?_
 have o : Owns H0 H ((id3,MObj.cells 5 [iI c.objs,iL c.frm,iL c.to,iL c.idn,iLL c.comp] 0)::(a,.cells 1 (c.frm.map iI) 0)::(b,.cells 1 (c.to.map iI) 0)::(i,.cells 1 (c.idn.map iI) 0)::(d,.cells 1 Xs 0)::(ob++[(id,s.obj),(id4,MObj.cells 5 [.int .i64 0,.nilsl,.nilsl,.nilsl,.nilsl] 0)])):=o.pm;refine sw o fun H o=>tt ?_;refine rd_cells o (by simp) ?_;refine tt ?_
 have hsrc : ∀ {H : Heap} {s : Src} {Xs : List AV} {ob : Ob} {a b i : Nat} {A C I : List Int} {x : Int},Owns H0 H (bendO id3 x a A b C i I d Xs (ob++[(id,s.obj),(id4,MObj.cells 5 [.int .i64 0,.nilsl,.nilsl,.nilsl,.nilsl] 0)])) →
   Owns H0 H ((id,s.obj)::bendO id3 x a A b C i I d Xs (ob++[(id4,MObj.cells 5 [.int .i64 0,.nilsl,.nilsl,.nilsl,.nilsl] 0)])):=by
  intro H s Xs ob a b i A C I x o;unfold bendO at o ⊢;exact o.pm
 have o:=hsrc (by unfold bendO; exact o);unfold bendO at o;refine (l01Next_ok B c.frm.length).go hs o fun r s H _ ⟨f,e,hf0,hf1,hf2⟩ hs o=>?_;subst e
 obtain ⟨f,rfl⟩:=Int.eq_ofNat_of_zero_le hf0;refine tt ?_;refine (l01Next_ok B 8).go hs o fun r s H _ ⟨v,e,_⟩ hs o=>?_;subst e;refine tt ?_;apply bk <;> intro q0
 focus
  refine tt ?_;refine rd_cells o.tl (by simp) ?_;refine tt ?_;refine (l01Pick_ok B [IntKind.i64.wrap (c.objs+1),-1,9] (by simp)).go hs o fun r s H _ ⟨v,e,_⟩ hs o=>?_;subst e;refine tt ?_;refine sw o.swap fun H o=>tt ?_
  have o : Owns H0 H ((id3,.cells 5 [iI (v),.buf a (c.frm).length,.buf b (c.to).length,.buf i (c.idn).length,.buf d (Xs).length] 0)::(a,.cells 1 ((c.frm).map iI) 0)::(b,.cells 1 ((c.to).map iI) 0)::(i,.cells 1 ((c.idn).map iI) 0)::(d,.cells 1 (Xs) 0)::(ob++[(id,s.obj),(id4,MObj.cells 5 [.int .i64 0,.nilsl,.nilsl,.nilsl,.nilsl] 0)])):=o.pm;refine wk_cat hX o fun H o=>?_
 rotate_left 1;refine tt ?_;apply bk <;> intro q1
 focus
  refine tt ?_;refine rd_cells o.tl (by simp) ?_;refine tt ?_;refine app_own' _ (o.pull [_,_]) rfl rfl (by simp only [maxL]; omega) fun a H A2 _ hA2 o=>tt ?_;refine sw (o.pull [_,_]) fun H o=>tt ?_
  have o : Owns H0 H ((id3,.cells 5 [iI (c.objs),.buf a (A2).length,.buf b (c.to).length,.buf i (c.idn).length,.buf d (Xs).length] 0)::(a,.cells 1 ((A2).map iI) 0)::(b,.cells 1 ((c.to).map iI) 0)::(i,.cells 1 ((c.idn).map iI) 0)::(d,.cells 1 (Xs) 0)::(ob++[(id,s.obj),(id4,MObj.cells 5 [.int .i64 0,.nilsl,.nilsl,.nilsl,.nilsl] 0)])):=o.pm;refine wk_cat hX o fun H o=>?_
 rotate_left 1;refine tt ?_;apply bk <;> intro q2
 focus
  refine tt ?_;refine rd_cells o.tl (by simp) ?_;refine tt ?_;apply bk <;> intro g1
  focus
   have g1p:=of_decide g1;refine tt ?_;refine ⟨⟨_,_,o.tl.h0⟩,rd_cells o.tl (by simp) ?_⟩;refine tt ?_;refine (l01Next_ok B _).goZ hs o fun r s H _ ⟨v,e,_⟩ hs o hz=>⟨hz, ?_⟩;subst e;refine tt ?_;refine ⟨by omega, ?_⟩;refine set_own v (o.pull [_,_,_,_]) rfl (by omega) fun H o=>tt ?_
   have o : Owns H0 H ((id3,.cells 5 [iI (c.objs),.buf a (c.frm).length,.buf b (c.to).length,.buf i (c.idn.set (Int.toNat 0) v).length,.buf d (Xs).length] 0)::(a,.cells 1 ((c.frm).map iI) 0)::(b,.cells 1 ((c.to).map iI) 0)::(i,.cells 1 ((c.idn.set (Int.toNat 0) v).map iI) 0)::(d,.cells 1 (Xs) 0)::(ob++[(id,s.obj),(id4,MObj.cells 5 [.int .i64 0,.nilsl,.nilsl,.nilsl,.nilsl] 0)])):=o.pm;refine wk_cat hX o fun H o=>?_
  rotate_left 1;refine tt ?_
  have o : Owns H0 H ((id3,.cells 5 [iI (c.objs),.buf a (c.frm).length,.buf b (c.to).length,.buf i (c.idn).length,.buf d (Xs).length] 0)::(a,.cells 1 ((c.frm).map iI) 0)::(b,.cells 1 ((c.to).map iI) 0)::(i,.cells 1 ((c.idn).map iI) 0)::(d,.cells 1 (Xs) 0)::(ob++[(id,s.obj),(id4,MObj.cells 5 [.int .i64 0,.nilsl,.nilsl,.nilsl,.nilsl] 0)])):=o.pm;refine wk_cat hX o fun H o=>?_
 rotate_left 2;refine tt ?_;apply bk <;> intro q3
 focus
  refine tw q3 ?_;apply bk <;> intro g1
  focus
   have g1p:=of_decide g1
   have hf1:=hf1 (by omega)
   have hrow:=crow f (by omega);refine tt ?_;refine ⟨⟨_,_,o.tl.h0⟩,rd_cells o.tl (by simp) ?_⟩;refine tt ?_;refine ⟨by omega, ?_⟩
   have od:=o.pull [_,_,_,_,_];simp only [List.cons_append,List.nil_append] at od;refine ⟨⟨_,_,od.h0⟩,rd_cells od (by omega) ?_⟩
   obtain ⟨idr,hXr,hst⟩:=hX.row (i:=f) (by omega) (by have : (c.comp.getD f []).length=c.frm.length:=hrow; omega);rw [hXr];refine tt ?_;refine (l01Next_ok B _).goZ hs o fun r s H _ ⟨v,e,hv0,hv1,_⟩ hs o hz=>⟨hz, ?_⟩;subst e
   have hv1:=hv1 (by omega);refine tt ?_;refine (l01Next_ok B _).goZ hs o fun r s H _ ⟨v2,e,_⟩ hs o hz=>⟨hz, ?_⟩;subst e
   have hrl : (c.comp.getD f []).length=c.frm.length:=hrow;refine tt ?_;refine ⟨by omega, ?_⟩
   have od : Owns H0 H ((d,MObj.cells 1 Xs 0)::(ob++((id,s.obj)::(id3,.cells 5 [iI c.objs,.buf a c.frm.length,.buf b c.to.length,.buf i c.idn.length,.buf d Xs.length] 0)::(a,.cells 1 (c.frm.map iI) 0)::(b,.cells 1 (c.to.map iI) 0)::(i,.cells 1 (c.idn.map iI) 0)::[(id4,MObj.cells 5 [.int .i64 0,.nilsl,.nilsl,.nilsl,.nilsl] 0)]))):=o.pm;refine hst od v.toNat (by omega) _ rfl fun H ob2 hX2 o=>tt ?_
   have o : Owns H0 H ((id3,.cells 5 [iI (c.objs),.buf a (c.frm).length,.buf b (c.to).length,.buf i (c.idn).length,.buf d (Xs).length] 0)::(a,.cells 1 ((c.frm).map iI) 0)::(b,.cells 1 ((c.to).map iI) 0)::(i,.cells 1 ((c.idn).map iI) 0)::(d,.cells 1 (Xs) 0)::(ob2++[(id,s.obj),(id4,MObj.cells 5 [.int .i64 0,.nilsl,.nilsl,.nilsl,.nilsl] 0)])):=o.pm;refine wk_cat hX2 o fun H o=>?_
  rotate_left 1;refine tt ?_
  have o : Owns H0 H ((id3,.cells 5 [iI (c.objs),.buf a (c.frm).length,.buf b (c.to).length,.buf i (c.idn).length,.buf d (Xs).length] 0)::(a,.cells 1 ((c.frm).map iI) 0)::(b,.cells 1 ((c.to).map iI) 0)::(i,.cells 1 ((c.idn).map iI) 0)::(d,.cells 1 (Xs) 0)::(ob++[(id,s.obj),(id4,MObj.cells 5 [.int .i64 0,.nilsl,.nilsl,.nilsl,.nilsl] 0)])):=o.pm;refine wk_cat hX o fun H o=>?_
 rotate_left 2;refine tt ?_;apply bk <;> intro q4
 focus
  refine tw q4 ?_;apply bk <;> intro g1
  focus
   have g1p:=of_decide g1
   have hf1:=hf1 (by omega)
   have hrow:=crow f (by omega);refine tt ?_;refine ⟨⟨_,_,o.tl.h0⟩,rd_cells o.tl (by simp) ?_⟩;refine tt ?_;refine ⟨by omega, ?_⟩
   have od:=o.pull [_,_,_,_,_];simp only [List.cons_append,List.nil_append] at od;refine ⟨⟨_,_,od.h0⟩,rd_cells od (by omega) ?_⟩
   obtain ⟨idr,hXr,hst⟩:=hX.row (i:=f) (by omega) (by have : (c.comp.getD f []).length=c.frm.length:=hrow; omega);rw [hXr];refine tt ?_;refine (l01Next_ok B _).goZ hs o fun r s H _ ⟨v,e,hv0,hv1,_⟩ hs o hz=>⟨hz, ?_⟩;subst e
   have hv1:=hv1 (by omega);refine tt ?_;refine (l01Next_ok B _).goZ hs o fun r s H _ ⟨v2,e,_⟩ hs o hz=>⟨hz, ?_⟩;subst e
   have hrl : (c.comp.getD f []).length=c.frm.length:=hrow;refine tt ?_;refine ⟨by omega, ?_⟩
   have od : Owns H0 H ((d,MObj.cells 1 Xs 0)::(ob++((id,s.obj)::(id3,.cells 5 [iI c.objs,.buf a c.frm.length,.buf b c.to.length,.buf i c.idn.length,.buf d Xs.length] 0)::(a,.cells 1 (c.frm.map iI) 0)::(b,.cells 1 (c.to.map iI) 0)::(i,.cells 1 (c.idn.map iI) 0)::[(id4,MObj.cells 5 [.int .i64 0,.nilsl,.nilsl,.nilsl,.nilsl] 0)]))):=o.pm;refine hst od v.toNat (by omega) _ rfl fun H ob2 hX2 o=>tt ?_
   have o : Owns H0 H ((id3,.cells 5 [iI (c.objs),.buf a (c.frm).length,.buf b (c.to).length,.buf i (c.idn).length,.buf d (Xs).length] 0)::(a,.cells 1 ((c.frm).map iI) 0)::(b,.cells 1 ((c.to).map iI) 0)::(i,.cells 1 ((c.idn).map iI) 0)::(d,.cells 1 (Xs) 0)::(ob2++[(id,s.obj),(id4,MObj.cells 5 [.int .i64 0,.nilsl,.nilsl,.nilsl,.nilsl] 0)])):=o.pm;refine wk_cat hX2 o fun H o=>?_
  rotate_left 1;refine tt ?_
  have o : Owns H0 H ((id3,.cells 5 [iI (c.objs),.buf a (c.frm).length,.buf b (c.to).length,.buf i (c.idn).length,.buf d (Xs).length] 0)::(a,.cells 1 ((c.frm).map iI) 0)::(b,.cells 1 ((c.to).map iI) 0)::(i,.cells 1 ((c.idn).map iI) 0)::(d,.cells 1 (Xs) 0)::(ob++[(id,s.obj),(id4,MObj.cells 5 [.int .i64 0,.nilsl,.nilsl,.nilsl,.nilsl] 0)])):=o.pm;refine wk_cat hX o fun H o=>?_
 rotate_left 2;refine tt ?_;apply bk <;> intro q5
 focus
  refine tw q5 ?_;apply bk <;> intro g1
  focus
   have g1p:=of_decide g1
   have hf1:=hf1 (by omega)
   have hrow:=crow f (by omega);refine tt ?_;refine ⟨⟨_,_,o.tl.h0⟩,rd_cells o.tl (by simp) ?_⟩;refine tt ?_;refine ⟨by omega, ?_⟩
   have od:=o.pull [_,_,_,_,_];simp only [List.cons_append,List.nil_append] at od;refine ⟨⟨_,_,od.h0⟩,rd_cells od (by omega) ?_⟩
   obtain ⟨idr,hXr,hst⟩:=hX.row (i:=f) (by omega) (by have : (c.comp.getD f []).length=c.frm.length:=hrow; omega);rw [hXr];refine tt ?_;refine (l01Next_ok B _).goZ hs o fun r s H _ ⟨v,e,hv0,hv1,_⟩ hs o hz=>⟨hz, ?_⟩;subst e
   have hv1:=hv1 (by omega);refine tt ?_;refine (l01Next_ok B _).goZ hs o fun r s H _ ⟨v2,e,_⟩ hs o hz=>⟨hz, ?_⟩;subst e
   have hrl : (c.comp.getD f []).length=c.frm.length:=hrow;refine tt ?_;refine ⟨by omega, ?_⟩
   have od : Owns H0 H ((d,MObj.cells 1 Xs 0)::(ob++((id,s.obj)::(id3,.cells 5 [iI c.objs,.buf a c.frm.length,.buf b c.to.length,.buf i c.idn.length,.buf d Xs.length] 0)::(a,.cells 1 (c.frm.map iI) 0)::(b,.cells 1 (c.to.map iI) 0)::(i,.cells 1 (c.idn.map iI) 0)::[(id4,MObj.cells 5 [.int .i64 0,.nilsl,.nilsl,.nilsl,.nilsl] 0)]))):=o.pm;refine hst od v.toNat (by omega) _ rfl fun H ob2 hX2 o=>tt ?_
   have o : Owns H0 H ((id3,.cells 5 [iI (c.objs),.buf a (c.frm).length,.buf b (c.to).length,.buf i (c.idn).length,.buf d (Xs).length] 0)::(a,.cells 1 ((c.frm).map iI) 0)::(b,.cells 1 ((c.to).map iI) 0)::(i,.cells 1 ((c.idn).map iI) 0)::(d,.cells 1 (Xs) 0)::(ob2++[(id,s.obj),(id4,MObj.cells 5 [.int .i64 0,.nilsl,.nilsl,.nilsl,.nilsl] 0)])):=o.pm;refine wk_cat hX2 o fun H o=>?_
  rotate_left 1;refine tt ?_
  have o : Owns H0 H ((id3,.cells 5 [iI (c.objs),.buf a (c.frm).length,.buf b (c.to).length,.buf i (c.idn).length,.buf d (Xs).length] 0)::(a,.cells 1 ((c.frm).map iI) 0)::(b,.cells 1 ((c.to).map iI) 0)::(i,.cells 1 ((c.idn).map iI) 0)::(d,.cells 1 (Xs) 0)::(ob++[(id,s.obj),(id4,MObj.cells 5 [.int .i64 0,.nilsl,.nilsl,.nilsl,.nilsl] 0)])):=o.pm;refine wk_cat hX o fun H o=>?_
 rotate_left 2;refine tw q5 ?_;apply bk <;> intro q6
 focus
  refine tt ?_;apply bk <;> intro g1
  focus
   have g1p:=of_decide g1
   have hf1:=hf1 (by omega);refine tt ?_;refine ⟨⟨_,_,o.tl.h0⟩,rd_cells o.tl (by simp) ?_⟩;refine tt ?_;refine ⟨⟨_,_,o.tl.h0⟩,rd_cells o.tl (by simp) ?_⟩;refine tt ?_;refine (l01Next_ok B _).goZ hs o fun r s H _ ⟨v,e,_⟩ hs o hz=>⟨hz, ?_⟩;subst e;refine tt ?_;refine ⟨by omega, ?_⟩;refine set_own v (o.pull [_,_,_]) rfl (by omega) fun H o=>tt ?_
   have o : Owns H0 H ((id3,.cells 5 [iI (c.objs),.buf a (c.frm).length,.buf b (c.to.set f v).length,.buf i (c.idn).length,.buf d (Xs).length] 0)::(a,.cells 1 ((c.frm).map iI) 0)::(b,.cells 1 ((c.to.set f v).map iI) 0)::(i,.cells 1 ((c.idn).map iI) 0)::(d,.cells 1 (Xs) 0)::(ob++[(id,s.obj),(id4,MObj.cells 5 [.int .i64 0,.nilsl,.nilsl,.nilsl,.nilsl] 0)])):=o.pm;refine wk_cat hX o fun H o=>?_
  rotate_left 1;refine tt ?_
  have o : Owns H0 H ((id3,.cells 5 [iI (c.objs),.buf a (c.frm).length,.buf b (c.to).length,.buf i (c.idn).length,.buf d (Xs).length] 0)::(a,.cells 1 ((c.frm).map iI) 0)::(b,.cells 1 ((c.to).map iI) 0)::(i,.cells 1 ((c.idn).map iI) 0)::(d,.cells 1 (Xs) 0)::(ob++[(id,s.obj),(id4,MObj.cells 5 [.int .i64 0,.nilsl,.nilsl,.nilsl,.nilsl] 0)])):=o.pm;refine wk_cat hX o fun H o=>?_
 rotate_left 2;refine tt ?_
 have od : Owns H0 H ((d,MObj.cells 1 Xs 0)::(ob++((id,s.obj)::(id3,.cells 5 [iI c.objs,.buf a c.frm.length,.buf b c.to.length,.buf i c.idn.length,.buf d Xs.length] 0)::(a,.cells 1 (c.frm.map iI) 0)::(b,.cells 1 (c.to.map iI) 0)::(i,.cells 1 (c.idn.map iI) 0)::[(id4,MObj.cells 5 [.int .i64 0,.nilsl,.nilsl,.nilsl,.nilsl] 0)]))):=o.pm;refine wk_rows hX [] H od fun H o=>wkW_done ?_;simp only [List.nil_append] at o;refine tt ?_;apply bk <;> intro g1
 focus
  have g1p:=of_decide g1
  have hf1:=hf1 (by omega)
  have hrow:=crow f (by omega);refine tt ?_;refine ⟨⟨_,_,o.tl.tl.h0⟩,rd_cells o.tl.tl (by simp) ?_⟩;refine tt ?_;refine ⟨⟨_,_,o.tl.tl.h0⟩,rd_cells o.tl.tl (by simp) ?_⟩;refine tt ?_;refine ⟨by omega,⟨_,_,o.h0⟩,rd_own (f:=iL) o (by omega) ?_⟩;refine tt ?_;refine ⟨⟨by omega,by omega⟩,by omega, ?_⟩;refine set_own (f:=iL) ((c.comp.getD f default).drop (Int.toNat 1)) o rfl (by omega) fun H o=>tt ?_
  have o : Owns H0 H ((id3,.cells 5 [iI c.objs,.buf a c.frm.length,.buf b c.to.length,.buf i c.idn.length,.buf d (c.comp.set f ((c.comp.getD f default).drop (Int.toNat 1))).length] 0)::(a,.cells 1 (c.frm.map iI) 0)::(b,.cells 1 (c.to.map iI) 0)::(i,.cells 1 (c.idn.map iI) 0)::(d,.cells 1 ((c.comp.set f ((c.comp.getD f default).drop (Int.toNat 1))).map iL) 0)::[(id,s.obj),(id4,MObj.cells 5 [.int .i64 0,.nilsl,.nilsl,.nilsl,.nilsl] 0)]):=by
   rw [show Xs.length=c.comp.length from hXl] at o;exact o.pm
  refine wk_cat' o fun H o=>?_
 rotate_left 1;refine tt ?_
 have o : Owns H0 H ((id3,.cells 5 [iI c.objs,.buf a c.frm.length,.buf b c.to.length,.buf i c.idn.length,.buf d (c.comp).length] 0)::(a,.cells 1 (c.frm.map iI) 0)::(b,.cells 1 (c.to.map iI) 0)::(i,.cells 1 (c.idn.map iI) 0)::(d,.cells 1 ((c.comp).map iL) 0)::[(id,s.obj),(id4,MObj.cells 5 [.int .i64 0,.nilsl,.nilsl,.nilsl,.nilsl] 0)]):=by
  have:=hXl;rw [show Xs.length=c.comp.length from hXl] at o;exact o.pm
 refine wk_cat' o fun H o=>?_
 all_goals
  refine wkW_done ?_;refine tt ?_;refine rd_celln o (by simp [Cat.cells]) ?_;try simp only [go_sem,↓reduceIte,reduceEqDiff,reduceAdd,reduceMul,reduceLeDiff,reduceLT,Cat.cells]
  refine sw (o.pull [_,_]) fun H o=>tt ?_
  have hr2:=o.rc 5 0 (by simp);simp only [List.drop_zero] at hr2;rw [hr2];refine tt ?_;exact src_ret (anyQ _ _ _ _ _) hs (o.pull [_,_])
theorem l02Draw_ok (B : Nat) (mo ma : Int) : Rd B 140 [iI mo,iI ma] AnyQ:=by
 intro id s H0 H hs o;refine c140 (by simp) fun _=>?_;unfold s140;refine tt ?_;refine newRef_own o fun id6 H o=>tt ?_;refine (l02Some_ok B mo ma).go hs o.swap fun r s H _ ⟨c,e,hc,_⟩ hs o=>?_;subst e;refine tt ?_;refine newRef_own o fun id7 H o=>tt ?_;refine sw o fun H o=>tt ?_;refine (l01Next_ok B 24).go hs o.swap fun r s H _ ⟨v,e,_⟩ hs o=>?_;subst e;refine tt ?_;apply bk <;> intro h1
 focus
  refine tt ?_;refine rd_celln o.tl (by simp) ?_;refine tt ?_;refine (l02Bend_ok B 20000 (by omega) c hc).go hs o fun r s H _ ⟨c2,e⟩ hs o=>?_;subst e;refine tt ?_;refine sw (o.pull [_,_]) fun H o=>?_
 rotate_left 1
 focus
  refine tt ?_;refine rd_celln o.tl (by simp) ?_;refine tt ?_;refine sw (o.pull [_,_]) fun H o=>?_
 all_goals
  refine tt ?_
  have hr2:=o.rc 5 0 (by simp);simp only [List.drop_zero] at hr2;rw [hr2];refine tt ?_;exact src_ret (anyQ _ _ _ _ _) hs o.swap
end Go.Proofs.Shf
namespace Go.AW
theorem st_cells2 {H0 H : Heap} {l : List (Nat × MObj)} {K : Kont} {id sz off n fr : Nat} {cs vs : List AV} (o : Owns H0 H ((id,.cells sz cs fr)::l)) (h0 : fr≤off) (h1 : off+n≤cs.length) (h2 : vs.length=n) (h3 : ∀ c,c∈vs→c.one=true)
  (hk : ∀ H',Owns H0 H' ((id,.cells sz (wr cs off vs) fr)::l)→K nv H') : st1 (H.get id) id off n vs K H:=by
 have e:=o.h0;simp only at e;rw [e,st1_c];exact ⟨⟨h0,h1,h2,h3⟩,hk _ (o.put _)⟩
end Go.AW
namespace Go.Proofs.Shf
open Go.AW Go.Proofs Go.Shf
theorem take_succ_getD {α : Type} [Inhabited α] (l : List α) {k : Nat} (hk : k<l.length) : l.take (k+1)=l.take k++[l.getD k default]:=by
 have hN : l[k]=l.getD k default:=by simp [List.getD_eq_getElem?_getD,hk]
 rw [← hN]; exact (List.take_append_getElem hk).symm
end Go.Proofs.Shf
namespace Go.Shf
open Go.AW
end Go.Shf
namespace Go.Proofs.Shf
open Go.AW Go.Proofs Go.Shf
end Go.Proofs.Shf
namespace Go.Shf
open Go.AW Go.Proofs.Shf
abbrev kB : Int→AV:=AV.int .u8
instance : One kB:=⟨fun _=>rfl,fun _=>rfl⟩
def keyB (L : List (List Int)) : List Int:=L.flatMap fun l=>l.map IntKind.u8.wrap++[255]
def keyS (L : List (List Int)) : List UInt8:=(keyB L).map fun n=>UInt8.ofNat n.toNat
theorem keyB_snoc (L : List (List Int)) (l : List Int) : keyB (L++[l])=keyB L++l.map IntKind.u8.wrap++[255]:=by
 simp [keyB]
theorem keyB_app (A C : List (List Int)) : keyB (A++C)=keyB A++keyB C:=by simp [keyB]
theorem keyB_take_le (L : List (List Int)) (k : Nat) : (keyB (L.take k)).length≤(keyB L).length:=by
 have : keyB L=keyB (L.take k)++keyB (L.drop k):=by rw [← keyB_app,List.take_append_drop]
 rw [this,List.length_append]; omega
theorem keyB_len (L : List (List Int)) : L.length≤(keyB L).length:=by
 induction L with
 | nil=>simp
 | cons a L ih =>
  have : keyB (a::L)=keyB [a]++keyB L:=keyB_app [a] L;rw [this,List.length_append]
  have : 1≤(keyB [a]).length:=by simp [keyB]
  simp only [List.length_cons]; omega
theorem keyB_mem (L : List (List Int)) {k : Nat} (hk : k<L.length) : (keyB (L.take k)).length+(L.getD k default).length+1≤(keyB L).length:=by
 have h1:=keyB_take_le L (k+1);rw [take_succ_getD L hk,keyB_snoc] at h1;simp only [List.length_append,List.length_map,List.length_cons,List.length_nil] at h1;omega
def plS (L : List (List Int)) : Nat→List AV × List AV
 | 0=>([],[])
 | k+1=>mput (.str (keyS [L.getD k default])) (iI k) (plS L k).1 (plS L k).2
theorem mput_str (k x : AV) (hk : ∃ s,k=.str s) : ∀ (ks vs : List AV),(∀ a,a∈ks→∃ s,a=.str s)→∀ a,a∈(mput k x ks vs).1→∃ s,a=.str s
 | [],_,h,a,ha=>by simp [mput] at ha; subst ha; exact hk
 | b::ks,[],h,a,ha=>by simp [mput] at ha; subst ha; exact hk
 | b::ks,v::vs,h,a,ha=>by
  simp only [mput] at ha
  split at ha
  ·simp only [List.mem_cons] at ha
   rcases ha with rfl | ha
   ·exact hk
   ·exact h a (by simp [ha])
  ·simp only [List.mem_cons] at ha
   rcases ha with rfl | ha
   ·exact h a (by simp)
   ·exact mput_str k x hk ks vs (fun c hc=>h c (by simp [hc])) a ha
theorem plS_str (L : List (List Int)) : ∀ k a,a∈(plS L k).1→∃ s,a=.str s
 | 0,a,h=>by simp [plS] at h
 | k+1,a,h=>mput_str _ _ ⟨_,rfl⟩ _ _ (plS_str L k) a h
theorem okKey_plS (L : List (List Int)) (k : Nat) (s : List UInt8) : okKey 1 (.str s) (plS L k).1:=⟨rfl,fun a ha=>by obtain ⟨t,rfl⟩:=plS_str L k a ha; rfl⟩
end Go.Shf
namespace Go.Proofs.Shf
open Go.AW Go.Proofs Go.Shf
theorem key_ok (B : Nat) (L : List (List Int)) (hb : (keyB L).length≤1000000) : Pur Tryz.prog B 170 [iLL L] (.str (keyS L)):=by
 refine ⟨fun H0=>c170p (by simp) fun hfi=>?_⟩
 have hL : L.length≤(keyB L).length:=keyB_len L;unfold s170p;refine tt ?_;refine newBuf_own (.nil _) fun id3 H o=>tt ?_
 refine awp_for [9,10] (G:=Nat) (fun k g=>[(3,some (.buf g (keyB (L.take k)).length)),(11,some (.int .i64 (k : Int)))])
  (fun k g H=>Owns H0 H [(g,.cells 1 ((keyB (L.take k)).map kB) 0)]) L.length id3 o rfl ?_
 clear o
 rintro k id3 H hk o
 replace o : Owns H0 H [(id3,.cells 1 ((keyB (L.take k)).map kB) 0)]:=o;refine tt ?_;apply bk <;> intro h1
 ·have h1p:=of_decide h1
  have w:=wsucc (k:=k) (by omega);refine tt ?_;refine ⟨h1p, ?_⟩
  have hkm:=keyB_mem L h1p
  generalize hl : L.getD k default=l at *
  generalize hP : keyB (L.take k)=P at *
  have hP2 : keyB (L.take (k+1))=P++l.map IntKind.u8.wrap++[255]:=by rw [take_succ_getD L h1p,keyB_snoc,hP,hl]
  refine awp_for [9,10,11,15,16] (G:=Nat) (fun j g=>[(3,some (.buf g (P++(l.take j).map IntKind.u8.wrap).length)),(17,some (.int .i64 (j : Int)))])
   (fun j g H=>Owns H0 H [(g,.cells 1 ((P++(l.take j).map IntKind.u8.wrap).map kB) 0)]) l.length id3 (by simpa using o) (by simp only [List.take_zero,List.map_nil,List.append_nil]; rfl) ?_
  clear o
  rintro j id3 H hj o
  replace o : Owns H0 H [(id3,.cells 1 ((P++(l.take j).map IntKind.u8.wrap).map kB) 0)]:=o;refine tt ?_;apply bk <;> intro h2
  ·have h2p:=of_decide h2
   have w2:=wsucc (k:=j) (by omega);refine tt ?_;refine ⟨h2p, ?_⟩;refine app_own (f:=kB) (IntKind.u8.wrap (l.getD j default)) o rfl rfl (by simp only [List.length_append,List.length_map,List.length_take,maxL]; omega) fun id9 H o=>?_
   have e : (P++(l.take j).map IntKind.u8.wrap)++[IntKind.u8.wrap (l.getD j default)]=P++(l.take (j+1)).map IntKind.u8.wrap:=by
    rw [take_succ_getD l h2p,List.map_append,← List.append_assoc]; rfl
   rw [e] at o ⊢;refine tw w2 ?_;exact for_next id9 h2p o rfl
  ·have h2p:=of_ndecide h2
   obtain rfl : j=l.length:=by omega
   rw [List.take_length] at o ⊢;refine tt ?_;refine app_own (f:=kB) 255 o rfl rfl (by simp only [List.length_append,List.length_map,maxL]; omega) fun id9 H o=>?_;rw [← hP2] at o ⊢;refine tw w ?_;exact for_next id9 h1p o rfl
 ·have h1p:=of_ndecide h1
  obtain rfl : k=L.length:=by omega
  rw [List.take_length] at o ⊢;refine tt ?_;refine fz_own o rfl fun H o=>tt ?_
  have hb2 : b2sE (some (mL kB (keyB L)))=some (∀ e,e∈(keyB L).map kB→e.isByte=true,.str (keyS L)):=by
   rw [mL,b2sE_sl,List.map_map]; rfl
  rw [hb2];refine tt ?_;refine ⟨fun e he=>?_,pure_ret rfl o.sub⟩
  obtain ⟨n,_,rfl⟩:=List.mem_map.mp he
  rfl
end Go.Proofs.Shf
namespace Go.Shf
open Go.AW
structure Cov where
 shape : Cat
 sizes : List Int
 pulls : List (List Int)
 sieves : List (List (List Int))
 marks : List (List Bool)
@[go_sem] def Cov.cls (v : Cov) : List AV:=[iI v.shape.objs,iL v.shape.frm,iL v.shape.to,iL v.shape.idn,iLL v.shape.comp,iL v.sizes,iLL v.pulls,iLLL v.sieves]
@[go_sem] def Cov.cells (v : Cov) (cnt : AV) : List AV:=[.ptr v.cls,.ptr v.shape.cells,mL (mL AV.bool) v.marks,cnt]
end Go.Shf
namespace Go.Proofs.Shf
open Go.AW Go.Proofs Go.Shf
end Go.Proofs.Shf
namespace Go.Shf
open Go.AW
theorem mput_new {k x : AV} : ∀ {ks vs : List AV},(∀ a,a∈ks→k.keq a=false)→vs.length=ks.length→mput k x ks vs=(ks++[k],vs++[x])
 | [],vs,_,h=>by
  have : vs=[]:=List.eq_nil_of_length_eq_zero h;subst this; rfl
 | b::ks,[],_,h=>by simp at h
 | b::ks,v::vs,h1,h=>by
  simp only [mput,h1 b (by simp),Bool.false_eq_true,if_false];rw [mput_new (fun a ha=>h1 a (by simp [ha])) (by simpa using h)]
  rfl
theorem mget_str : ∀ {ks : List (List UInt8)} {vs : List AV},vs.length=ks.length→∀ s,mget (.str s) (ks.map AV.str) vs=vs[ks.idxOf s]?
 | [],vs,h,i=>by
  have : vs=[]:=List.eq_nil_of_length_eq_zero h;subst this; rfl
 | k::ks,[],h,i=>by simp at h
 | k::ks,v::vs,h,i=>by
  simp only [List.map_cons,mget,AV.keq,decide_eq_true_eq,List.idxOf_cons]
  by_cases e : i=k
  ·subst e; simp
  ·have h2 : (k == i)=false:=by simpa using fun h=>e h.symm
   rw [if_neg e,mget_str (by simpa using h),h2]; simp
theorem keyS_inj {a b : List Int} (ha : ∀ y,y∈a→0≤y∧y<255) (hb : ∀ y,y∈b→0≤y∧y<255) (h : keyS [a]=keyS [b]) : a=b:=by
 have h1 : a.map (fun y=>UInt8.ofNat (IntKind.u8.wrap y).toNat)=b.map (fun y=>UInt8.ofNat (IntKind.u8.wrap y).toNat):=by
  simp only [keyS,keyB,List.flatMap_cons,List.flatMap_nil,List.append_nil,List.map_append,List.map_map] at h;exact List.append_cancel_right h
 have hw : ∀ y : Int,0≤y∧y<255→IntKind.u8.wrap y=y:=fun y hy=>by
  have e : y % 256=y:=by omega
  simp only [IntKind.wrap,IntKind.bits,IntKind.signed]
  simpa using e
 clear h
 induction a generalizing b with
 | nil=>cases b with
  | nil=>rfl
  | cons y b=>simp at h1
 | cons x a ih=>cases b with
  | nil=>simp at h1
  | cons y b =>
   simp only [List.map_cons,List.cons.injEq] at h1
   have hx:=ha x (by simp)
   have hy:=hb y (by simp);rw [hw x hx,hw y hy] at h1
   have e : x=y:=by
    have h2:=congrArg UInt8.toNat h1.1;simp only [UInt8.toNat_ofNat'] at h2;omega
   rw [e,ih (fun z hz=>ha z (by simp [hz])) (fun z hz=>hb z (by simp [hz])) h1.2]
theorem plS_eq {L : List (List Int)} (nd : L.Nodup) (hb : ∀ l,l∈L→∀ y,y∈l→0≤y∧y<255) : ∀ k,k≤L.length→plS L k=(((L.take k).map fun l=>keyS [l]).map AV.str,(List.range k).map fun i : Nat=>iI (i : Int)):=by
 intro k
 induction k with
 | zero=>intro _; rfl
 | succ k ih =>
  intro hk
  have hk : k<L.length:=by omega
  rw [plS,ih (by omega),mput_new]
  ·rw [Go.Proofs.Shf.take_succ_getD L hk,List.range_succ]; simp
  ·intro a ha;simp only [List.map_map,List.mem_map,Function.comp_apply] at ha
   obtain ⟨l,hl,rfl⟩:=ha;simp only [AV.keq,decide_eq_false_iff_not]
   intro e
   have hm : L.getD k default∈L:=mem_getD.mpr ⟨k,hk,rfl⟩
   have:=keyS_inj (hb _ hm) (hb _ (List.mem_of_mem_take hl)) e;rw [← this] at hl
   obtain ⟨j,hj,e2⟩:=mem_getD.mp hl;rw [List.length_take] at hj
   have e3 : L.getD j default=L.getD k default:=by
    rw [← e2]; simp [List.getD_eq_getElem?_getD,List.getElem?_take,show j<k by omega]
   have h1:=indexOf_nodup nd (k:=j) (by omega)
   have h2:=indexOf_nodup nd hk;rw [e3,h2] at h1;omega
  ·simp
   omega
theorem plS_get {L : List (List Int)} (nd : L.Nodup) (hb : ∀ l,l∈L→∀ y,y∈l→0≤y∧y<255) {m : List Int} (hm : m∈L) : mget (.str (keyS [m])) (plS L L.length).1 (plS L L.length).2=some (iI (indexOf L m)):=by
 obtain ⟨k,hk,rfl⟩:=mem_getD.mp hm;rw [plS_eq nd hb _ (Nat.le_refl _),List.take_length,mget_str (by simp),indexOf_nodup nd hk]
 have : (L.map fun l=>keyS [l]).idxOf (keyS [L.getD k default])=k:=by
  have hnd : (L.map fun l=>keyS [l]).Nodup:=by
   rw [List.Nodup,List.pairwise_map];refine List.Pairwise.imp_of_mem ?_ nd
   intro a b ha hb2 hne e;exact hne (keyS_inj (hb a ha) (hb b hb2) e)
  have hk2 : k<(L.map fun l=>keyS [l]).length:=by simpa using hk
  have:=hnd.idxOf_getElem k hk2
  simpa [List.getD_eq_getElem?_getD,hk] using this
 rw [this]
 simp [hk]
end Go.Shf
namespace Go.AW
end Go.AW
namespace Go.Shf
open Go.AW
def plE (L : List (List Int)) : AV:=.imap (plS L L.length).1 (plS L L.length).2
instance : One plE:=⟨fun _=>rfl,fun _=>rfl⟩
end Go.Shf
namespace Go.Proofs.Shf
open Go.AW Go.Proofs Go.Shf
@[go_sem] noncomputable def stepVal (f : SF) (V : List (List Int)) : AV:=.ptr [.ptr f.cells,iI f.shape.objs,iL f.shape.frm,iL f.shape.to,iL f.shape.idn,iLL f.shape.comp,iL (stepSizes f V),iLL (stepActs f V),iLL V,iLLL (famsOf f V),mL plE (famsOf f V)]
end Go.Proofs.Shf
namespace Go.Shf
open Go.AW
end Go.Shf
namespace Go.Proofs.Shf
open Go.AW Go.Proofs Go.Shf
end Go.Proofs.Shf
namespace Go.Shf
open Go.AW
@[go_sem] def clsCells (c : Cat) (S : List (List (List Int))) (sz : AV) (pl : AV) : List AV:=[iI c.objs,iL c.frm,iL c.to,iL c.idn,iLL c.comp,sz,pl,iLLL S]
end Go.Shf
namespace Go.Proofs.Shf
open Go.AW Go.Proofs Go.Shf
end Go.Proofs.Shf
