/- A part of a proof. -/
import Derived.Test.YthflgdphhajkbaaGreatF7
set_option linter.unusedVariables false
set_option linter.unusedSimpArgs false
set_option linter.unusedSectionVars false
open Nat (reduceEqDiff reduceAdd reduceMul reduceLeDiff reduceLT)
namespace Go.Proofs.Shf
open Go.AW Go.Proofs Go.Shf
def TopS (id : Nat) (c : Cat) (H0 : Heap) (l : Ob) : Kont:=fun r H'=>∃ (s' : Src) (C : List (List (List Int))) (p : Ob),s'.Ok∧TopO c C p r∧Owns H0 H' ((id,s'.obj)::(p++l))
theorem l27Some_own (B : Nat) (c : Cat) {id : Nat} {s : Src} {H0 H : Heap} {l : Ob} (hs : s.Ok) (o : Owns H0 H ((id,s.obj)::l)) : CallH Tryz.prog B 252 [.ref id 0,.agg c.cells] H (TopS id c H0 l):=by
 refine c252p.go fun _=>?_;refine tt ?_;refine nb o fun id4 H o=>tt ?_;refine (l27Category_own B c H).mono ?_
 rintro r H' (⟨cod,hcod,rfl,rfl⟩ | ⟨⟨hc,hf⟩,idM,ms,rfl,hM,o2⟩)
 ·refine ⟨trivial,tt ?_⟩;refine nb o fun id5 H o=>tt ?_;refine sw o fun H o=>tt ?_;rw [decide_eq_false hcod];refine tt ?_;refine newBuf_own o fun idC H o=>tt ?_;refine sw (o.pull [_,_]) fun H o=>tt ?_
  have hr2:=o.rc 6 0 (by simp);simp only [List.drop_zero] at hr2;rw [hr2];refine tt ?_;refine ⟨H,.refl _,s,[],[(idC,.cells 1 [] 0)],hs,⟨idC,[],[],rfl,.nil,⟨by simp,by simp⟩,rfl⟩, ?_⟩
  have o : Owns H0 H ((id4,MObj.cells 6 [iI c.objs,iL c.frm,iL c.to,iL c.idn,iLL c.comp,.buf idC 0] 0)::(id5,MObj.cells 8 [.int .i64 0,.nilsl,.nilsl,.nilsl,.nilsl,.nilsl,.nilsl,.nilsl] 0)::(id,s.obj)::([(idC,.cells 1 [] 0)]++l)):=o.pm;exact o.tl.tl
 ·refine ⟨trivial, ?_⟩
  have o:=o.trans o2
  have ht:=tabOk hc hf;refine tt ?_;refine nb o fun id5 H o=>tt ?_;refine sw o fun H o=>?_
  have dT : ∀ i : Decidable True,@decide True i=true:=fun i=>decide_eq_true trivial;refine tw dT ?_
  obtain ⟨n,hn⟩ : ∃ n,ms.length=n:=⟨_,rfl⟩;rw [hn]
  have z6 : ∃ z : MObj,z=MObj.cells 6 [.int .i64 0,.nilsl,.nilsl,.nilsl,.nilsl,.nilsl] 0:=⟨_,rfl⟩
  have o : Owns H0 H ((id,s.obj)::(idM,.cells 1 (ms.map bufE) 0)::(inner AV.bool ms++([(id5,MObj.cells 8 (tabCells c (listsOf c)) 0),(id4,MObj.cells 6 [.int .i64 0,.nilsl,.nilsl,.nilsl,.nilsl,.nilsl] 0)]++l))):=by
   simp only [tabCells] at o ⊢;exact o.pm
  refine (l01Next_ok B 3).go hs o fun r s H _ ⟨v,e,hv0,hv1,_⟩ hs o=>?_;subst e
  obtain ⟨v,rfl⟩:=Int.eq_ofNat_of_zero_le hv0
  have hv1:=hv1 (by omega);refine tt ?_
  refine awp_while [0,4,5,6] (G:=Nat × Src × List (Nat × List Bool)) (fun g=>[(8,some (.int .i64 (g.1 : Int)))])
   (fun m g H=>(m=g.1∧g.1<3∧g.2.1.Ok)∧(g.2.2.length=n∧MarkOk (listsOf c) (g.2.2.map Prod.snd))∧Owns H0 H ((id,g.2.1.obj)::(idM,.cells 1 (g.2.2.map bufE) 0)::(inner AV.bool g.2.2++([(id5,MObj.cells 8 (tabCells c (listsOf c)) 0),(id4,MObj.cells 6 [.int .i64 0,.nilsl,.nilsl,.nilsl,.nilsl,.nilsl] 0)]++l)))) v (v,s,ms) ⟨⟨rfl,by simp only; omega,hs⟩,⟨hn,hM⟩,o⟩ rfl ?_
  clear o hs hM hn hv0 hv1
  rintro m ⟨v,s,ms⟩ H ⟨⟨hm,hv3,hs⟩,⟨hn,hM⟩,o⟩;dsimp only at hm;subst hm;dsimp only at hv3 hs hn hM o
  have hMl:=hM.len;rw [List.length_map] at hMl;refine tt ?_;refine ⟨fun h1=>At.mk ?_,fun h1=>At.mk ?_⟩
  case' refine_1 =>
   have h1p:=of_decide h1;refine tw h1 ?_;refine ⟨fun h2=>At.mk ?_,fun h2=>At.mk ?_⟩
   case' refine_1 =>
    have h2p:=of_decide h2;refine tt ?_;refine (l01Next_ok B n).go hs o fun r s H _ ⟨x,e,hx0,hx1,_⟩ hs o=>?_;subst e
    have hx1:=hx1 (by omega)
    obtain ⟨x,rfl⟩:=Int.eq_ofNat_of_zero_le hx0
    have hxm : x<ms.length:=by omega
    have htop:=(ht.top (x:=x) (by omega)).1
    have hrl:=hM.row x (by omega);rw [map_getD _ hxm] at hrl
    have wp : IntKind.i64.wrap ((m : Int) - 1)=((m - 1 : Nat) : Int):=wpred (by omega) (by omega);refine tt ?_;refine ⟨by omega,⟨_,_,o.tl.h0⟩,rd_cells o.tl (by simp; omega) ?_⟩;rw [getD_map ms (by omega)];refine tt ?_;refine ⟨by omega,⟨_,_,o.tl.h0⟩,rd_cells o.tl (by simp; omega) ?_⟩;rw [getD_map ms (by omega)];refine tt ?_;refine (l01Next_ok B ((ms.getD x default).2.length)).goZ hs o fun r s H _ ⟨v,e,hv0,hv1,_⟩ hs o hz=>⟨hz, ?_⟩;subst e
    have hv1:=hv1 (by omega);refine tt ?_;refine ⟨by omega, ?_⟩
    have o : Owns H0 H ((idM,MObj.cells 1 (ms.map bufE) 0)::(inner AV.bool ms++((id,s.obj)::([(id5,MObj.cells 8 (tabCells c (listsOf c)) 0),(id4,MObj.cells 6 [.int .i64 0,.nilsl,.nilsl,.nilsl,.nilsl,.nilsl] 0)]++l)))):=o.pm;refine st_inner o (by omega) (by omega) true rfl fun H o=>?_
    have hM:=mark_set hM x v.toNat hxm true;refine tw wp ?_;exact while_next (m - 1) (m - 1,s,ms.set x ((ms.getD x default).1,(ms.getD x default).2.set v.toNat true)) (by omega) ⟨⟨rfl,by show m - 1<3; omega,hs⟩,⟨by simp [hn],hM⟩,by simp only [tabCells] at o ⊢; exact o.pm⟩ rfl
  all_goals
   try (try simp only [go_sem,↓reduceIte,reduceEqDiff,reduceAdd,reduceMul,reduceLeDiff,reduceLT,h1])
   try (try simp only [go_sem,↓reduceIte,reduceEqDiff,reduceAdd,reduceMul,reduceLeDiff,reduceLT])
   clear h1;refine rd_getn (o.get (id5,MObj.cells 8 (tabCells c (listsOf c)) 0) (by simp)) (by simp [tabCells]) ?_;refine tt ?_
   have hcall:=l27Spread_own B c (listsOf c) ht ms hM idM H0 H ((id,s.obj)::([(id5,MObj.cells 8 (tabCells c (listsOf c)) 0),(id4,MObj.cells 6 [.int .i64 0,.nilsl,.nilsl,.nilsl,.nilsl,.nilsl] 0)]++l)) (o.pm);rw [hn] at hcall;refine hcall.mono ?_;clear hcall o hM hn hMl
   rintro r H ⟨rfl,ms,hn,hM,o⟩;refine tt ?_;refine wk_nest (f:=AV.bool) ms [] H o fun H o=>?_;simp only [List.nil_append] at o;refine wk_slot (f:=mL AV.bool) (A:=ms.map Prod.snd) 6 (.inr ⟨idM,by rw [List.length_map,hn],o⟩) rfl fun H o=>wkW_done ?_;refine tt ?_;refine rd_getn (o.get (id5,MObj.cells 8 (tabCells c (listsOf c)) 0) (by simp)) (by simp [tabCells]) ?_;refine tt ?_;refine New.go' (l27Covers_new B c hc (listsOf c) ht (ms.map Prod.snd) hM) o fun X p H ⟨C,idC,Xs,ob,e1,hX,hbd,e2⟩ o _=>?_;subst e1 e2;refine tt ?_
   have o : Owns H0 H ((id4,MObj.cells 6 [.int .i64 0,.nilsl,.nilsl,.nilsl,.nilsl,.nilsl] 0)::(id5,MObj.cells 8 (tabCells c (listsOf c)) 0)::(id,s.obj)::(((idC,.cells 1 Xs 0)::ob)++l)):=o.pm;refine sw o fun H o=>tt ?_
   have hr2:=o.rc 6 0 (by simp);simp only [List.drop_zero] at hr2;rw [hr2];refine tt ?_;exact ⟨H,.refl _,s,C,(idC,.cells 1 Xs 0)::ob,hs,⟨idC,Xs,ob,rfl,hX,hbd,rfl⟩,o.tl.tl⟩
def TopR (r : AV) : Prop:=∃ j : Top,r=.agg j.cells
theorem l27Draw_ok (B : Nat) : Rd B 251 [] TopR:=by
 intro id s H0 H hs o;refine c251p.go fun _=>?_;refine tt ?_;refine nb o fun id2 H o=>tt ?_;refine (l27Base_ok B).go hs o.swap fun r s H _ ⟨c,e,_⟩ hs o=>?_;subst e;refine tt ?_;refine (l27Some_own B c hs o).mono ?_
 rintro r H ⟨s,C,p,hs,⟨idC,Xs,ob,rfl,hX,⟨hb1,hb2⟩,rfl⟩,o⟩
 have hXl:=hX.len;refine tt ?_;refine nb o fun id3 H o=>tt ?_;refine sw o fun H o=>tt ?_
 have o : Owns H0 H ((id,s.obj)::(id3,tpO c (.buf idC Xs.length))::(idC,.cells 1 Xs 0)::(ob++[(id2,MObj.cells 6 [.int .i64 0,.nilsl,.nilsl,.nilsl,.nilsl,.nilsl] 0)])):=by
  simp only [tpO];exact o.pm
 refine (l01Next_ok B 24).go hs o fun r s H _ ⟨v,e,_⟩ hs o=>?_;subst e;refine tt ?_;apply bk <;> intro g0
 ·refine tt ?_;refine rd_cells o.tl (by simp) ?_;refine tt ?_;apply bk <;> intro g3
  ·have g3p:=of_decide g3;refine tw g3 ?_;refine rd_cells o.tl (by simp) ?_;refine tt ?_;refine ⟨by omega,rd_cells o.tl.tl (by omega) ?_⟩
   obtain ⟨X0,Xs,rfl⟩ : ∃ a r,Xs=a::r:=by
    cases Xs with
    | nil=>simp at g3p
    | cons a r=>exact ⟨a,r,rfl⟩
   obtain ⟨A0,C0,pX,oC,rfl,rfl,hp,hR⟩ : ∃ A0 C0 pX oC,C=A0::C0∧ob=pX++oC∧LsP iL pX X0 A0∧LsR iL Xs C0 oC:=by
    cases hX with
    | cons hp hR=>exact ⟨_,_,_,_,rfl,rfl,hp,hR⟩
   have hlA:=hp.lenE
   have hX : LsR iL (X0::Xs) (A0::C0) (pX++oC):=.cons hp hR;rw [show (X0::Xs).getD (Int.toNat 0) nv=X0 from rfl];refine tw hlA ?_
   have hCl:=hX.len
   have od : Owns H0 H ((idC,.cells 1 (X0::Xs) 0)::((pX++oC)++[(id3,tpO c (.buf idC (X0::Xs).length)),(id,s.obj),(id2,MObj.cells 6 [.int .i64 0,.nilsl,.nilsl,.nilsl,.nilsl,.nilsl] 0)])):=o.pm;refine wk_rows hX [] H od fun H o=>?_;simp only [List.nil_append] at o
   have o : Owns H0 H ((id3,tpO c (.buf idC (X0::Xs).length))::(idC,.cells 1 ((A0::C0).map (mL iL)) 0)::[(id,s.obj),(id2,MObj.cells 6 [.int .i64 0,.nilsl,.nilsl,.nilsl,.nilsl,.nilsl] 0)]):=o.pm;refine wkW_done ?_;refine tt ?_;apply bk <;> intro g4
   ·have g4p:=of_decide g4;refine tt ?_;refine rd_cells o (by simp) ?_;refine tt ?_;refine rd_cells o (by simp) ?_;refine tt ?_;refine ⟨by simp,rd_own o.tl (by simp) ?_⟩;rw [show (A0::C0).getD (Int.toNat 0) default=A0 from rfl];refine tt ?_;refine ⟨by omega,by simp, ?_⟩;refine set_own (A0.drop (Int.toNat 1)) o.swap rfl (by simp) fun H o=>?_
    have o:=o.swap
    have hCl : (X0::Xs).length=((A0::C0).set (Int.toNat 0) (A0.drop (Int.toNat 1))).length:=by rw [List.length_set]; exact hCl
    refine tt ?_;simp only [tpO] at o;refine wk_cell (f:=mL iL) 5 o rfl hCl fun H o=>wkW_done ?_;simp only [List.set_cons_zero,List.set_cons_succ] at o;refine tt ?_;refine rd_celln o (by simp) ?_;refine tt ?_;refine sw (o.pull [_,_]) fun H o=>tt ?_
    have hr2:=o.rc 6 0 (by simp);simp only [List.drop_zero] at hr2;rw [hr2];refine tt ?_;exact src_ret ⟨⟨c,(A0::C0).set (Int.toNat 0) (A0.drop (Int.toNat 1))⟩,rfl⟩ hs (o.pull [_,_])
   ·refine tt ?_;simp only [tpO] at o;refine wk_cell (f:=mL iL) 5 o rfl hCl fun H o=>wkW_done ?_;simp only [List.set_cons_zero,List.set_cons_succ] at o;refine tt ?_;refine rd_celln o (by simp) ?_;refine tt ?_;refine sw (o.pull [_,_]) fun H o=>tt ?_
    have hr2:=o.rc 6 0 (by simp);simp only [List.drop_zero] at hr2;rw [hr2];refine tt ?_;exact src_ret ⟨⟨c,A0::C0⟩,rfl⟩ hs (o.pull [_,_])
  ·refine tw g3 ?_;refine wkW_done ?_;refine tt ?_
   have hCl:=hX.len
   have od : Owns H0 H ((idC,.cells 1 (Xs) 0)::((ob)++[(id3,tpO c (.buf idC (Xs).length)),(id,s.obj),(id2,MObj.cells 6 [.int .i64 0,.nilsl,.nilsl,.nilsl,.nilsl,.nilsl] 0)])):=o.pm;refine wk_rows hX [] H od fun H o=>?_;simp only [List.nil_append] at o
   have o : Owns H0 H ((id3,tpO c (.buf idC (Xs).length))::(idC,.cells 1 ((C).map (mL iL)) 0)::[(id,s.obj),(id2,MObj.cells 6 [.int .i64 0,.nilsl,.nilsl,.nilsl,.nilsl,.nilsl] 0)]):=o.pm;simp only [tpO] at o;refine wk_cell (f:=mL iL) 5 o rfl hCl fun H o=>wkW_done ?_;simp only [List.set_cons_zero,List.set_cons_succ] at o;refine tt ?_;refine rd_celln o (by simp) ?_;refine tt ?_;refine sw (o.pull [_,_]) fun H o=>tt ?_
   have hr2:=o.rc 6 0 (by simp);simp only [List.drop_zero] at hr2;rw [hr2];refine tt ?_;exact src_ret ⟨⟨c,C⟩,rfl⟩ hs (o.pull [_,_])
 ·refine tt ?_;apply bk <;> intro g1
  ·refine tt ?_;refine rd_cells o.tl (by simp) ?_;refine tt ?_;refine newBuf_own o fun idr H o=>tt ?_
   have o : Owns H0 H ((idC,.cells 1 Xs 0)::((idr,.cells 1 [] 0)::(id,s.obj)::(id3,tpO c (.buf idC Xs.length))::(ob++[(id2,MObj.cells 6 [.int .i64 0,.nilsl,.nilsl,.nilsl,.nilsl,.nilsl] 0)]))):=o.pm;refine app_raw o rfl rfl rfl (by simp only [maxL]; omega) fun idD H o=>tt ?_
   have o : Owns H0 H ((id3,tpO c (.buf idC Xs.length))::(idD,.cells 1 (Xs++[AV.buf idr 0]) 0)::((idr,.cells 1 [] 0)::(id,s.obj)::(ob++[(id2,MObj.cells 6 [.int .i64 0,.nilsl,.nilsl,.nilsl,.nilsl,.nilsl] 0)]))):=o.pm;refine sw o fun H o=>tt ?_
   have hX:=hX.snoc' (X:=.buf idr 0) (A:=[]) (p:=[(idr,.cells 1 [] 0)]) (.inr ⟨idr,rfl,rfl⟩)
   have hXs : Xs.length+1=(Xs++[AV.buf idr 0]).length:=by simp
   rw [hXs] at o
   have o : Owns H0 H ((id3,tpO c (.buf idD (Xs++[AV.buf idr 0]).length))::(idD,.cells 1 (Xs++[AV.buf idr 0]) 0)::((idr,.cells 1 [] 0)::(id,s.obj)::(ob++[(id2,MObj.cells 6 [.int .i64 0,.nilsl,.nilsl,.nilsl,.nilsl,.nilsl] 0)]))):=o
   have hCl:=hX.len
   have od : Owns H0 H ((idD,.cells 1 (Xs++[AV.buf idr 0]) 0)::((ob++[(idr,.cells 1 [] 0)])++[(id3,tpO c (.buf idD (Xs++[AV.buf idr 0]).length)),(id,s.obj),(id2,MObj.cells 6 [.int .i64 0,.nilsl,.nilsl,.nilsl,.nilsl,.nilsl] 0)])):=o.pm;refine wk_rows hX [] H od fun H o=>?_;simp only [List.nil_append] at o
   have o : Owns H0 H ((id3,tpO c (.buf idD (Xs++[AV.buf idr 0]).length))::(idD,.cells 1 ((C++[[]]).map (mL iL)) 0)::[(id,s.obj),(id2,MObj.cells 6 [.int .i64 0,.nilsl,.nilsl,.nilsl,.nilsl,.nilsl] 0)]):=o.pm;simp only [tpO] at o;refine wk_cell (f:=mL iL) 5 o rfl hCl fun H o=>wkW_done ?_;simp only [List.set_cons_zero,List.set_cons_succ] at o;refine tt ?_;refine rd_celln o (by simp) ?_;refine tt ?_;refine sw (o.pull [_,_]) fun H o=>tt ?_
   have hr2:=o.rc 6 0 (by simp);simp only [List.drop_zero] at hr2;rw [hr2];refine tt ?_;exact src_ret ⟨⟨c,C++[[]]⟩,rfl⟩ hs (o.pull [_,_])
  ·refine tt ?_;apply bk <;> intro g2
   ·refine tt ?_;refine rd_cells o.tl (by simp) ?_;refine tt ?_;apply bk <;> intro g3
    ·have g3p:=of_decide g3
     have hc0:=hb2 (C.getD 0 []) (mem_getD.mpr ⟨0,by omega,rfl⟩);refine tt ?_;refine ⟨⟨_,_,o.tl.h0⟩,rd_cells o.tl (by simp) ?_⟩;refine tt ?_;refine ⟨⟨_,_,o.tl.h0⟩,rd_cells o.tl (by simp) ?_⟩;refine tt ?_;refine ⟨by omega,⟨_,_,o.tl.tl.h0⟩,rd_cells o.tl.tl (by omega) ?_⟩;refine tt ?_;refine (l02Number_ok B 3).goZ hs o fun r s H _ ⟨v,e⟩ hs o hz=>⟨hz, ?_⟩;subst e;refine tt ?_
     have o : Owns H0 H ((idC,.cells 1 Xs 0)::(ob++[(id,s.obj),(id3,tpO c (.buf idC Xs.length)),(id2,MObj.cells 6 [.int .i64 0,.nilsl,.nilsl,.nilsl,.nilsl,.nilsl] 0)])):=o.pm;refine rows_app (i:=0) o hX (by omega) [v] rfl (by simp only [maxL]; omega) fun X' ob' H hX1 hX' o=>?_;try simp only [go_sem,↓reduceIte,reduceEqDiff,reduceAdd,reduceMul,reduceLeDiff,reduceLT,AV.cells_one hX1]
     refine ⟨by omega,st_cells o (by omega) (by (try simp only [go_sem]); (try simp)) (by simp [hX1]) fun H o=>?_⟩
     have hw : wr Xs (Int.toNat 0) [X']=Xs.set 0 X':=rfl;rw [hw,show Xs.length=(Xs.set 0 X').length by simp] at o
     replace hX:=hX';refine tt ?_
     have hCl:=hX.len
     have od : Owns H0 H ((idC,.cells 1 (Xs.set 0 X') 0)::((ob')++[(id3,tpO c (.buf idC (Xs.set 0 X').length)),(id,s.obj),(id2,MObj.cells 6 [.int .i64 0,.nilsl,.nilsl,.nilsl,.nilsl,.nilsl] 0)])):=o.pm;refine wk_rows hX [] H od fun H o=>?_;simp only [List.nil_append] at o
     have o : Owns H0 H ((id3,tpO c (.buf idC (Xs.set 0 X').length))::(idC,.cells 1 ((C.set 0 (C.getD 0 []++[[v]])).map (mL iL)) 0)::[(id,s.obj),(id2,MObj.cells 6 [.int .i64 0,.nilsl,.nilsl,.nilsl,.nilsl,.nilsl] 0)]):=o.pm;simp only [tpO] at o;refine wk_cell (f:=mL iL) 5 o rfl hCl fun H o=>wkW_done ?_;simp only [List.set_cons_zero,List.set_cons_succ] at o;refine tt ?_;refine rd_celln o (by simp) ?_;refine tt ?_;refine sw (o.pull [_,_]) fun H o=>tt ?_
     have hr2:=o.rc 6 0 (by simp);simp only [List.drop_zero] at hr2;rw [hr2];refine tt ?_;exact src_ret ⟨⟨c,C.set 0 (C.getD 0 []++[[v]])⟩,rfl⟩ hs (o.pull [_,_])
    ·refine tt ?_
     have hCl:=hX.len
     have od : Owns H0 H ((idC,.cells 1 (Xs) 0)::((ob)++[(id3,tpO c (.buf idC (Xs).length)),(id,s.obj),(id2,MObj.cells 6 [.int .i64 0,.nilsl,.nilsl,.nilsl,.nilsl,.nilsl] 0)])):=o.pm;refine wk_rows hX [] H od fun H o=>?_;simp only [List.nil_append] at o
     have o : Owns H0 H ((id3,tpO c (.buf idC (Xs).length))::(idC,.cells 1 ((C).map (mL iL)) 0)::[(id,s.obj),(id2,MObj.cells 6 [.int .i64 0,.nilsl,.nilsl,.nilsl,.nilsl,.nilsl] 0)]):=o.pm;simp only [tpO] at o;refine wk_cell (f:=mL iL) 5 o rfl hCl fun H o=>wkW_done ?_;simp only [List.set_cons_zero,List.set_cons_succ] at o;refine tt ?_;refine rd_celln o (by simp) ?_;refine tt ?_;refine sw (o.pull [_,_]) fun H o=>tt ?_
     have hr2:=o.rc 6 0 (by simp);simp only [List.drop_zero] at hr2;rw [hr2];refine tt ?_;exact src_ret ⟨⟨c,C⟩,rfl⟩ hs (o.pull [_,_])
   ·refine tt ?_
    have hCl:=hX.len
    have od : Owns H0 H ((idC,.cells 1 (Xs) 0)::((ob)++[(id3,tpO c (.buf idC (Xs).length)),(id,s.obj),(id2,MObj.cells 6 [.int .i64 0,.nilsl,.nilsl,.nilsl,.nilsl,.nilsl] 0)])):=o.pm;refine wk_rows hX [] H od fun H o=>?_;simp only [List.nil_append] at o
    have o : Owns H0 H ((id3,tpO c (.buf idC (Xs).length))::(idC,.cells 1 ((C).map (mL iL)) 0)::[(id,s.obj),(id2,MObj.cells 6 [.int .i64 0,.nilsl,.nilsl,.nilsl,.nilsl,.nilsl] 0)]):=o.pm;simp only [tpO] at o;refine wk_cell (f:=mL iL) 5 o rfl hCl fun H o=>wkW_done ?_;simp only [List.set_cons_zero,List.set_cons_succ] at o;refine tt ?_;refine rd_celln o (by simp) ?_;refine tt ?_;refine sw (o.pull [_,_]) fun H o=>tt ?_
    have hr2:=o.rc 6 0 (by simp);simp only [List.drop_zero] at hr2;rw [hr2];refine tt ?_;exact src_ret ⟨⟨c,C⟩,rfl⟩ hs (o.pull [_,_])
theorem set_getD_selfT (A : List Int) (i : Nat) : A.set i (A.getD i default)=A:=by
 apply List.ext_getElem?
 intro j
 by_cases e : i=j
 ·subst e
  by_cases h : i<A.length
  ·simp [List.getD_eq_getElem?_getD,h]
  ·rw [List.getElem?_eq_none (by simp; omega),List.getElem?_eq_none (by omega)]
 ·rw [List.getElem?_set_ne e]
theorem classes_ok (B : Nat) (l : List Int) (hl : l.length≤100000) : Pur Tryz.prog B 279 [iL l] (iL (classL l)):=by
 refine ⟨fun H0=>c279p.go fun _=>?_⟩
 have o : Owns H0 H0 []:=.nil _;refine tt ?_;refine new_list iI o fun id3 H o=>tt ?_;refine new_list iI o fun id4 H o=>tt ?_
 refine awp_for [0] (G:=(Nat × List Int) × (Nat × List Int)) (fun k g=>[(3,some (.buf g.1.1 g.1.2.length)),(4,some (.buf g.2.1 g.2.2.length)),(5,some (.int .i64 (k : Int)))])
  (fun k g H=>(g.1.2=classL (l.take k)∧g.2.2=seenL (l.take k))∧Owns H0 H [(g.2.1,.cells 1 (g.2.2.map iI) 0),(g.1.1,.cells 1 (g.1.2.map iI) 0)]) l.length ((id3,[]),(id4,[])) ⟨⟨rfl,rfl⟩,o⟩ rfl ?_
 clear o
 rintro k ⟨⟨id3,out⟩,⟨id4,seen⟩⟩ H hk ⟨⟨hout,hseen⟩,o⟩;dsimp only at o hout hseen
 have hol : out.length=k:=by rw [hout,classL_len,List.length_take]; omega
 have hsl : seen.length≤k:=by rw [hseen]; exact Nat.le_trans (seenL_len _ _ rfl) (by rw [List.length_take]; omega)
 refine tt ?_;apply bk <;> intro h1
 ·refine tt ?_
  have h1p:=dd h1
  have w1:=wsucc (k:=k) (by omega)
  have hs1:=seenL_snoc (l.take k) (l.getD k default)
  have ho1:=classL_snoc (l.take k) (l.getD k default);rw [← take_one l h1p,← hseen] at hs1;rw [← take_one l h1p,← hout] at ho1;refine ⟨h1p,call_lent 0 rfl o rfl (.int _ _) (l01Index_ok ..).run ?_⟩
  have hb:=indexOf_bd seen (l.getD k default)
  have hm:=indexOf_mem seen (l.getD k default);refine tt ?_;apply bk <;> intro h2
  ·refine tt ?_
   have h2p:=dd h2
   have hni : l.getD k default ∉ seen:=fun h=>by have:=hm.mpr h; omega
   rw [if_neg hni] at hs1;rw [hs1,indexOf_newT hni] at ho1;refine ⟨h1p, ?_⟩;refine app_own (l.getD k default) o rfl rfl (by simp only [maxL]; omega) fun id4 H o=>tt ?_;refine app_own ((seen.length : Nat) : Int) o.swap rfl rfl (by simp only [maxL]; omega) fun id3 H o=>?_;refine tw w1 ?_;exact for_next ((_,_),(_,_)) (by omega) ⟨⟨ho1.symm,hs1.symm⟩,o.swap⟩ rfl
  ·refine tt ?_
   have h2p:=dd h2
   have hi : l.getD k default∈seen:=hm.mp (by omega);rw [if_pos hi] at hs1;rw [hs1] at ho1;refine app_own (indexOf seen (l.getD k default)) o.swap rfl rfl (by simp only [maxL]; omega) fun id3 H o=>?_;refine tw w1 ?_;exact for_next ((_,_),(_,_)) (by omega) ⟨⟨ho1.symm,hs1.symm⟩,o.swap⟩ rfl
 ·refine tt ?_
  have h1p:=dd h1
  obtain rfl : k=l.length:=by omega
  refine fz_own o.swap rfl fun H o=>tt ?_;exact pure_ret (by rw [hout,List.take_length]) o.sub
theorem join_pok (B : Nat) (n : Nat) (hn : n≤100000) (ps : List (List Int)) (hp : ∀ q,q∈ps→2≤q.length∧(0≤q.getD 0 default∧(q.getD 0 default).toNat<n)∧(0≤q.getD 1 default∧(q.getD 1 default).toNat<n)) :
  Pur Tryz.prog B 229 [iI n,iLL ps] (iL (joinL n ps)):=by
 refine ⟨fun H0=>c229p.go fun ⟨_,hf,_⟩=>?_⟩
 have hl:=fine_mL_le hf;simp only [maxL] at hl
 have o : Owns H0 H0 []:=.nil _;refine tt ?_;refine new_list iI o fun id H o=>tt ?_;refine awp_for [0,1] (G:=Nat × List Int) (fun k g=>[(5,some (.buf g.1 g.2.length)),(6,some (.int .i64 (k : Int)))]) (fun k g H=>g.2=(List.range k).map Int.ofNat∧Owns H0 H [(g.1,.cells 1 (g.2.map iI) 0)]) n (id,[]) ⟨rfl,o⟩ rfl ?_;clear o
 rintro k ⟨id,A⟩ H hk ⟨hA,o⟩;dsimp only at hA o
 have hAl : A.length=k:=by rw [hA]; simp
 refine tt ?_;apply bk <;> intro h1
 ·refine tt ?_
  have h1p:=dd h1
  have w1:=wsucc (k:=k) (by omega);refine app_own (k : Int) o rfl rfl (by simp only [maxL]; omega) fun id H o=>?_;refine tw w1 ?_;exact for_next (_,_) (by omega) ⟨by rw [hA,List.range_succ]; simp,o⟩ rfl
 ·refine tt ?_
  have h1p:=dd h1
  obtain rfl : k=n:=by omega
  refine awp_for [1,5] (fun q _=>[(7,some (.int .i64 (q : Int)))]) (fun q A H=>A=labs k (ps.take q)∧Owns H0 H [(id,.cells 1 (A.map iI) 0)]) ps.length A ⟨hA,o⟩ rfl ?_;clear o
  rintro q A2 H hq ⟨hA2,o⟩
  have hl2 : A2.length=k:=by rw [hA2,labs_len]
  refine tt ?_;apply bk <;> intro h2
  ·refine tt ?_
   have h2p:=dd h2
   have w2:=wsucc (k:=q) (by omega)
   have hqq:=hp _ (mem_getD.mpr ⟨q,h2p,rfl⟩)
   have e0 : ix (ps.getD q default) 0=(ps.getD q default).getD 0 default:=rfl
   have e1 : ix (ps.getD q default) 1=(ps.getD q default).getD 1 default:=rfl
   have hstep:=labs_succ k ps h2p;rw [← hA2,e0,e1] at hstep;refine ⟨h2p,⟨by omega,Nat.lt_of_lt_of_le (by decide) hqq.1⟩,⟨by rw [e0]; omega,by rw [e0]; omega⟩,rd_own o (by rw [e0]; omega) ?_⟩;refine tt ?_;refine ⟨h2p,⟨by omega,Nat.lt_of_lt_of_le (by decide) hqq.1⟩,⟨by rw [e1]; omega,by rw [e1]; omega⟩,rd_own o (by rw [e1]; omega) ?_⟩;refine tt ?_;rw [e0,e1]
   have ea : A2.getD ((ps.getD q default).getD 0 default).toNat default=ix A2 ((ps.getD q default).getD 0 default):=rfl
   have eb : A2.getD ((ps.getD q default).getD 1 default).toNat default=ix A2 ((ps.getD q default).getD 1 default):=rfl;rw [ea,eb]
   generalize ix A2 ((ps.getD q default).getD 0 default)=va at hstep ⊢
   generalize ix A2 ((ps.getD q default).getD 1 default)=vb at hstep ⊢;refine awp_for [1,5,7,8,9] (fun i _=>[(10,some (.int .i64 (i : Int)))]) (fun i A H=>A=relabTo A2 va vb i∧Owns H0 H [(id,.cells 1 (A.map iI) 0)]) k A2 ⟨(relabTo_zero _ _ _).symm,o⟩ rfl ?_;clear o
   rintro i A3 H hi ⟨hA3,o⟩
   have hl3 : A3.length=k:=by rw [hA3,relabTo_len _ _ _ (by omega)]; exact hl2
   rw [hAl];refine tt ?_;apply bk <;> intro h3
   ·refine tw h3 ?_
    have h3p:=dd h3
    have w3:=wsucc (k:=i) (by omega)
    have hg:=relabTo_get A2 va vb (i:=i) (by omega)
    have hs:=relabTo_succ A2 va vb (i:=i) (by omega);rw [← hA3] at hg hs;apply bk <;> intro h4
    ·refine tt ?_
     have h4p:=dd h4;refine ⟨h3p,rd_own o (by omega) ?_⟩;refine tt ?_;apply bk <;> intro h5
     ·refine tt ?_
      have h5p:=dd h5;refine ⟨h3p,set_own _ o rfl (by omega) fun H o=>?_⟩;refine tw w3 ?_;exact for_next _ (by omega) ⟨by rw [hs,if_pos (by rw [← hg]; exact h5p)],o⟩ rfl
     ·refine tw w3 ?_
      have h5p:=dd h5;refine for_next A3 (by omega) ⟨?_,o⟩ rfl;rw [hs,if_neg (by rw [← hg]; exact h5p),← hg,set_getD_selfT]
    ·refine tw w2 ?_
     have h4p:=dd h4;refine for_next A3 (by omega) ⟨?_,o⟩ rfl;subst h4p
     have : ∀ i,relabTo A2 va va i=A2:=fun i=>by rw [relabTo,relab_same,List.take_append_drop]
     rw [hA3,this,hstep,relab_same]
   ·try simp only [go_sem,↓reduceIte,reduceEqDiff,reduceAdd,reduceMul,reduceLeDiff,reduceLT,h3,w2]
    have h3p:=dd h3;refine for_next A3 (by omega) ⟨?_,o⟩ rfl
    have hik : i=A2.length:=by omega
    rw [hA3,hik,relabTo_all,hstep]
  ·refine tt ?_
   have h2p:=dd h2
   obtain rfl : q=ps.length:=by omega
   rw [List.take_length] at hA2;rw [hAl];refine fz_own o hl2.symm fun H o=>tt ?_;refine (classes_ok B A2 (by omega)).go fun _=>tt ?_;exact pure_ret (by rw [joinL,hA2]) o.sub
theorem l01Pairs_own (B : Nat) (p : List Int) (H0 H : Heap) (l : List (Nat × MObj)) (o : Owns H0 H l) : CallH Tryz.prog B 298 [iL p] H (OwnK iL H0 l (·=pairsOf p)):=by
 refine c298p.go fun ⟨hf,_⟩=>?_
 have hl:=fine_mL_le hf;simp only [maxL] at hl;refine tt ?_;refine new_list iL o fun id H o=>tt ?_
 refine awp_for [0] (G:=Nat × List (List Int)) (fun k g=>[(3,some (.buf g.1 g.2.length)),(4,some (.int .i64 (k : Int)))])
  (fun k g H=>g.2=(List.range k).map (fun i : Nat=>[indexOf p (p.getD i default),(i : Int)])∧Owns H0 H ((g.1,.cells 1 (g.2.map iL) 0)::l)) p.length (id,[]) ⟨rfl,o⟩ rfl ?_
 clear o
 rintro k ⟨id,out⟩ H hk ⟨hout,o⟩;dsimp only at hout o
 have hol : out.length=k:=by rw [hout]; simp
 refine tt ?_;apply bk <;> intro h1
 ·refine tt ?_
  have h1p:=dd h1
  have w1:=wsucc (k:=k) (by omega);refine ⟨h1p,(l01Index_ok ..).go fun _=>?_⟩;refine tt ?_;refine app_own [indexOf p (p.getD k default),(k : Int)] o rfl rfl (by simp only [maxL]; omega) fun id H o=>?_;refine tw w1 ?_;exact for_next (_,_) (by omega) ⟨by rw [hout,List.range_succ]; simp,o⟩ rfl
 ·refine tt ?_
  have h1p:=dd h1
  obtain rfl : k=p.length:=by omega
  exact own_ret o rfl (by rw [hout]; rfl)
end Go.Proofs.Shf
namespace Go.Shf
open Go.AW
def constF (c : Cat) (n : Int) : SF:=⟨c,List.replicate c.objs.toNat n,List.replicate c.frm.length ((List.range n.toNat).map Int.ofNat)⟩
theorem rep_succ {α : Type} (k : Nat) (a : α) : List.replicate (k+1) a=List.replicate k a++[a]:=List.replicate_succ'
end Go.Shf
namespace Go.Proofs.Shf
open Go.AW Go.Proofs Go.Shf
abbrev z7 : List AV:=[.int .i64 0,.nilsl,.nilsl,.nilsl,.nilsl,.nilsl,.nilsl]
theorem l19ConstG_ok (B : Nat) (c : Cat) (hob : 0≤c.objs∧c.objs≤4096) (hm : c.frm.length≤4096) (n : Int) (hn : 0≤n∧n≤100) : Pur Tryz.prog B 265 [.agg c.cells,iI n] (.agg (constF c n).cells):=by
 refine ⟨fun H0=>c265p.go fun hfi=>?_⟩
 have o : Owns H0 H0 []:=.nil _;refine tt ?_;refine nb o fun id4 H o=>tt ?_;refine (l02Own_ok B c).go fun _=>tt ?_;refine nb o fun id5 H o=>tt ?_;refine sw o fun H o=>?_
 let st : AV→AV→MObj:=fun x5 x6=>.cells 7 [iI c.objs,iL c.frm,iL c.to,iL c.idn,iLL c.comp,x5,x6] 0
 refine tt ?_;refine awp_for [1,2,4,5] (G:=AV) (fun k X=>[(6,some (.int .i64 (k : Int)))]) (fun k X H=>LsO iI H0 H ((id5,st X .nilsl)::[(id4,.cells 7 z7 0)]) X (List.replicate k n)) c.objs.toNat .nilsl (.inl ⟨rfl,rfl,o⟩) rfl ?_;clear o
 rintro k X H hk hX;refine tt ?_;apply bk <;> intro h1
 ·have h1p:=of_decide h1
  have w:=wsucc (k:=k) (by omega);refine tt ?_;refine rd_get hX.obj (by simp [st]) ?_;refine tt ?_;refine hX.app n rfl (by simp only [List.length_replicate,maxL]; omega) fun idn H o=>?_;rw [← rep_succ] at o ⊢;refine tt ?_;refine sw o.swap fun H o=>?_;refine tw w ?_;exact for_next _ (by omega) (.inr ⟨idn,rfl,o.swap⟩) rfl
 ·have h1p:=of_ndecide h1
  obtain rfl : k=c.objs.toNat:=by omega
  obtain ⟨p5,o,h5⟩:=hX.split
  have o : Owns H0 H ((id5,st X .nilsl)::(p5++[(id4,.cells 7 z7 0)])):=o.perm List.perm_middle;clear hX;refine tt ?_;refine awp_for [1,2,4,5] (G:=AV) (fun a Y=>[(7,some (.int .i64 (a : Int)))]) (fun a Y H=>LsO iL H0 H ((id5,st X Y)::(p5++[(id4,.cells 7 z7 0)])) Y (List.replicate a ((List.range n.toNat).map Int.ofNat))) c.frm.length .nilsl (.inl ⟨rfl,rfl,o⟩) rfl ?_;clear o
  rintro a Y H ha hY
  replace hY : LsO iL H0 H ((id5,st X Y)::(p5++[(id4,.cells 7 z7 0)])) Y (List.replicate a ((List.range n.toNat).map Int.ofNat)):=hY;refine tt ?_;apply bk <;> intro h2
  ·have h2p:=of_decide h2
   have w2:=wsucc (k:=a) (by omega)
   obtain ⟨q,o,hq⟩:=hY.split;clear hY;refine tt ?_;refine new_list iI o fun id8 H o=>tt ?_
   refine awp_for [1,2,4,5,7] (G:=Nat × List Int) (fun e g=>[(8,some (.buf g.1 g.2.length)),(9,some (.int .i64 (e : Int)))])
    (fun e g H=>g.2=(List.range e).map Int.ofNat∧Owns H0 H ((g.1,.cells 1 (g.2.map iI) 0)::(q++((id5,st X Y)::(p5++[(id4,.cells 7 z7 0)]))))) n.toNat (id8,[]) ⟨rfl,o⟩ rfl ?_
   clear o
   rintro e ⟨id8,row⟩ H he ⟨hrow,o⟩;dsimp only at hrow o
   have hrl : row.length=e:=by rw [hrow]; simp
   refine tt ?_;apply bk <;> intro h3
   ·have h3p:=of_decide h3
    have w3:=wsucc (k:=e) (by omega);refine tt ?_;refine app_own (e : Int) o rfl rfl (by simp only [maxL]; omega) fun id8 H o=>?_;refine tw w3 ?_;exact for_next (_,_) (by omega) ⟨by rw [hrow,List.range_succ]; simp,o⟩ rfl
   ·have h3p:=of_ndecide h3
    obtain rfl : e=n.toNat:=by omega
    refine tt ?_;refine fz_own o rfl fun H o=>?_
    have hY:=LsO.mk o hq;clear o;refine tt ?_;refine rd_get hY.obj (by simp [st]) ?_;refine tt ?_;refine hY.app row rfl (by simp only [List.length_replicate,maxL]; omega) fun idn H o=>?_;rw [hrow,← rep_succ] at o ⊢;refine tt ?_;refine sw o.swap fun H o=>?_;refine tw w2 ?_;exact for_next _ (by omega) (.inr ⟨idn,rfl,o.swap⟩) rfl
  ·have h2p:=of_ndecide h2
   obtain rfl : a=c.frm.length:=by omega
   refine tt ?_;refine wk_ls 6 hY rfl fun H o=>?_;simp only [List.set_cons_zero,List.set_cons_succ] at o
   have hX:=LsO.mk (o.perm List.perm_middle.symm) h5;clear o;refine wk_ls 5 hX rfl fun H o=>wkW_done ?_;simp only [List.set_cons_zero,List.set_cons_succ] at o;refine tt ?_;refine rd_celln o (by simp) ?_;refine tt ?_;refine sw o.swap fun H o=>tt ?_
   have hr:=o.rc 7 0 (by simp);simp only [List.drop_zero] at hr;rw [hr];exact pure_ret rfl o.sub
theorem l19Constant_ok (B : Nat) (c : Cat) (hc : c.Shape) (n : Int) (hn : 0≤n∧n≤100) : Pur Tryz.prog B 265 [.agg c.cells,iI n] (.agg (constF c n).cells) :=
 l19ConstG_ok B c (by have:=hc.o; omega) (by have:=hc.m; omega) n hn
def PreQ (c : Cat) (N : Nat) (r : AV) : Prop:=∃ f : SF,r=.agg f.cells∧f.Pre c N
theorem l19Free_ok (B : Nat) (c : Cat) (hc : c.Is) (os : List Int) (hos : os.length≤3) : Rets B 263 [.agg c.cells,iL os] (PreQ c 120):=by
 intro H0;refine c263p.go fun _=>?_
 have hm:=hc.1.m
 have hob:=hc.1.o
 have htl:=hc.1.tol
 have o : Owns H0 H0 []:=.nil _;refine tt ?_;refine nb o fun id4 H o=>tt ?_;refine ⟨⟨by omega,by simp only [maxL]; omega⟩, ?_⟩;rw [rep_one];refine newBuf_own o fun idL H o=>tt ?_
 refine awp_for [1,2,4,5] (G:=List AV × List (List (List Int)) × List (Nat × MObj)) (fun k _=>[(6,some (.int .i64 (k : Int)))])
  (fun k g H=>Owns H0 H ((idL,.cells 1 g.1 0)::(g.2.2++[(id4,.cells 7 z7 0)]))∧LsR iL g.1 g.2.1 g.2.2∧FreeI c os k 0 g.2.1) os.length (List.replicate c.objs.toNat .nilsl,List.replicate c.objs.toNat [],[]) ⟨o,LsR.rep iL _,.zero hob.1⟩ rfl ?_
 clear o
 rintro k ⟨Xs,LL,ob⟩ H hk ⟨o,hR,hI⟩;dsimp only at o hR hI;refine tt ?_;apply bk <;> intro h1
 ·have h1p:=of_decide h1
  have w1:=wsucc (k:=k) (by omega);refine tt ?_
  refine awp_for [1,2,4,5,6] (G:=List AV × List (List (List Int)) × List (Nat × MObj)) (fun h _=>[(7,some (.int .i64 (h : Int)))])
   (fun h g H=>Owns H0 H ((idL,.cells 1 g.1 0)::(g.2.2++[(id4,.cells 7 z7 0)]))∧LsR iL g.1 g.2.1 g.2.2∧FreeI c os k h g.2.1) c.frm.length (Xs,LL,ob) ⟨o,hR,hI⟩ rfl ?_
  clear o hR hI Xs LL ob
  rintro h ⟨Xs,LL,ob⟩ H hh ⟨o,hR,hI⟩;dsimp only at o hR hI;refine tt ?_;apply bk <;> intro h2
  ·have h2p:=of_decide h2
   have w2:=wsucc (k:=h) (by omega)
   have hto:=hc.1.toObj (f:=(h : Int)) (by simpa using h2p);rw [ix_nat] at hto
   have hXl:=hR.len
   have hLl:=hI.len
   have hbd:=hI.bd (c.to.getD h default).toNat
   have hkm : k*c.frm.length≤2*40:=Nat.mul_le_mul (by omega) hm;refine tt ?_;refine ⟨h2p,h1p, ?_⟩;apply bk <;> intro h3
   ·have h3p : c.frm.getD h default=os.getD k default:=of_decide h3;refine tt ?_;refine ⟨by omega,by omega,⟨hto.1,by omega⟩,rd_get o.h0 (by omega) ?_⟩;refine tt ?_;refine rows_app o hR (by omega) [(k : Int),(h : Int)] rfl (by show (LL.getD _ default).length+1≤maxL; simp only [maxL]; omega) fun X' o' H hX1 hR o=>?_;try simp only [go_sem,↓reduceIte,reduceEqDiff,reduceAdd,reduceMul,reduceLeDiff,reduceLT,AV.cells_one hX1]
    refine ⟨⟨hto.1,by omega⟩,st_cells o (by omega) rfl (by simp only [memcons,memnil]; exact ⟨hX1,trivial⟩) fun H o=>?_⟩;simp only [wr_cons,wr_nil] at o;refine tw w2 ?_;exact for_next (_,_,_) (by omega) ⟨o,hR,hI.hit hc.1 h1p h2p h3p⟩ rfl
   ·refine tw w2 ?_;exact for_next (_,_,_) (by omega) ⟨o,hR,hI.skip (of_ndecide h3)⟩ rfl
  ·have h2p:=of_ndecide h2
   obtain rfl : h=c.frm.length:=by omega
   refine tw w1 ?_;exact for_next (_,_,_) (by omega) ⟨o,hR,hI.next⟩ rfl
 ·have h1p:=of_ndecide h1
  obtain rfl : k=os.length:=by omega
  have hLl:=hI.len;refine tt ?_;refine wk_rows hR [] H o fun H o=>wkW_done ?_;rw [List.nil_append] at o;clear hR;refine tt ?_;refine fz_own (f:=iLL) o (by omega) fun H o=>tt ?_;refine (l02Own_ok B c).go fun _=>tt ?_;refine nb o fun id8 H o=>tt ?_;refine sw o fun H o=>?_
  let st : AV→AV→MObj:=fun x5 x6=>.cells 7 [iI c.objs,iL c.frm,iL c.to,iL c.idn,iLL c.comp,x5,x6] 0
  refine tt ?_
  have hpre:=free_pre hc hI (N:=120) (by have:=Nat.mul_le_mul hos hm; omega)
  have hof:=hI.of;clear hI;refine awp_for [2,4,5,8] (G:=AV) (fun k X=>[(9,some (.int .i64 (k : Int)))]) (fun k X H=>LsO iI H0 H ((id8,st X .nilsl)::[(id4,.cells 7 z7 0)]) X ((LL.take k).map fun l=>(l.length : Int))) LL.length .nilsl (.inl ⟨rfl,rfl,o⟩) rfl ?_;clear o
  rintro k X H hk hX;refine tt ?_;apply bk <;> intro h4
  ·have h4p:=of_decide h4
   have w:=wsucc (k:=k) (by omega);refine tt ?_;refine rd_get hX.obj (by simp [st]) ?_;refine tt ?_;refine ⟨h4p, ?_⟩;refine hX.app ((LL.getD k default).length : Int) rfl (by simp only [List.length_map,List.length_take,maxL]; omega) fun idn H o=>?_
   have e5 : ((LL.take k).map fun l=>(l.length : Int))++[((LL.getD k default).length : Int)]=(LL.take (k+1)).map fun l=>(l.length : Int):=by rw [take_one LL h4p]; simp
   rw [e5] at o ⊢;refine tt ?_;refine sw o.swap fun H o=>?_;refine tw w ?_;exact for_next _ (by omega) (.inr ⟨idn,rfl,o.swap⟩) rfl
  ·have h4p:=of_ndecide h4
   obtain rfl : k=LL.length:=by omega
   rw [List.take_length] at hX
   obtain ⟨p5,o,hp5⟩:=hX.split
   have o : Owns H0 H ((id8,st X .nilsl)::(p5++[(id4,.cells 7 z7 0)])):=o.perm List.perm_middle;clear hX;refine tt ?_;refine awp_for [2,4,5,8] (G:=AV) (fun a Y=>[(10,some (.int .i64 (a : Int)))]) (fun a Y H=>LsO iL H0 H ((id8,st X Y)::(p5++[(id4,.cells 7 z7 0)])) Y ((List.range a).map (freeAct c LL))) c.frm.length .nilsl (.inl ⟨rfl,rfl,o⟩) rfl ?_;clear o
   rintro a Y H ha hY
   replace hY : LsO iL H0 H ((id8,st X Y)::(p5++[(id4,.cells 7 z7 0)])) Y ((List.range a).map (freeAct c LL)):=hY;refine tt ?_;apply bk <;> intro h5
   ·have h5p:=of_decide h5
    have w2:=wsucc (k:=a) (by omega)
    have hfr:=hc.1.frmObj (f:=(a : Int)) (by simpa using h5p)
    have hto:=hc.1.toObj (f:=(a : Int)) (by simpa using h5p);rw [ix_nat] at hfr hto
    obtain ⟨q,o,hq⟩:=hY.split;clear hY;refine tt ?_;refine new_list iI o fun id11 H o=>tt ?_;refine ⟨h5p,⟨hfr.1,by omega⟩,by omega,⟨hto.1,by omega⟩, ?_⟩
    have eF : ix LL (c.frm.getD a default)=LL.getD (c.frm.getD a default).toNat default:=rfl
    have eT : ix LL (c.to.getD a default)=LL.getD (c.to.getD a default).toNat default:=rfl
    have hact : freeAct c LL a=(LL.getD (c.frm.getD a default).toNat default).map fun q=>indexOf (LL.getD (c.to.getD a default).toNat default) [ix q 0,(ix c.comp (ix q 1)).getD a default]:=rfl
    have hofF:=hof (c.frm.getD a default).toNat (by omega);rw [eF,eT]
    generalize hF : LL.getD (c.frm.getD a default).toNat default=F at *
    generalize hT : LL.getD (c.to.getD a default).toNat default=T at *
    have hFl : F.length≤200:=by
     have:=hpre.sz (F.length : Int) (List.mem_map.mpr ⟨F,by rw [← hF]; exact mem_getD.mpr ⟨_,by omega,rfl⟩,rfl⟩);omega
    refine awp_for [2,4,5,8,10,12,13] (G:=Nat × List Int) (fun e g=>[(11,some (.buf g.1 g.2.length)),(14,some (.int .i64 (e : Int)))])
     (fun e g H=>g.2=(F.take e).map (fun q=>indexOf T [ix q 0,(ix c.comp (ix q 1)).getD a default])∧Owns H0 H ((g.1,.cells 1 (g.2.map iI) 0)::(q++((id8,st X Y)::(p5++[(id4,.cells 7 z7 0)]))))) F.length (id11,[]) ⟨by simp,o⟩ rfl ?_
    clear o
    rintro e ⟨id11,row⟩ H he ⟨hrow,o⟩;dsimp only at hrow o
    have hrl : row.length=e:=by rw [hrow,List.length_map,List.length_take]; omega
    refine tt ?_;apply bk <;> intro h6
    ·have h6p:=of_decide h6
     have w3:=wsucc (k:=e) (by omega)
     obtain ⟨i,j,eq,hi,hj,_,_⟩:=hofF (F.getD e default) (mem_getD.mpr ⟨e,h6p,rfl⟩)
     have e0 : ix (F.getD e default) 0=(i : Int):=by rw [eq]; rfl
     have e1 : ix (F.getD e default) 1=(j : Int):=by rw [eq]; rfl
     have el : (F.getD e default).length=2:=by rw [eq]; rfl
     have hcl:=hc.1.cl
     have hrw:=hc.1.row' (a:=(j : Int)) (by simpa using hj);refine tt ?_;refine ⟨h6p,⟨by omega,by rw [el]; decide⟩,h6p,⟨by omega,by rw [el]; decide⟩, ?_⟩;rw [e0,e1];refine ⟨_,(l02Then_ok B c (j : Int) (a : Int) ⟨by omega,by rw [Int.toNat_natCast,hcl]; exact hj⟩ ⟨by omega,by rw [hrw]; simpa using h5p⟩).run,tt ?_⟩;refine ⟨_,(l05Place_ok B T [(i : Int),(ix c.comp (j : Int)).getD a default]).run,tt ?_⟩;refine app_own (indexOf T [(i : Int),(ix c.comp (j : Int)).getD a default]) o rfl rfl (by simp only [maxL]; omega) fun id11 H o=>?_;refine tw w3 ?_;refine for_next (_,_) (by omega) ⟨?_,o⟩ rfl;rw [take_one F h6p,List.map_append,← hrow,List.map_cons,List.map_nil,e0,e1]
    ·have h6p:=of_ndecide h6
     obtain rfl : e=F.length:=by omega
     rw [List.take_length,← hact] at hrow;refine tt ?_;refine fz_own o rfl fun H o=>?_
     have hY:=LsO.mk o hq;clear o;refine tt ?_;refine rd_get hY.obj (by simp [st]) ?_;refine tt ?_
     have e7 : (List.range a).map (freeAct c LL)++[row]=(List.range (a+1)).map (freeAct c LL):=by rw [map_range_succ,hrow]
     refine hY.app row rfl (by simp only [List.length_map,List.length_range,maxL]; omega) fun idn H o=>tt ?_;refine sw o.swap fun H o=>?_
     have hY : LsO iL H0 H ((id8,st X (.buf idn ((List.range a).map (freeAct c LL)++[row]).length))::(p5++[(id4,.cells 7 z7 0)])) (.buf idn ((List.range a).map (freeAct c LL)++[row]).length) ((List.range a).map (freeAct c LL)++[row]):=.inr ⟨idn,rfl,o.swap⟩
     generalize (AV.buf idn ((List.range a).map (freeAct c LL)++[row]).length)=Y' at hY;rw [e7] at hY;refine tw w2 ?_;exact for_next Y' (by omega) hY rfl
   ·have h5p:=of_ndecide h5
    obtain rfl : a=c.frm.length:=by omega
    refine tt ?_;refine wk_ls 6 hY rfl fun H o=>?_;simp only [List.set_cons_zero,List.set_cons_succ] at o
    have hX:=LsO.mk (o.perm List.perm_middle.symm) hp5;clear o;refine wk_ls 5 hX rfl fun H o=>wkW_done ?_;simp only [List.set_cons_zero,List.set_cons_succ] at o;refine tt ?_;refine rd_celln o (by simp) ?_;refine tt ?_;refine sw o.swap fun H o=>tt ?_
    have hr:=o.rc 7 0 (by simp);simp only [List.drop_zero] at hr;rw [hr];exact rets_ret ⟨freeF c LL,rfl,hpre⟩ o.sub
def AnyF (r : AV) : Prop:=∃ f : SF,r=.agg f.cells
def AnyFc (c : Cat) (r : AV) : Prop:=∃ f : SF,r=.agg f.cells∧f.shape=c∧f.acts.length≤40
def PairsOk (sz : List Int) (PP : List (List (List Int))) : Prop:=PP.length=sz.length∧∀ x : Nat,x<sz.length→∀ q,q∈PP.getD x default→2≤q.length∧(0≤q.getD 0 default∧q.getD 0 default<sz.getD x default)∧(0≤q.getD 1 default∧q.getD 1 default<sz.getD x default)
theorem l19Glue_ok (B : Nat) (f : SF) (c : Cat) (hc : c.Is) (hf : f.Pre c 120) (PP : List (List (List Int))) (hP : PairsOk f.sizes PP) : Rets B 264 [.agg f.cells,iLLL PP] (AnyFc c):=by
 intro H0;refine c264p.go fun _=>?_
 obtain ⟨rfl,hsl,hal,hsz,hact⟩:=hf
 have hm:=hc.1.m
 have hob:=hc.1.o
 have htl:=hc.1.tol
 have o : Owns H0 H0 []:=.nil _
 have hz0 : ∀ x,x<f.sizes.length→0≤f.sizes.getD x default∧f.sizes.getD x default≤120:=fun x hx=>hsz _ (mem_getD.mpr ⟨x,hx,rfl⟩);refine tt ?_;refine nb o fun id4 H o=>tt ?_;refine new_list iL o fun id5 H o=>tt ?_
 refine awp_for [1,2,4] (G:=Nat × List (List Int)) (fun k g=>[(5,some (.buf g.1 g.2.length)),(6,some (.int .i64 (k : Int)))])
  (fun k g H=>g.2=(List.range k).map (clsAt f.sizes PP)∧Owns H0 H [(g.1,.cells 1 (g.2.map iL) 0),(id4,.cells 7 z7 0)]) f.sizes.length (id5,[]) ⟨rfl,o⟩ rfl ?_
 clear o
 rintro k ⟨id5,CC⟩ H hk ⟨hCC,o⟩
 replace hCC : CC=(List.range k).map (clsAt f.sizes PP):=hCC
 replace o : Owns H0 H [(id5,.cells 1 (CC.map iL) 0),(id4,.cells 7 z7 0)]:=o
 have hCl : CC.length=k:=by rw [hCC]; simp
 refine tt ?_;apply bk <;> intro h1
 ·have h1p:=of_decide h1
  have w1:=wsucc (k:=k) (by omega)
  have hzk:=hz0 k h1p
  obtain ⟨n,hn⟩ : ∃ n : Nat,f.sizes.getD k default=n:=⟨_,(Int.toNat_of_nonneg hzk.1).symm⟩
  have hPk:=hP.2 k h1p
  have hcl : clsAt f.sizes PP k=joinL n (PP.getD k default):=by rw [clsAt,hn,Int.toNat_natCast]
  rw [hn] at hPk hzk;refine tt ?_;refine ⟨h1p,by rw [hP.1]; exact h1p, ?_⟩;rw [hn];refine ⟨_,(join_pok B n (by omega) (PP.getD k default) fun q hq=>?_).run, ?_⟩
  ·have:=hPk q hq; omega
  refine tt ?_;refine app_own (joinL n (PP.getD k default)) o rfl rfl (by simp only [maxL]; omega) fun id5 H o=>?_;refine tw w1 ?_;exact for_next (_,_) (by omega) ⟨by rw [hCC,map_range_succ,hcl],o⟩ rfl
 ·have h1p:=of_ndecide h1
  obtain rfl : k=f.sizes.length:=by omega
  have hK : ClsOk f.sizes CC:=by rw [hCC]; exact cls_join (fun y hy=>(hsz y hy).1) PP
  clear hCC;refine tt ?_;rw [hCl];refine tt ?_
  refine awp_while [2,4,5] (G:=Bool × List (List Int)) (fun g=>[(7,some (.bool g.1))]) (fun m g H=>(m=pot g.2+(if g.1=true then 1 else 0)∧ClsOk f.sizes g.2)∧Owns H0 H [(id5,.cells 1 (g.2.map iL) 0),(id4,.cells 7 z7 0)])
   (pot CC+1) (true,CC) ⟨⟨by simp,hK⟩,o⟩ rfl ?_
  clear o hK hCl CC
  rintro m ⟨more,CC⟩ H ⟨⟨hmm,hK⟩,o⟩
  replace hmm : m=pot CC+(if more=true then 1 else 0):=hmm
  replace hK : ClsOk f.sizes CC:=hK
  replace o : Owns H0 H [(id5,.cells 1 (CC.map iL) 0),(id4,.cells 7 z7 0)]:=o
  cases more;rotate_left 1
  ·refine tt ?_
   obtain ⟨P0,hP0⟩ : ∃ P0,P0=pot CC:=⟨_,rfl⟩;rw [← hP0] at hmm
   refine awp_for [2,4,5] (G:=Bool × List (List Int)) (fun a g=>[(7,some (.bool g.1)),(8,some (.int .i64 (a : Int)))])
    (fun a g H=>(pot g.2≤P0∧(g.1=true→pot g.2<P0)∧ClsOk f.sizes g.2)∧Owns H0 H [(id5,.cells 1 (g.2.map iL) 0),(id4,.cells 7 z7 0)]) f.acts.length (false,CC) ⟨⟨by simp [hP0],by simp,hK⟩,o⟩ rfl ?_
   clear o hK hP0 CC
   rintro a ⟨more,CC⟩ H ha ⟨⟨hp1,hp2,hK⟩,o⟩
   replace hp1 : pot CC≤P0:=hp1
   replace hp2 : more=true→pot CC<P0:=hp2
   replace hK : ClsOk f.sizes CC:=hK
   replace o : Owns H0 H [(id5,.cells 1 (CC.map iL) 0),(id4,.cells 7 z7 0)]:=o;refine tt ?_;apply bk <;> intro h2
   ·have h2p:=of_decide h2
    have w2:=wsucc (k:=a) (by omega)
    have ham : a<f.shape.frm.length:=by omega
    have hfr:=hc.1.frmObj (f:=(a : Int)) (by simpa using ham)
    have hto:=hc.1.toObj (f:=(a : Int)) (by simpa using ham)
    have hac:=hact a ham;rw [ix_nat] at hfr hto
    obtain ⟨x,hx⟩ : ∃ x : Nat,f.shape.frm.getD a default=x:=⟨_,(Int.toNat_of_nonneg hfr.1).symm⟩
    obtain ⟨y,hy⟩ : ∃ y : Nat,f.shape.to.getD a default=y:=⟨_,(Int.toNat_of_nonneg hto.1).symm⟩;rw [hx,hy,ix_nat,ix_nat] at hac;rw [hx] at hfr;rw [hy] at hto
    have hxl : x<f.sizes.length:=by omega
    have hyl : y<f.sizes.length:=by omega
    have hzx:=hz0 x hxl
    have hzy:=hz0 y hyl
    obtain ⟨n,hn⟩ : ∃ n : Nat,f.sizes.getD x default=n:=⟨_,(Int.toNat_of_nonneg hzx.1).symm⟩
    obtain ⟨ny,hny⟩ : ∃ n : Nat,f.sizes.getD y default=n:=⟨_,(Int.toNat_of_nonneg hzy.1).symm⟩;rw [hn] at hac hzx;rw [hny] at hac hzy;refine tt ?_;refine ⟨ham,by omega, ?_⟩;rw [hx,hy];refine tt ?_
    refine awp_for [2,4,5,8,9,10] (G:=Bool × List (List Int)) (fun d g=>[(7,some (.bool g.1)),(11,some (.int .i64 (d : Int)))])
     (fun d g H=>(pot g.2≤P0∧(g.1=true→pot g.2<P0)∧ClsOk f.sizes g.2)∧Owns H0 H [(id5,.cells 1 (g.2.map iL) 0),(id4,.cells 7 z7 0)]) n (more,CC) ⟨⟨hp1,hp2,hK⟩,o⟩ rfl ?_
    clear o hp1 hp2 hK
    rintro d ⟨more,CC⟩ H hd ⟨⟨hp1,hp2,hK⟩,o⟩
    replace hp1 : pot CC≤P0:=hp1
    replace hp2 : more=true→pot CC<P0:=hp2
    replace hK : ClsOk f.sizes CC:=hK
    replace o : Owns H0 H [(id5,.cells 1 (CC.map iL) 0),(id4,.cells 7 z7 0)]:=o
    have hkx:=hK.row x hxl
    have hkl:=hK.len;rw [hn] at hkx;refine tt ?_;refine ⟨hxl,rd_own o (by omega) ?_⟩
    have ecl : (CC.getD x default).length=n:=by omega
    refine tw ecl ?_;apply bk <;> intro h3
    ·have h3p:=of_decide h3
     have w3:=wsucc (k:=d) (by omega);refine tt ?_
     refine awp_for [2,4,5,8,9,10,11] (G:=Bool × List (List Int)) (fun e g=>[(7,some (.bool g.1)),(12,some (.int .i64 (e : Int)))])
      (fun e g H=>(pot g.2≤P0∧(g.1=true→pot g.2<P0)∧ClsOk f.sizes g.2)∧Owns H0 H [(id5,.cells 1 (g.2.map iL) 0),(id4,.cells 7 z7 0)]) d (more,CC) ⟨⟨hp1,hp2,hK⟩,o⟩ rfl ?_
     clear o hp1 hp2 hK hkx hkl ecl
     rintro e ⟨more,CC⟩ H he ⟨⟨hp1,hp2,hK⟩,o⟩
     replace hp1 : pot CC≤P0:=hp1
     replace hp2 : more=true→pot CC<P0:=hp2
     replace hK : ClsOk f.sizes CC:=hK
     replace o : Owns H0 H [(id5,.cells 1 (CC.map iL) 0),(id4,.cells 7 z7 0)]:=o
     have hkx:=hK.row x hxl
     have hky:=hK.row y hyl
     have hkl:=hK.len;rw [hn] at hkx;rw [hny] at hky;refine tt ?_;apply bk <;> intro h4
     ·have h4p:=of_decide h4
      have w4:=wsucc (k:=e) (by omega)
      have hu:=hac.2 _ (mem_getD.mpr ⟨d,by omega,rfl⟩)
      have hv:=hac.2 _ (mem_getD.mpr ⟨e,by omega,rfl⟩);refine tt ?_;refine ⟨h2p,by omega,h2p,by omega, ?_⟩
      generalize (f.acts.getD a default).getD d default=u at hu ⊢
      generalize (f.acts.getD a default).getD e default=v at hv ⊢;refine tt ?_;refine ⟨hxl,rd_own o (by omega) ?_⟩;refine tt ?_;refine ⟨by omega,hxl,rd_own o (by omega) ?_⟩;refine tt ?_;refine ⟨by omega, ?_⟩;apply bk <;> intro h5
      ·refine tw h5 ?_
       have hlx : (CC.getD y default).length=ny:=by omega
       refine ⟨hyl,rd_own o (by omega) ?_⟩;refine tt ?_;refine ⟨⟨hu.1,by omega⟩,hyl,rd_own o (by omega) ?_⟩;refine tt ?_;refine ⟨⟨hv.1,by omega⟩, ?_⟩;apply bk <;> intro h6
       ·refine tt ?_
        have h6p:=dd h6
        have h6p : ix (CC.getD y default) u≠ix (CC.getD y default) v:=h6p
        have hul : 0≤u∧u.toNat<(CC.getD y default).length:=⟨hu.1,by omega⟩
        have hvl : 0≤v∧v.toNat<(CC.getD y default).length:=⟨hv.1,by omega⟩
        have hpo:=pairsOf_ok hul hvl;rw [hlx] at hpo
        have hgl:=joinL_glued (n:=ny) (ps:=pairsOf (CC.getD y default)++[[u,v]]) fun q hq=>⟨(hpo q hq).2.1.2,(hpo q hq).2.2.2⟩
        have hless:=glued_less (by rw [joinL_len,hlx]) hul hvl h6p hgl
        have hset:=hK.set hyl (m:=joinL ny (pairsOf (CC.getD y default)++[[u,v]])) (by rw [joinL_len,hny]) fun w hw=>by rw [hny]; exact joinL_ran hw
        have hpot:=pot_set CC y _ (by omega) hless;refine ⟨hyl,hyl,rd_own o (by omega) ?_⟩;rw [hny];refine tt ?_;refine (l01Pairs_own B (CC.getD y default) _ _ _ o).own fun idp A H o hA=>?_;subst hA
        have hpl : (pairsOf (CC.getD y default)).length=ny:=by rw [pairsOf,List.length_map,List.length_range,hlx]
        refine tt ?_;refine app_own [u,v] o rfl rfl (by simp only [maxL]; omega) fun idp H o=>tt ?_;refine call_fz 1 rfl o rfl fun H o=>?_;refine (join_pok B ny (by omega) (pairsOf (CC.getD y default)++[[u,v]]) hpo).go fun _=>tt ?_;refine ⟨hyl,set_own (f:=iL) (joinL ny (pairsOf (CC.getD y default)++[[u,v]])) o rfl (by omega) fun H o=>?_⟩;refine tw w4 ?_;exact for_next (true,_) (by omega) ⟨⟨Nat.le_trans (Nat.le_of_lt hpot) hp1,fun _=>Nat.lt_of_lt_of_le hpot hp1,hset⟩,o⟩ rfl
       ·refine tw w4 ?_;exact for_next (more,CC) (by omega) ⟨⟨hp1,hp2,hK⟩,o⟩ rfl
      ·try simp only [go_sem,↓reduceIte,reduceEqDiff,reduceAdd,reduceMul,reduceLeDiff,reduceLT,h5,w4]
       exact for_next (more,CC) (by omega) ⟨⟨hp1,hp2,hK⟩,o⟩ rfl
     ·have h4p:=of_ndecide h4
      obtain rfl : e=d:=by omega
      refine tw w3 ?_;exact for_next (more,CC) (by omega) ⟨⟨hp1,hp2,hK⟩,o⟩ rfl
    ·have h3p:=of_ndecide h3
     obtain rfl : d=n:=by omega
     refine tw w2 ?_;exact for_next (more,CC) (by omega) ⟨⟨hp1,hp2,hK⟩,o⟩ rfl
   ·have h2p:=of_ndecide h2
    obtain rfl : a=f.acts.length:=by omega
    refine tt ?_
    cases more
    ·exact while_next (pot CC) (false,CC) (by simp at hmm; omega) ⟨⟨by simp,hK⟩,o⟩ rfl
    ·have:=hp2 rfl;exact while_next (pot CC+1) (true,CC) (by simp at hmm; omega) ⟨⟨by simp,hK⟩,o⟩ rfl
  ·clear hmm
   have hkl:=hK.len
   have hcx : ∀ x,x<f.sizes.length→(CC.getD x default).length≤120:=fun x hx=>by have:=hK.row x hx; have:=hz0 x hx; omega
   have hmx : ∀ x,x<f.sizes.length→(0≤mxL (CC.getD x default)∧mxL (CC.getD x default)≤f.sizes.getD x default)∧∀ v,v∈CC.getD x default→v<mxL (CC.getD x default) :=
    fun x hx=>mxL_bd (hz0 x hx).1 (hK.ran x hx)
   refine tt ?_;refine fz_own o hkl.symm fun H o=>tt ?_;refine (l02Own_ok B f.shape).go fun _=>tt ?_;refine nb o fun id8 H o=>tt ?_;refine sw o fun H o=>?_
   let st : AV→AV→MObj:=fun x5 x6=>.cells 7 [iI f.shape.objs,iL f.shape.frm,iL f.shape.to,iL f.shape.idn,iLL f.shape.comp,x5,x6] 0
   refine tt ?_;refine awp_for [2,4,5,15] (G:=AV) (fun k X=>[(16,some (.int .i64 (k : Int)))]) (fun k X H=>LsO iI H0 H ((id8,st X .nilsl)::[(id4,.cells 7 z7 0)]) X ((CC.take k).map mxL)) CC.length .nilsl (.inl ⟨rfl,rfl,o⟩) rfl ?_;clear o
   rintro k X H hk hX;refine tt ?_;apply bk <;> intro h1
   ·have h1p:=of_decide h1
    have w1:=wsucc (k:=k) (by omega)
    obtain ⟨p,o,hp⟩:=hX.split;clear hX
    have hck:=hcx k (by omega)
    have hrk:=hK.ran k (by omega)
    have hzk:=hz0 k (by omega);refine tt ?_;refine awp_for [2,4,5,15,16] (G:=Unit) (fun e _=>[(17,some (.int .i64 (mxL ((CC.getD k default).take e)))),(18,some (.int .i64 (e : Int)))]) (fun e _ H=>Owns H0 H (p++((id8,st X .nilsl)::[(id4,.cells 7 z7 0)]))) (CC.getD k default).length () o rfl ?_;clear o
    rintro e _ H he o;refine tt ?_;refine ⟨h1p, ?_⟩;apply bk <;> intro h2
    ·have h2p:=of_decide h2
     have w2:=wsucc (k:=e) (by omega)
     have hv:=hrk _ (mem_getD.mpr ⟨e,h2p,rfl⟩)
     have w3 : IntKind.i64.wrap ((CC.getD k default).getD e default+1)=(CC.getD k default).getD e default+1:=wrap_i64 (by omega) (by omega)
     have hms:=mxL_succ (CC.getD k default) h2p;refine tt ?_;refine ⟨h1p,h2p, ?_⟩;rw [w3,← hms];refine tw w2 ?_;exact for_next () (by omega) o rfl
    ·have h2p:=of_ndecide h2
     obtain rfl : e=(CC.getD k default).length:=by omega
     rw [List.take_length]
     have hX:=LsO.mk o hp;clear o;refine tt ?_;refine rd_get hX.obj (by simp [st]) ?_;refine tt ?_
     have e7 : (CC.take k).map mxL++[mxL (CC.getD k default)]=(CC.take (k+1)).map mxL:=by rw [take_one CC h1p]; simp
     refine hX.app (mxL (CC.getD k default)) rfl (by simp only [List.length_map,List.length_take,maxL]; omega) fun idn H o=>?_;rw [e7] at o ⊢;refine tt ?_;refine sw o.swap fun H o=>?_;refine tw w1 ?_;exact for_next _ (by omega) (.inr ⟨idn,rfl,o.swap⟩) rfl
   ·have h1p:=of_ndecide h1
    obtain rfl : k=CC.length:=by omega
    rw [List.take_length] at hX
    obtain ⟨p5,o,hp5⟩:=hX.split
    have o : Owns H0 H ((id8,st X .nilsl)::(p5++[(id4,.cells 7 z7 0)])):=o.perm List.perm_middle;clear hX;refine tt ?_;refine awp_for [2,4,5,15] (G:=AV × List (List Int)) (fun a Y=>[(19,some (.int .i64 (a : Int)))]) (fun a Y H=>Y.2.length=a∧LsO iL H0 H ((id8,st X Y.1)::(p5++[(id4,.cells 7 z7 0)])) Y.1 Y.2) f.acts.length (.nilsl,[]) ⟨rfl,.inl ⟨rfl,rfl,o⟩⟩ rfl ?_;clear o
    rintro a ⟨Y,RR⟩ H ha ⟨hRR,hY⟩
    replace hRR : RR.length=a:=hRR
    replace hY : LsO iL H0 H ((id8,st X Y)::(p5++[(id4,.cells 7 z7 0)])) Y RR:=hY;refine tt ?_;apply bk <;> intro h2
    ·have h2p:=of_decide h2
     have w2:=wsucc (k:=a) (by omega)
     have ham : a<f.shape.frm.length:=by omega
     have hfr:=hc.1.frmObj (f:=(a : Int)) (by simpa using ham)
     have hto:=hc.1.toObj (f:=(a : Int)) (by simpa using ham)
     have hac:=hact a ham;rw [ix_nat] at hfr hto
     obtain ⟨x,hx⟩ : ∃ x : Nat,f.shape.frm.getD a default=x:=⟨_,(Int.toNat_of_nonneg hfr.1).symm⟩
     obtain ⟨y,hy⟩ : ∃ y : Nat,f.shape.to.getD a default=y:=⟨_,(Int.toNat_of_nonneg hto.1).symm⟩;rw [hx,hy,ix_nat,ix_nat] at hac;rw [hx] at hfr;rw [hy] at hto
     have hxl : x<f.sizes.length:=by omega
     have hyl : y<f.sizes.length:=by omega
     have hzx:=hz0 x hxl
     have hkx:=hK.row x hxl
     have hky:=hK.row y hyl
     have hmxx:=hmx x hxl;refine tt ?_;refine ⟨ham,by omega, ?_⟩;rw [hx,hy];refine tt ?_
     obtain ⟨idX,rfl,rfl⟩:=hp5.sub (i:=x) (by rw [List.length_map]; omega);refine rd_get hY.obj (by simp [st]) ?_;refine tt ?_;refine ⟨by rw [List.length_map]; omega,rd_inner (f:=iI) (hY.get (x:=(idX,.cells 1 ((CC.map mxL).map iI) 0)) (by simp)) (by rw [List.length_map]; omega) ?_⟩;rw [map_getD mxL (show x<CC.length by omega)]
     obtain ⟨n,hn⟩ : ∃ n : Nat,mxL (CC.getD x default)=n:=⟨_,(Int.toNat_of_nonneg hmxx.1.1).symm⟩;rw [hn] at hmxx ⊢
     obtain ⟨q,o,hq⟩:=hY.split;clear hY;refine tt ?_;refine ⟨⟨by omega,by simp only [maxL]; omega⟩,mks_list iI 0 rfl o fun id22 H o=>?_⟩;refine tt ?_
     have hrep : (List.replicate n (0 : Int)).length=n:=List.length_replicate
     refine awp_for [2,4,5,15,19,20,21,22] (G:=List Int) (fun e _=>[(23,some (.int .i64 (e : Int)))])
      (fun e A H=>A.length=n∧Owns H0 H ((id22,.cells 1 (A.map iI) 0)::(q++((id8,st (.buf idX (CC.map mxL).length) Y)::([(idX,.cells 1 ((CC.map mxL).map iI) 0)]++[(id4,.cells 7 z7 0)]))))) (CC.getD x default).length (List.replicate n 0) ⟨hrep,o⟩ rfl ?_
     clear o
     rintro e A H he ⟨hA,o⟩;refine tt ?_;refine ⟨by omega, ?_⟩;apply bk <;> intro h3
     ·have h3p:=of_decide h3
      have w3:=wsucc (k:=e) (by omega)
      have hcv:=hmxx.2 _ (mem_getD.mpr ⟨e,h3p,rfl⟩)
      have hcr:=hK.ran x hxl _ (mem_getD.mpr ⟨e,h3p,rfl⟩)
      have hav:=hac.2 _ (mem_getD.mpr ⟨e,by omega,rfl⟩);refine tt ?_;refine ⟨by omega,h3p,by omega,h2p,by omega,⟨hav.1,by omega⟩,⟨hcr.1,by omega⟩, ?_⟩;refine set_own (f:=iI) _ o rfl (by omega) fun H o=>?_;refine tw w3 ?_;exact for_next (A.set _ _) (by omega) ⟨by rw [List.length_set]; exact hA,o⟩ rfl
     ·have h3p:=of_ndecide h3
      obtain rfl : e=(CC.getD x default).length:=by omega
      refine tt ?_;refine fz_own o hA.symm fun H o=>?_
      have hY:=LsO.mk o hq;clear o;refine tt ?_;refine rd_get hY.obj (by simp [st]) ?_;refine tt ?_;refine hY.app A rfl (by simp only [maxL]; omega) fun idn H o=>tt ?_;refine sw o.swap fun H o=>?_;refine tw w2 ?_;exact for_next (.buf idn (RR++[A]).length,RR++[A]) (by omega) ⟨by show (RR++[A]).length=_; simp [hRR],.inr ⟨idn,rfl,o.swap⟩⟩ rfl
    ·have h2p:=of_ndecide h2
     obtain rfl : a=f.acts.length:=by omega
     refine tt ?_;refine wk_ls 6 hY rfl fun H o=>?_;simp only [List.set_cons_zero,List.set_cons_succ] at o
     have hX:=LsO.mk (o.perm List.perm_middle.symm) hp5;clear o;refine wk_ls 5 hX rfl fun H o=>wkW_done ?_;simp only [List.set_cons_zero,List.set_cons_succ] at o;refine tt ?_;refine rd_celln o (by simp) ?_;refine tt ?_;refine sw o.swap fun H o=>tt ?_
     have hr:=o.rc 7 0 (by simp);simp only [List.drop_zero] at hr;rw [hr];exact rets_ret ⟨⟨f.shape,CC.map mxL,RR⟩,rfl,rfl,by show RR.length≤40; omega⟩ o.sub
theorem rep_nil {α : Type} (n x : Nat) : (List.replicate n ([] : List α)).getD x default=[]:=by
 rw [List.getD_eq_getElem?_getD,List.getElem?_replicate]
 split <;> rfl
theorem PairsOk.add {sz : List Int} {PP : List (List (List Int))} (h : PairsOk sz PP) {x : Nat} (hx : x<sz.length) {a b : Int} (ha : 0≤a∧a<sz.getD x default) (hb : 0≤b∧b<sz.getD x default) :
  PairsOk sz (PP.set x (PP.getD x default++[[a,b]])):=by
 refine ⟨by rw [List.length_set]; exact h.1,fun y hy q hq=>?_⟩;rw [getD_setD _ _ (by rw [h.1]; exact hx)] at hq
 by_cases e : y=x
 ·rw [if_pos e] at hq;subst e
  rcases List.mem_append.mp hq with hq | hq
  ·exact h.2 y hy q hq
  ·rw [List.mem_singleton] at hq;subst hq;exact ⟨by simp,ha,hb⟩
 ·rw [if_neg e] at hq; exact h.2 y hy q hq
theorem l19Some_ok (B : Nat) (c : Cat) (hc : c.Is) (size : Int) (hsize : 0≤size∧size≤1000) : Rd B 196 [.agg c.cells,iI size] (AnyFc c):=by
 intro id s H0 H hs o;refine c196p.go fun _=>?_
 have hm:=hc.1.m
 have hob:=hc.1.o;refine tt ?_;refine nb o fun id6 H o=>tt ?_;refine awp_for [0,2,4,6] (G:=Src) (fun k _=>[(7,some (.int .i64 (k : Int)))]) (fun k s H=>s.Ok∧Owns H0 H [(id,s.obj),(id6,.cells 7 z7 0)]) 6 s ⟨hs,o.swap⟩ rfl ?_;clear o hs
 rintro k s H hk ⟨hs,o⟩;refine tt ?_;apply bk <;> intro h1
 ·have h1p:=of_decide h1
  have w1:=wsucc (k:=k) (by omega);refine tt ?_;refine new_list iI o fun id8 H o=>tt ?_;refine (l01Next_ok B 4).go hs o.swap fun r s H _ ⟨v,e,v0,v1,_⟩ hs o=>?_;subst e
  have hv:=v1 (by omega)
  obtain ⟨n,rfl⟩ : ∃ n : Nat,v=n:=⟨_,(Int.toNat_of_nonneg v0).symm⟩;clear v0 v1;refine tt ?_
  refine awp_while [0,2,4,6,7] (G:=Src × (Nat × List Int) × Nat) (fun g=>[(8,some (.buf g.2.1.1 g.2.1.2.length)),(9,some (.int .i64 (g.2.2 : Int)))])
   (fun m g H=>m=g.2.2∧g.1.Ok∧g.2.1.2.length+g.2.2≤3∧Owns H0 H [(id,g.1.obj),(g.2.1.1,.cells 1 (g.2.1.2.map iI) 0),(id6,.cells 7 z7 0)]) n (s,(id8,[]),n) ⟨rfl,hs,by simp; omega,o⟩ rfl ?_
  clear o hs
  rintro m ⟨s,⟨id8,os⟩,n⟩ H ⟨hmn,hs,hos,o⟩;dsimp only at hmn hs hos o;refine tt ?_;apply bk <;> intro h2
  focus
   refine tw h2 ?_;apply bk <;> intro h3
   focus
    have h2p:=of_decide h2
    have w2 : IntKind.i64.wrap ((n : Int) - 1)=((n - 1 : Nat) : Int):=by rw [wrap_i64 (by omega) (by omega)]; omega
    refine tw h3 ?_;refine (l01Next_ok B c.objs).go hs o fun r s H _ ⟨v,e,_⟩ hs o=>?_;subst e;refine tt ?_;refine app_own v o.swap rfl rfl (by simp only [maxL]; omega) fun id8 H o=>?_;refine tw w2 ?_;exact while_next (n - 1) (s,(id8,os++[v]),n - 1) (by omega) ⟨rfl,hs,by simp; omega,o.swap⟩ rfl
   refine tw h3 ?_
  rotate_left 1
  focus
   refine tw h2 ?_
  all_goals
   refine fz_own o.swap rfl fun H o=>tt ?_;refine (l19Free_ok B c hc os (by omega)).go fun r _ ⟨f,e,hf⟩=>?_;subst e;refine tt ?_;refine nb o fun id10 H o=>tt ?_;refine sw o fun H o=>tt ?_;refine ⟨⟨by omega,by simp only [maxL]; omega⟩, ?_⟩;rw [rep_one];refine newBuf_own o fun id11 H o=>tt ?_;refine (l01Next_ok B 4).go hs (o.pull [_,_]) fun r s H _ ⟨v,e,v0,v1,_⟩ hs o=>?_;subst e
   have hv:=v1 (by omega)
   obtain ⟨n,rfl⟩ : ∃ n : Nat,v=n:=⟨_,(Int.toNat_of_nonneg v0).symm⟩;clear v0 v1;refine tt ?_
   have hsl:=hf.sl
   have hzf : ∀ x,x<f.sizes.length→0≤f.sizes.getD x default∧f.sizes.getD x default≤120:=fun x hx=>hf.sz _ (mem_getD.mpr ⟨x,hx,rfl⟩)
   refine awp_while [0,2,4,6,7,10,11] (G:=Src × (List AV × List (List (List Int)) × Ob) × Nat) (fun g=>[(12,some (.int .i64 (g.2.2 : Int)))])
    (fun m g H=>m=g.2.2∧g.1.Ok∧LsR iL g.2.1.1 g.2.1.2.1 g.2.1.2.2∧PairsOk f.sizes g.2.1.2.1∧(∀ x,(g.2.1.2.1.getD x default).length+g.2.2≤3) ∧
     Owns H0 H ((id,g.1.obj)::(id11,.cells 1 g.2.1.1 0)::(g.2.1.2.2++[(id10,MObj.cells 7 f.cells 0),(id6,MObj.cells 7 z7 0)]))) n (s,(List.replicate c.objs.toNat .nilsl,List.replicate c.objs.toNat [],[]),n)
    ⟨rfl,hs,LsR.rep iL _,⟨by rw [List.length_replicate]; omega,fun x hx q hq=>by rw [show (List.replicate c.objs.toNat ([] : List (List Int))).getD x default=[] from rep_nil _ _] at hq; simp at hq⟩,fun x=>by
     rw [show (List.replicate c.objs.toNat ([] : List (List Int))).getD x default=[] from rep_nil _ _]; simp; omega,o⟩ rfl ?_
   clear o hs
   rintro m ⟨s,⟨Xs,PP,ob⟩,n⟩ H ⟨hmn,hs,hR,hPP,hPl,o⟩;dsimp only at hmn hs hR hPP hPl o
   have hXl:=hR.len
   have hPPl:=hPP.1
   have hn3 : n≤3:=by have:=hPl 0; omega
   refine tt ?_;apply bk <;> intro k2
   focus
    refine tw k2 ?_;apply bk <;> intro k3
    focus
     have k2p:=of_decide k2
     have k3p:=of_decide k3
     have w2 : IntKind.i64.wrap ((n : Int) - 1)=((n - 1 : Nat) : Int):=by rw [wrap_i64 (by omega) (by omega)]; omega
     refine tw k3 ?_;refine (l01Next_ok B c.objs).go hs o fun r s H _ ⟨x,e,x0,x1,_⟩ hs o=>?_;subst e
     have hx1:=x1 (by omega)
     obtain ⟨x,rfl⟩ : ∃ n : Nat,x=n:=⟨_,(Int.toNat_of_nonneg x0).symm⟩;clear x0 x1
     have hxl : x<f.sizes.length:=by omega
     have hzx:=hzf x hxl
     have hg10 : H.get id10=some (.cells 7 f.cells 0):=o.get (id10,_) (by simp);refine tt ?_;refine rd_get hg10 (by simp [SF.cells]) ?_;refine tt ?_;refine ⟨hxl, ?_⟩;apply bk <;> intro k4
     ·have k4p:=of_decide k4;refine tt ?_;refine ⟨by omega,⟨_,_,o.tl.h0⟩,rd_get o.tl.h0 (by omega) ?_⟩;refine tt ?_;refine ⟨⟨_,_,hg10⟩,rd_get hg10 (by simp [SF.cells]) ?_⟩;refine tt ?_;refine ⟨hxl,⟨_,_,hg10⟩,rd_get hg10 (by simp [SF.cells]) ?_⟩;refine tt ?_;refine ⟨hxl, ?_⟩;refine (l01Next_ok B _).goZ hs o fun r s H _ ⟨a,e,a0,a1,_⟩ hs o hz=>⟨hz, ?_⟩;subst e
      have ha1:=a1 (by omega);refine tt ?_;refine (l01Next_ok B _).goZ hs o fun r s H _ ⟨b,e,b0,b1,_⟩ hs o hz=>⟨hz, ?_⟩;subst e
      have hb1:=b1 (by omega);refine tt ?_
      have o : Owns H0 H ((id11,.cells 1 Xs 0)::(ob++[(id,s.obj),(id10,.cells 7 f.cells 0),(id6,.cells 7 z7 0)])):=o.pm;refine rows_app o hR (by omega) [a,b] rfl (by show (PP.getD _ default).length+1≤maxL; have:=hPl x; simp only [maxL]; omega) fun X' o' H hX1 hR o=>?_;try simp only [go_sem,↓reduceIte,reduceEqDiff,reduceAdd,reduceMul,reduceLeDiff,reduceLT,AV.cells_one hX1]
      refine ⟨by omega,st_cells o (by omega) rfl (by simp only [memcons,memnil]; exact ⟨hX1,trivial⟩) fun H o=>?_⟩;simp only [wr_cons,wr_nil] at o;refine tw w2 ?_;refine while_next (n - 1) (s,(Xs.set x X',PP.set x (PP.getD x default++[[a,b]]),o'),n - 1) (by omega) ⟨rfl,hs,hR,hPP.add hxl ⟨a0,ha1⟩ ⟨b0,hb1⟩,fun y=>?_,(by simp only [SF.cells] at o; exact o.pm)⟩ rfl
      show ((PP.set x (PP.getD x default++[[a,b]])).getD y default).length+(n - 1)≤3
      rw [getD_setD _ _ (by omega)]
      have:=hPl y
      split
      ·rename_i e; subst e; rw [List.length_append,List.length_singleton]; omega
      ·omega
     ·refine tw w2 ?_;exact while_next (n - 1) (s,(Xs,PP,ob),n - 1) (by omega) ⟨rfl,hs,hR,hPP,fun x=>by have:=hPl x; show (PP.getD x default).length+(n - 1)≤3; omega,o⟩ rfl
    refine tw k3 ?_
   rotate_left 1
   focus
    refine tw k2 ?_
   all_goals
    have o : Owns H0 H ((id11,.cells 1 Xs 0)::(ob++[(id,s.obj),(id10,.cells 7 f.cells 0),(id6,.cells 7 z7 0)])):=o.pm;refine wk_rows hR [] H o fun H o=>wkW_done ?_;rw [List.nil_append] at o
    have o : Owns H0 H ((id11,.cells 1 (PP.map iLL) 0)::[(id,s.obj),(id10,.cells 7 f.cells 0),(id6,.cells 7 z7 0)]):=o;refine tt ?_;refine fz_own (f:=iLL) o (by omega) fun H o=>tt ?_;refine rd_celln o.tl (by simp [SF.cells]) ?_;refine tt ?_;refine (l19Glue_ok B f c hc hf PP hPP).go fun r hfn ⟨f2,e,hf2⟩=>?_;subst e
    have hfl:=fine_mL_le (hfn.agg (c:=iL f2.sizes) (by simp [SF.cells]));simp only [maxL] at hfl;clear hfn;refine tt ?_;refine st_cells o.swap (by simp [SF.cells]) (by (try simp only [go_sem]); (try simp)) (by first | (simp only [go_sem]; done) | ((try simp only [go_sem]); simp [AV.one,one_mL])) fun H o=>?_;simp only [wr_cons,wr_nil,List.set_cons_zero,List.set_cons_succ] at o;refine tt ?_;refine awp_for [0,2,4,6,7,10] (G:=Bool) (fun k b=>[(14,some (.bool b)),(15,some (.int .i64 (k : Int)))]) (fun k _ H=>Owns H0 H [(id10,MObj.cells 7 f2.cells 0),(id,s.obj),(id6,MObj.cells 7 z7 0)]) f2.sizes.length true o rfl ?_;clear o
    rintro q sm H hq o
    replace o : Owns H0 H [(id10,.cells 7 f2.cells 0),(id,s.obj),(id6,.cells 7 z7 0)]:=o;refine tt ?_;refine rd_cells o (by simp [SF.cells]) ?_;refine tt ?_;apply bk <;> intro j1
    ·have j1p:=of_decide j1
     have w3:=wsucc (k:=q) (by omega);refine tt ?_
     cases sm
     ·refine tw w3 ?_;exact for_next false (by omega) o rfl
     ·refine tt ?_;refine rd_cells o (by simp [SF.cells]) ?_;refine tt ?_;refine ⟨j1p, ?_⟩;refine tw w3 ?_;exact for_next _ (by omega) o rfl
    ·have j1p:=of_ndecide j1;refine tt ?_
     cases sm
     ·refine tw w1 ?_;exact for_next s (by omega) ⟨hs,o.tl⟩ rfl
     ·refine tt ?_;refine rd_celln o (by simp [SF.cells]) ?_;refine tt ?_;refine sw (o.pull [_,_]) fun H o=>tt ?_
      have hr:=o.rc 7 0 (by simp);simp only [List.drop_zero] at hr;rw [hr];exact src_ret ⟨f2,rfl,hf2⟩ hs (o.pull [_,_])
 ·have h1p:=of_ndecide h1;refine tt ?_
  have hw : IntKind.i64.wrap ((if false=true then if 2 > size then 2 else size else if 2<size then 2 else size)+1)=min size 2+1:=by
   rw [if_neg (by decide)]
   split <;> rw [wrap_i64 (by omega) (by omega)] <;> omega
  rw [hw];refine (l01Next_ok B _).go hs o fun r s H _ ⟨v,e,v0,v1,_⟩ hs o=>?_;subst e
  have hv:=v1 (by omega);refine tt ?_;refine ⟨_,(l19Constant_ok B c hc.1 v ⟨v0,by omega⟩).run,tt ?_⟩;refine sw o.swap fun H o=>tt ?_
  have hr:=o.rc 7 0 (by simp);simp only [List.drop_zero] at hr;rw [hr];exact src_ret ⟨constF c v,rfl,rfl,by simp [constF]; omega⟩ hs o.swap
end Go.Proofs.Shf
namespace Go.Shf
open Go.AW
theorem Cat.Shape.sh {c : Cat} (h : c.Shape) : c.Sh 40:=⟨by have:=h.o; omega,h.il,h.m,h.tol,h.cl,h.row⟩
end Go.Shf
namespace Go.Proofs.Shf
open Go.AW Go.Proofs Go.Shf
theorem dTrue' (i : Decidable True) : @decide True i=true:=decide_eq_true trivial
def OFb (f : SF) (p : Ob) (X : AV) : Prop:=∃ z d Xs ob,X=.agg [iI f.shape.objs,iL f.shape.frm,iL f.shape.to,iL f.shape.idn,iLL f.shape.comp,.buf z f.sizes.length,.buf d Xs.length]∧LsR iI Xs f.acts ob ∧
 p=(z,.cells 1 (f.sizes.map iI) 0)::(d,.cells 1 Xs 0)::ob
theorem l19Own_new (B : Nat) (f : SF) : New Tryz.prog B 182 [.agg f.cells] (OFb f):=by
 refine ⟨fun H0=>c182p.go fun _=>?_⟩
 have o : Owns H0 H0 []:=.nil _;refine tt ?_;refine nb o fun id H o=>tt ?_;refine ⟨_,(l02Own_ok B f.shape).run,tt ?_⟩;refine New.go' (l01Own_new B f.sizes) o fun X1 p1 H ⟨z,e1,e2⟩ o hs=>⟨hs, ?_⟩;subst e1 e2;refine tt ?_;refine New.go' (l01Own2_new B f.acts) o fun X1 p1 H ⟨d,Xs,ob,e1,h,e2⟩ o hs=>⟨hs, ?_⟩;subst e1 e2;refine tt ?_
 have o : Owns H0 H ((id,MObj.cells 7 [.int .i64 0,.nilsl,.nilsl,.nilsl,.nilsl,.nilsl,.nilsl] 0)::(z,MObj.cells 1 (f.sizes.map iI) 0)::(d,MObj.cells 1 Xs 0)::ob):=o.pm;refine sw o fun H o=>tt ?_
 have hr:=o.rc 7 0 (by simp);simp only [List.drop_zero] at hr;rw [hr];exact ⟨H,.refl H,_,⟨z,d,Xs,ob,rfl,h,rfl⟩,o.tl⟩
theorem wk_sf {F : Env→Heap→Prop} {σ : Env} {H0 H : Heap} {l : Ob} {id fr : Nat} {c : Cat} {z d : Nat} {S : List Int} {Xs : List AV} {As : List (List Int)} {ob : Ob} (h : LsR iI Xs As ob)
  (o : Owns H0 H ((id,.cells 7 [iI c.objs,iL c.frm,iL c.to,iL c.idn,iLL c.comp,.buf z S.length,.buf d Xs.length] fr)::(z,.cells 1 (S.map iI) 0)::(d,.cells 1 Xs 0)::(ob++l)))
  (hk : ∀ H',Owns H0 H' ((id,.cells 7 (SF.cells ⟨c,S,As⟩) fr)::l)→wkW F σ H') : wkW F σ H:=by
 have hl:=h.len
 have od : Owns H0 H ((d,.cells 1 Xs 0)::(ob++((id,.cells 7 [iI c.objs,iL c.frm,iL c.to,iL c.idn,iLL c.comp,.buf z S.length,.buf d Xs.length] fr)::(z,.cells 1 (S.map iI) 0)::l))):=o.pm;refine wk_rows h [] H od fun H o=>?_;simp only [List.nil_append] at o;rw [hl] at o
 have o : Owns H0 H ((id,.cells 7 [iI c.objs,iL c.frm,iL c.to,iL c.idn,iLL c.comp,.buf z S.length,.buf d As.length] fr)::(z,.cells 1 (S.map iI) 0)::(d,.cells 1 (As.map iL) 0)::l):=o.pm;refine wk_cell 5 o rfl rfl fun H o=>?_;simp only [List.set_cons_zero,List.set_cons_succ] at o;refine wk_cell 6 o rfl rfl fun H o=>?_;simp only [List.set_cons_zero,List.set_cons_succ] at o;exact hk H o
@[go_sem] def bendF (id3 : Nat) (c : Cat) (z : Nat) (S : List Int) (d : Nat) (Xs : List AV) (l : Ob) : Ob :=
 (id3,.cells 7 [iI c.objs,iL c.frm,iL c.to,iL c.idn,iLL c.comp,.buf z S.length,.buf d Xs.length] 0)::(z,.cells 1 (S.map iI) 0)::(d,.cells 1 Xs 0)::l
theorem l19Bend_ok (B : Nat) (f : SF) (hc : f.shape.Shape) (hA40 : f.acts.length≤40) : Rd B 235 [.agg f.cells] AnyF:=by
 intro id s H0 H hs o
 obtain ⟨c,S,A⟩:=f;dsimp only at hA40;refine c235p.go fun hfi=>?_
 have hfl:=fine_mL_le (hfi.2.1.agg (c:=iL S) (by simp [SF.cells]))
 have hfl2:=fine_mL_le (hfi.2.1.agg (c:=iLL A) (by simp [SF.cells]));simp only [maxL] at hfl hfl2;clear hfi;refine tt ?_;refine nb o fun id3 H o=>tt ?_;refine nb o fun id4 H o=>tt ?_;refine rd_celln o.tl (by simp) ?_;refine tt ?_;refine New.go' (l19Own_new B ⟨c,S,A⟩) o fun X1 p1 H ⟨z,d,Xs,ob,e1,hX,e2⟩ o _=>?_;subst e1 e2
 have hXl:=hX.len;simp only at hX hXl;refine tt ?_
 have o : Owns H0 H ((id3,MObj.cells 7 [iI c.objs,iL c.frm,iL c.to,iL c.idn,iLL c.comp,iL S,iLL A] 0)::(z,.cells 1 (S.map iI) 0)::(d,.cells 1 Xs 0)::(ob++[(id,s.obj),(id4,MObj.cells 7 [.int .i64 0,.nilsl,.nilsl,.nilsl,.nilsl,.nilsl,.nilsl] 0)])):=o.pm;refine sw o fun H o=>tt ?_
 have hsrc : ∀ {H : Heap} {s : Src} {Xs : List AV} {ob : Ob} {c : Cat} {z d : Nat} {S : List Int},Owns H0 H (bendF id3 c z S d Xs (ob++[(id,s.obj),(id4,MObj.cells 7 [.int .i64 0,.nilsl,.nilsl,.nilsl,.nilsl,.nilsl,.nilsl] 0)])) →
   Owns H0 H ((id,s.obj)::bendF id3 c z S d Xs (ob++[(id4,MObj.cells 7 [.int .i64 0,.nilsl,.nilsl,.nilsl,.nilsl,.nilsl,.nilsl] 0)])):=by
  intro H s Xs ob c z d S o;unfold bendF at o ⊢;exact o.pm
 have o:=hsrc (by unfold bendF; exact o);refine (l01Next_ok B 5).go hs o fun r s H _ ⟨v,e,v0,v1,_⟩ hs o=>?_;subst e;unfold bendF at o;refine tt ?_
 have htup : ∀ {c' : Cat} {z' d' : Nat} {S' : List Int} {Xs' : List AV} {A' : List (List Int)} {ob' : Ob} {F : Env→Heap→Prop} {σ : Env} {H : Heap} {s : Src},LsR iI Xs' A' ob' →
   Owns H0 H ((id,s.obj)::bendF id3 c' z' S' d' Xs' (ob'++[(id4,MObj.cells 7 [.int .i64 0,.nilsl,.nilsl,.nilsl,.nilsl,.nilsl,.nilsl] 0)])) →
   (∀ H',Owns H0 H' ((id3,.cells 7 (SF.cells ⟨c',S',A'⟩) 0)::[(id,s.obj),(id4,MObj.cells 7 [.int .i64 0,.nilsl,.nilsl,.nilsl,.nilsl,.nilsl,.nilsl] 0)])→F σ H')→wkW F σ H:=by
  intro c' z' d' S' Xs' A' ob' F σ H s hR o hk;unfold bendF at o
  have od : Owns H0 H ((id3,.cells 7 [iI c'.objs,iL c'.frm,iL c'.to,iL c'.idn,iLL c'.comp,.buf z' S'.length,.buf d' Xs'.length] 0)::(z',.cells 1 (S'.map iI) 0)::(d',.cells 1 Xs' 0)::(ob'++[(id,s.obj),(id4,MObj.cells 7 [.int .i64 0,.nilsl,.nilsl,.nilsl,.nilsl,.nilsl,.nilsl] 0)])):=o.pm;exact wk_sf hR od fun H o=>wkW_done (hk H o)
 apply bk <;> intro h0
 focus
  refine tt ?_;refine rd_celln o.tl (by simp) ?_;refine tt ?_;refine (l02Bend_ok B 40 (by omega) c (show c.Shape from hc).sh).go hs o fun r s H _ ⟨c2,e⟩ hs o=>?_;subst e;refine tt ?_;refine sw o.swap fun H o=>?_
  have o : Owns H0 H ((id,s.obj)::bendF id3 c2 z S d Xs (ob++[(id4,MObj.cells 7 [.int .i64 0,.nilsl,.nilsl,.nilsl,.nilsl,.nilsl,.nilsl] 0)])):=by unfold bendF; exact o.swap
  refine tt ?_;refine htup hX o fun H o=>?_
 rotate_left 1
 focus
  refine tt ?_;apply bk <;> intro h1
  focus
   refine tt ?_;refine rd_cells o.tl (by simp) ?_;refine tt ?_;apply bk <;> intro h2
   focus
    have h2p:=of_decide h2;refine tt ?_
    have hg3:=o.tl.h0;simp only at hg3;refine ⟨⟨_,_,hg3⟩,rd_get hg3 (by simp) ?_⟩;refine tt ?_;refine ⟨⟨_,_,hg3⟩,rd_get hg3 (by simp) ?_⟩;refine tt ?_;refine (l01Next_ok B _).goZ hs o fun r s H _ ⟨i,e,i0,i1,_⟩ hs o hz=>⟨hz, ?_⟩;subst e
    have hi:=i1 (by omega);refine tt ?_;refine (l01Pick_ok B [-1,0,1,2,17] (by simp)).goZ hs o fun r s H _ ⟨y,e,_⟩ hs o hz=>⟨hz, ?_⟩;subst e;refine tt ?_;refine ⟨⟨i0,by omega⟩, ?_⟩;refine set_own (f:=iI) y (o.pull [_,_]) rfl (by omega) fun H o=>?_
    have o : Owns H0 H ((id,s.obj)::bendF id3 c z (S.set i.toNat y) d Xs (ob++[(id4,MObj.cells 7 [.int .i64 0,.nilsl,.nilsl,.nilsl,.nilsl,.nilsl,.nilsl] 0)])):=by unfold bendF; rw [List.length_set]; exact o.pm
    refine tt ?_;refine htup hX o fun H o=>?_
   rotate_left 1
   focus
    have o : Owns H0 H ((id,s.obj)::bendF id3 c z S d Xs (ob++[(id4,MObj.cells 7 [.int .i64 0,.nilsl,.nilsl,.nilsl,.nilsl,.nilsl,.nilsl] 0)])):=by unfold bendF; exact o
    refine tt ?_;refine htup hX o fun H o=>?_
  rotate_left 2
  focus
   have h0p:=of_ndecide h0
   have h1p:=of_ndecide h1
   have v5:=v1 (by omega)
   have c32 : decide ((3 : Int)=2)=false:=rfl
   have c42 : decide ((4 : Int)=2)=false:=rfl
   have c43 : decide ((4 : Int)=3)=false:=rfl
   obtain rfl | rfl | rfl : v=2∨v=3∨v=4:=by omega
   rotate_left 2
   focus
    try simp only [go_sem,↓reduceIte,reduceEqDiff,reduceAdd,reduceMul,reduceLeDiff,reduceLT,c42,c43,dTrue']
    refine rd_cells o.tl (by simp) ?_;refine tt ?_;refine newBuf_own o fun ide H o=>tt ?_
    have o : Owns H0 H ((d,.cells 1 Xs 0)::((ide,.cells 1 [] 0)::(id,s.obj)::(id3,.cells 7 [iI c.objs,iL c.frm,iL c.to,iL c.idn,iLL c.comp,.buf z S.length,.buf d Xs.length] 0)::(z,.cells 1 (S.map iI) 0)::(ob++[(id4,MObj.cells 7 [.int .i64 0,.nilsl,.nilsl,.nilsl,.nilsl,.nilsl,.nilsl] 0)]))):=o.pm;refine app_raw o rfl rfl rfl (by simp only [maxL]; omega) fun d H o=>tt ?_;refine sw (o.pull [_,_,_]) fun H o=>?_
    have hX2:=hX.snoc' (p:=[(ide,.cells 1 [] 0)]) (X:=.buf ide 0) (A:=[]) (.inr ⟨ide,rfl,rfl⟩)
    have o : Owns H0 H ((id,s.obj)::bendF id3 c z S d (Xs++[.buf ide 0]) ((ob++[(ide,.cells 1 [] 0)])++[(id4,MObj.cells 7 [.int .i64 0,.nilsl,.nilsl,.nilsl,.nilsl,.nilsl,.nilsl] 0)])):=by
     unfold bendF;rw [List.length_append,List.length_singleton];exact o.pm
    refine tt ?_;refine htup hX2 o fun H o=>tt ?_;refine rd_celln o (by simp [SF.cells]) ?_;refine tt ?_;refine sw (o.pull [_,_]) fun H o=>tt ?_
    have hr:=o.rc 7 0 (by simp);simp only [List.drop_zero] at hr;rw [hr];exact src_ret ⟨⟨_,_,_⟩,rfl⟩ hs (o.pull [_,_])
   all_goals
    try simp only [go_sem,↓reduceIte,reduceEqDiff,reduceAdd,reduceMul,reduceLeDiff,reduceLT,c32,dTrue']
    refine rd_cells o.tl (by simp) ?_;refine tt ?_;refine (l01Next_ok B _).go hs o fun r s H _ ⟨a,e,a0,a1,a2⟩ hs o=>?_;subst e
    obtain ⟨a,rfl⟩ : ∃ n : Nat,a=n:=⟨_,(Int.toNat_of_nonneg a0).symm⟩;clear a0 a2
    have hg3:=o.tl.h0;simp only at hg3
    have hgd : H.get d=some (.cells 1 Xs 0):=o.get (d,.cells 1 Xs 0) (by simp);refine tt ?_;refine rd_get hg3 (by simp) ?_;refine tt ?_;apply bk <;> intro k1
    focus
     have k1p:=of_decide k1
     have ha:=a1 (by omega)
     have hi : a<Xs.length:=by omega
     obtain ⟨pr,rr,_,hLs,_⟩:=hX.split a hi
     have hlr:=hLs.lenE;refine tw k1 ?_;refine rd_get hg3 (by simp) ?_;refine tt ?_;refine ⟨hi,rd_get hgd hi ?_⟩;refine tw hlr ?_;apply bk <;> intro k2
     focus
      have k2p:=of_decide k2
      obtain ⟨idr,er,hset⟩:=hX.row hi (by omega);refine tw k2 ?_;refine ⟨⟨_,_,hg3⟩,rd_get hg3 (by simp) ?_⟩;refine tt ?_;refine ⟨hi,⟨_,_,hgd⟩,rd_get hgd hi ?_⟩;refine tt ?_;refine ⟨⟨_,_,hg3⟩,rd_get hg3 (by simp) ?_⟩;refine tt ?_;refine ⟨hi,⟨_,_,hgd⟩,rd_get hgd hi ?_⟩;rw [er];refine tt ?_;refine (l01Next_ok B _).goZ hs o fun r s H _ ⟨i,e,i0,i1,_⟩ hs o hz=>⟨hz, ?_⟩;subst e
      have hi1:=i1 (by omega);refine (l01Next_ok B _).goZ hs o fun r s H _ ⟨y1,e,_⟩ hs o hz=>⟨hz, ?_⟩;subst e;refine (l01Next_ok B _).goZ hs o fun r s H _ ⟨y2,e,_⟩ hs o hz=>⟨hz, ?_⟩;subst e;refine tt ?_;refine ⟨by omega, ?_⟩
      generalize IntKind.i64.wrap (y1 - _)=y3;refine ⟨⟨i0,by omega⟩, ?_⟩
      have od : Owns H0 H ((d,.cells 1 Xs 0)::(ob++[(id,s.obj),(id3,.cells 7 [iI c.objs,iL c.frm,iL c.to,iL c.idn,iLL c.comp,.buf z S.length,.buf d Xs.length] 0),(z,.cells 1 (S.map iI) 0),(id4,MObj.cells 7 [.int .i64 0,.nilsl,.nilsl,.nilsl,.nilsl,.nilsl,.nilsl] 0)])):=o.pm;refine hset od i.toNat (by omega) y3 rfl fun H ob' hX' o=>?_
      have o : Owns H0 H ((id,s.obj)::bendF id3 c z S d Xs (ob'++[(id4,MObj.cells 7 [.int .i64 0,.nilsl,.nilsl,.nilsl,.nilsl,.nilsl,.nilsl] 0)])):=by unfold bendF; exact o.pm
      refine tt ?_;refine htup hX' o fun H o=>?_
     rotate_left 1
     focus
      refine tw k2 ?_
      have o : Owns H0 H ((id,s.obj)::bendF id3 c z S d Xs (ob++[(id4,MObj.cells 7 [.int .i64 0,.nilsl,.nilsl,.nilsl,.nilsl,.nilsl,.nilsl] 0)])):=by unfold bendF; exact o
      refine htup hX o fun H o=>?_
    rotate_left 2
    focus
     refine tw k1 ?_
     have o : Owns H0 H ((id,s.obj)::bendF id3 c z S d Xs (ob++[(id4,MObj.cells 7 [.int .i64 0,.nilsl,.nilsl,.nilsl,.nilsl,.nilsl,.nilsl] 0)])):=by unfold bendF; exact o
     refine htup hX o fun H o=>?_
 all_goals
  refine tt ?_;refine rd_celln o (by simp [SF.cells]) ?_;refine tt ?_;refine sw (o.pull [_,_]) fun H o=>tt ?_
  have hr:=o.rc 7 0 (by simp);simp only [List.drop_zero] at hr;rw [hr];exact src_ret ⟨⟨_,_,_⟩,rfl⟩ hs (o.pull [_,_])
theorem l19Draw_ok (B : Nat) (c : Cat) (size : Int) (hsize : 0≤size∧size≤1000) : Rd B 154 [.agg c.cells,iI size] AnyF:=by
 intro id s H0 H hs o;refine c154p.go fun _=>?_;refine tt ?_;refine nb o fun id6 H o=>tt ?_;refine (l02Is_ok B c).go fun _=>tt ?_
 by_cases hc : c.Is
 ·rw [dec_t hc];refine tt ?_;refine (l19Some_ok B c hc size hsize).go hs o.swap fun r s H _ ⟨f,e,hfc,hfa⟩ hs o=>?_;subst e;refine tt ?_;refine nb o fun id7 H o=>tt ?_;refine sw o fun H o=>tt ?_;refine (l01Next_ok B 40).go hs o.swap fun r s H _ ⟨v,e,_⟩ hs o=>?_;subst e;refine tt ?_;apply bk <;> intro h1
  ·refine tt ?_;refine rd_celln o.tl (by simp) ?_;refine tt ?_;refine (l19Bend_ok B f (by rw [hfc]; exact hc.1) hfa).go hs o fun r s H _ ⟨f2,e⟩ hs o=>?_;subst e;refine tt ?_;refine sw (o.pull [_,_]) fun H o=>tt ?_;refine wkW_done ?_
   have hr:=o.rc 7 0 (by simp);simp only [List.drop_zero] at hr;refine tt ?_;rw [hr];exact src_ret ⟨f2,rfl⟩ hs o.swap
  ·refine tt ?_;refine rd_celln o.tl (by simp) ?_;refine tt ?_;refine sw (o.pull [_,_]) fun H o=>tt ?_;refine wkW_done ?_
   have hr:=o.rc 7 0 (by simp);simp only [List.drop_zero] at hr;refine tt ?_;rw [hr];exact src_ret ⟨f,rfl⟩ hs o.swap
 ·rw [dec_f hc];refine tt ?_;refine sw o fun H o=>tt ?_;refine wk_nil 5 o rfl fun H o=>?_;simp only [List.set_cons_zero,List.set_cons_succ] at o;refine wk_nil 6 o rfl fun H o=>wkW_done ?_;simp only [List.set_cons_zero,List.set_cons_succ] at o
  have hr:=o.rc 7 0 (by simp);simp only [List.drop_zero] at hr;refine tt ?_;rw [hr];exact src_ret ⟨⟨c,[],[]⟩,rfl⟩ hs o.swap
end Go.Proofs.Shf
namespace Go.AW
theorem cut_mid {P : Program} {B : Nat} {l : List Nat} {a b : SC} {Q : AQ} {σ : Env} {H : Heap} (M : Env→Heap→Prop) (h1 : awp P B a (ctQ l M Q) σ H) (h2 : ∀ σ' H',M σ' H'→awp P B b Q σ' H') : awp P B (.cut l a b) Q σ H:=⟨M,h1,h2⟩
end Go.AW
namespace Go.Proofs.Shf
open Go.AW Go.Proofs Go.Shf
theorem dTr' {p : Decidable True} : @decide True p=true:=@decide_eq_true True p trivial
theorem l28Base_ok (B : Nat) : Rd B 172 [] TopR:=by
 intro id s H0 H hs o;refine c172p.go fun _=>?_;refine tt ?_;refine nb o fun id2 H o=>tt ?_;refine (l01Next_ok B 12).go hs o.swap fun r s H _ ⟨v,e,_⟩ hs o=>?_;subst e;refine tt ?_;apply bk <;> intro g1
 ·refine tt ?_;refine (l27Draw_ok B).go hs o fun r s H _ ⟨j,e⟩ hs o=>?_;subst e;refine tt ?_;refine sw o.swap fun H o=>tt ?_;refine wkW_done ?_
  have hr2:=o.rc 6 0 (by simp);simp only [List.drop_zero] at hr2;refine tt ?_;rw [hr2];refine tt ?_;exact src_ret ⟨j,rfl⟩ hs o.swap
 ·refine tt ?_;refine (l02Some_ok B 3 7).go hs o fun r s H _ ⟨c,e,_⟩ hs o=>?_;subst e;refine tt ?_;refine (l27Some_own B c hs o).mono ?_
  rintro r H ⟨s,C,p,hs,⟨idC,Xs,ob,rfl,hX,⟨hb1,hb2⟩,rfl⟩,o⟩
  have hXl:=hX.len;refine tt ?_
  have o : Owns H0 H ((id2,MObj.cells 6 [.int .i64 0,.nilsl,.nilsl,.nilsl,.nilsl,.nilsl] 0)::(id,s.obj)::(idC,.cells 1 Xs 0)::ob):=o.pm;refine sw o fun H o=>tt ?_
  have od : Owns H0 H ((idC,.cells 1 Xs 0)::(ob++[(id2,tpO c (.buf idC Xs.length)),(id,s.obj)])):=by
   simp only [tpO];exact o.pm
  refine wk_rows hX [] H od fun H o=>?_;simp only [List.nil_append] at o
  have o : Owns H0 H ((id2,tpO c (.buf idC Xs.length))::(idC,.cells 1 (C.map (mL iL)) 0)::[(id,s.obj)]):=o.pm;simp only [tpO] at o;refine wk_cell (f:=mL iL) 5 o rfl hXl fun H o=>wkW_done ?_;simp only [List.set_cons_zero,List.set_cons_succ] at o
  have hr2:=o.rc 6 0 (by simp);simp only [List.drop_zero] at hr2;refine tt ?_;rw [hr2];refine tt ?_;exact src_ret ⟨⟨c,C⟩,rfl⟩ hs (o.pull [_])
theorem bothB8 (f : SF) (V : List (List Int)) : ∃ a1 a2 a3 a4 a5 a6 a7 a8,bothB f V=[a1,a2,a3,a4,a5,a6,a7,a8]∧∀ c,c∈[a1,a2,a3,a4,a5,a6,a7,a8]→c.one=true:=by
 unfold bothB
 split
 ·exact ⟨_,_,_,_,_,_,_,_,rfl,by simp only [memcons,memnil]; exact ⟨rfl,rfl,rfl,rfl,rfl,rfl,rfl,rfl,trivial⟩⟩
 ·exact ⟨_,_,_,_,_,_,_,_,rfl,by simp only [memcons,memnil]; exact ⟨rfl,rfl,rfl,rfl,rfl,rfl,rfl,rfl,trivial⟩⟩
def DrawJF (r : AV) : Prop:=∃ (j : Top) (f : SF),r=.tup [.agg j.cells,.agg f.cells]
theorem l28On_ok (B : Nat) (code : List UInt8) : Rets B 94 [mL Go.AW.iB code] DrawJF:=by
 intro H0;refine c94p.go fun _=>?_
 have o : Owns H0 H0 []:=.nil _;refine tt ?_;refine nb o fun id2 H o=>tt ?_;refine nb o fun id3 H o=>tt ?_;refine (l01From_ok B code _).mono' fun r H _ ⟨id,s,e,hs,o2⟩=>?_;subst e
 have o:=o.trans o2;refine tt ?_;refine (l28Base_ok B).go hs o fun r s H _ ⟨j,e⟩ hs o=>?_;subst e;refine tt ?_;refine nb o fun id5 H o=>tt ?_;refine sw o fun H o=>tt ?_;refine wk_ref 5 o rfl fun H o=>wkW_done ?_;refine tt ?_;refine newRef_own o fun id6 H o=>tt ?_;refine sw o fun H o=>tt ?_
 obtain ⟨c0,hc0⟩ : ∃ c0,j.shape=c0:=⟨_,rfl⟩
 have o : Owns H0 H ((id,s.obj)::(id6,MObj.cells 5 [iI c0.objs,iL c0.frm,iL c0.to,iL c0.idn,iLL c0.comp] 0)::[(id3,MObj.cells 7 [.int .i64 0,.nilsl,.nilsl,.nilsl,.nilsl,.nilsl,.nilsl] 0),(id2,MObj.cells 6 [.int .i64 0,.nilsl,.nilsl,.nilsl,.nilsl,.nilsl] 0)]):=by
  rw [← hc0];exact o.pm
 refine cut_mid (fun σ H=>∃ (s : Src) (c : Cat),σ=[(2,some (.ref id2 0)),(3,some (.ref id3 0)),(4,some (.ref id 0)),(5,some (.ptr j.cells)),(6,some (.ref id6 0))]∧s.Ok ∧
  Owns H0 H ((id,s.obj)::(id6,MObj.cells 5 [iI c.objs,iL c.frm,iL c.to,iL c.idn,iLL c.comp] 0)::[(id3,MObj.cells 7 [.int .i64 0,.nilsl,.nilsl,.nilsl,.nilsl,.nilsl,.nilsl] 0),(id2,MObj.cells 6 [.int .i64 0,.nilsl,.nilsl,.nilsl,.nilsl,.nilsl] 0)])) ?_ ?_
 ·refine tt ?_;refine (l01Next_ok B 20).go hs o fun r s H _ ⟨v,e,_⟩ hs o=>?_;subst e;refine tt ?_;apply bn <;> intro h1
  ·refine tw h1 ?_;refine rd_celln o.tl (by simp) ?_;refine tw h1 ?_;refine (l02Is_ok B c0).go fun _=>?_
   by_cases hI : c0.Is
   ·rw [dec_t hI];refine tw h1 ?_;exact wkW_done ⟨s,c0,rfl,hs,o⟩
   ·rw [dec_f hI];refine tw h1 ?_;refine (l02Some_ok B 3 7).go hs o fun r s H _ ⟨c,e,_⟩ hs o=>?_;subst e;refine tt ?_;refine sw o.swap fun H o=>tt ?_;exact wkW_done ⟨s,c,rfl,hs,o.swap⟩
  ·refine tw h1 ?_;refine (l02Some_ok B 3 7).go hs o fun r s H _ ⟨c,e,_⟩ hs o=>?_;subst e;refine tt ?_;refine sw o.swap fun H o=>tt ?_;exact wkW_done ⟨s,c,rfl,hs,o.swap⟩
 rintro σ H ⟨s,c,rfl,hs,o⟩;refine tt ?_;refine rd_celln o.tl (by simp) ?_;refine tt ?_;refine (l19Draw_ok B c 3 (by omega)).go hs o fun r s H _ ⟨f,e⟩ hs o=>?_;subst e;refine tt ?_;refine nb o fun id7 H o=>tt ?_;refine sw o fun H o=>tt ?_;refine wk_ref 7 o rfl fun H o=>wkW_done ?_;refine tt ?_
 have o : Owns H0 H ((id,s.obj)::(id3,MObj.cells 7 [.int .i64 0,.nilsl,.nilsl,.nilsl,.nilsl,.nilsl,.nilsl] 0)::[(id2,MObj.cells 6 [.int .i64 0,.nilsl,.nilsl,.nilsl,.nilsl,.nilsl] 0)]):=o.swap.tl
 refine cut_mid (fun σ H=>σ=[(2,some (.ref id2 0)),(3,some (.ref id3 0)),(5,some (.ptr j.cells)),(7,some (.ptr f.cells))] ∧
  Owns H0 H ((id3,MObj.cells 7 [.int .i64 0,.nilsl,.nilsl,.nilsl,.nilsl,.nilsl,.nilsl] 0)::[(id2,MObj.cells 6 [.int .i64 0,.nilsl,.nilsl,.nilsl,.nilsl,.nilsl] 0)])) ?_ ?_
 rotate_left
 ·rintro σ H ⟨rfl,o⟩;refine tt ?_;refine sw o.swap fun H o=>tt ?_;refine sw o.swap fun H o=>tt ?_
  have hr3:=o.rc 7 0 (by simp)
  have hr2:=o.tl.rc 6 0 (by simp);simp only [List.drop_zero] at hr2 hr3;rw [hr2,hr3];exact rets_ret ⟨j,f,rfl⟩ o.sub
 refine tt ?_;refine (l01Next_ok B 4).go hs o fun r s H _ ⟨v,e,_⟩ hs o=>?_;subst e
 have o:=o.tl;refine tt ?_;apply bk <;> intro g4
 rotate_left
 ·refine tw g4 ?_;exact wkW_done ⟨rfl,o⟩
 refine tw g4 ?_;refine (l28Code_ok B j f).go fun _=>?_
 by_cases hz : codeF j f=0
 rotate_left
 ·refine tw g4 ?_;rw [decide_eq_false hz];refine tw g4 ?_;exact wkW_done ⟨rfl,o⟩
 obtain ⟨hF,hf,hsh,hcov⟩:=code_cov hz
 have hl:=l27Least_ok B j;rw [hz];rw [hsh] at hl;try simp only [go_sem,↓reduceIte,reduceEqDiff,reduceAdd,reduceMul,reduceLeDiff,reduceLT,g4,dTr']
 generalize leastL f.shape j.covers=V at *
 have hb:=l28Both_ok B f hf.1 V hcov
 obtain ⟨a1,a2,a3,a4,a5,a6,a7,a8,hA,k1⟩:=stepA8 f V
 obtain ⟨b1,b2,b3,b4,b5,b6,b7,b8,hB,k2⟩:=bothB8 f V;rw [hA,hB] at hb;refine ⟨_,hl.run, ?_⟩;refine ⟨_,hb.run,tt ?_⟩;refine ⟨?_, ?_⟩
 focus
  refine nb o fun id8 H o=>tt ?_;refine nb o fun id9 H o=>tt ?_;refine st_cells o.swap (by simp) (by (try simp only [go_sem]); (try simp)) k1 fun H o=>?_;simp only [wr_cons,wr_nil,List.set_cons_zero,List.set_cons_succ] at o;refine tt ?_;refine st_cells o.swap (by simp) (by (try simp only [go_sem]); (try simp)) k2 fun H o=>?_
 rotate_left 1
 focus
  refine nb o fun id9 H o=>tt ?_;refine nb o fun id8 H o=>tt ?_;refine st_cells o (by simp) (by (try simp only [go_sem]); (try simp)) k1 fun H o=>?_;simp only [wr_cons,wr_nil,List.set_cons_zero,List.set_cons_succ] at o;refine tt ?_;refine st_cells o.swap (by simp) (by (try simp only [go_sem]); (try simp)) k2 fun H o=>?_
 all_goals
  simp only [wr_cons,wr_nil,List.set_cons_zero,List.set_cons_succ] at o;refine tt ?_;refine wk_ref 9 o rfl fun H oN=>wkW_done ?_;refine tt ?_
  by_cases h2 : TwoFew f V
  ·rw [dec_t h2];rw [bothB,if_pos h2] at hB;simp only [stepCells,List.cons.injEq,and_true] at hB
   obtain ⟨rfl,rfl,rfl,rfl,rfl,rfl,rfl,rfl⟩:=hB
   have o:=oN;refine tt ?_;refine sw (o.pull [_,_]) fun H o=>tt ?_;refine sw (o.pull [_,_]) fun H o=>tt ?_
   have hr3:=o.rc 7 0 (by simp)
   have hr2:=o.tl.rc 6 0 (by simp);simp only [List.drop_zero] at hr2 hr3;rw [hr2,hr3];exact rets_ret ⟨j,stepSF (stepSF f V) V,rfl⟩ o.sub
  ·rw [dec_f h2];refine tt ?_;exact wkW_done ⟨rfl,oN.tl⟩
theorem drawUnit_ok (B : Nat) (code : List UInt8) : Rets B 36 [mL Go.AW.iB code] DrawJF:=by
 intro H0;refine c36.go fun _=>?_
 have o : Owns H0 H0 []:=.nil _;refine tt ?_;refine nb o fun id2 H o=>tt ?_;refine nb o fun id3 H o=>tt ?_;refine (l28On_ok B code).go fun r _ ⟨j,f,e⟩=>?_;subst e;refine tt ?_;refine sw o.swap fun H o=>tt ?_;refine sw o.swap fun H o=>tt ?_
 have hr3:=o.rc 7 0 (by simp)
 have hr2:=o.tl.rc 6 0 (by simp);simp only [List.drop_zero] at hr2 hr3;rw [hr2,hr3];exact rets_ret ⟨j,f,rfl⟩ o.sub
end Go.Proofs.Shf
namespace Go.Shf
open Go.AW
def PartAt (f g : SF) (p : List (List Int)) (x : Nat) : Prop:=((p.getD x default).length : Int)=f.sizes.getD x default∧∀ y,y∈p.getD x default→0≤y∧y<g.sizes.getD x default
def PartsOk (f g : SF) (p : List (List Int)) : Prop:=p.length=f.sizes.length∧∀ x,x<p.length→PartAt f g p x
def NatAt (f g : SF) (p : List (List Int)) (a e : Nat) : Prop:=ix (ix p (f.shape.to.getD a default)) ((f.acts.getD a default).getD e default)=ix (g.acts.getD a default) ((ix p (f.shape.frm.getD a default)).getD e default)
def NatOk (f g : SF) (p : List (List Int)) : Prop:=∀ a,a<f.acts.length→∀ e : Nat,e<(f.acts.getD a default).length→NatAt f g p a e
structure SM.Is (m : SM) : Prop where
 s : m.src.Is
 t : m.tgt.Is
 eq : m.src.shape=m.tgt.shape
 p : PartsOk m.src m.tgt m.parts
 n : NatOk m.src m.tgt m.parts
structure MapD (f g : SF) (p : List (List Int)) : Prop where
 sf : f.Shape
 sg : g.Shape
 eq : f.shape=g.shape
 po : PartsOk f g p
structure SM.Shape (m : SM) : Prop where
 s : m.src.Is
 t : m.tgt.Is
 eq : m.src.shape=m.tgt.shape
 p : PartsOk m.src m.tgt m.parts
theorem SF.Shape.sl' {f g : SF} (hf : f.Shape) (hg : g.Shape) (e : f.shape=g.shape) : g.sizes.length=f.sizes.length:=by
 have:=hf.sl; have:=hg.sl; rw [← e] at this; omega
theorem SM.Shape.d {m : SM} (h : m.Shape) : MapD m.src m.tgt m.parts:=⟨h.s.1,h.t.1,h.eq,h.p⟩
theorem SM.is_iff {m : SM} : m.Is↔m.Shape∧NatOk m.src m.tgt m.parts:=⟨fun h=>⟨⟨h.s,h.t,h.eq,h.p⟩,h.n⟩,fun ⟨h,n⟩=>⟨h.s,h.t,h.eq,h.p,n⟩⟩
theorem MapD.at {f g : SF} {p : List (List Int)} (h : MapD f g p) {a e : Nat} (ha : a<f.acts.length) (he : e<(f.acts.getD a default).length) :
  (0≤f.shape.frm.getD a default∧(f.shape.frm.getD a default).toNat<p.length)∧(0≤f.shape.to.getD a default∧(f.shape.to.getD a default).toNat<p.length)∧a<g.acts.length ∧
  e<(ix p (f.shape.frm.getD a default)).length∧(0≤(f.acts.getD a default).getD e default∧((f.acts.getD a default).getD e default).toNat<(ix p (f.shape.to.getD a default)).length) ∧
  (0≤(ix p (f.shape.frm.getD a default)).getD e default∧((ix p (f.shape.frm.getD a default)).getD e default).toNat<(g.acts.getD a default).length):=by
 have hal:=h.sf.al
 have hag:=h.sg.al
 have f1:=h.sf.is.1.frm' (f:=a) (by omega)
 have f2:=h.sf.is.1.to' (f:=a) (by omega)
 have hil:=h.sf.is.1.il
 have hsl:=h.sf.sl
 have hp:=h.po.1
 have p1:=h.po.2 _ (show (f.shape.frm.getD a default).toNat<p.length by omega)
 have p2:=h.po.2 _ (show (f.shape.to.getD a default).toNat<p.length by omega)
 have a1:=h.sf.act a ha
 have a2:=h.sg.act a (by rw [hag,← h.eq]; omega)
 have a3:=a1.2 _ (mem_getD.mpr ⟨e,he,rfl⟩);rw [← h.eq] at a2;simp only [PartAt] at p1 p2;simp only [ix] at *
 have p3:=p1.2 ((p.getD (f.shape.frm.getD a default).toNat default).getD e default) (mem_getD.mpr ⟨e,by omega,rfl⟩);refine ⟨⟨f1.1,by omega⟩,⟨f2.1,by omega⟩,by rw [hag,← h.eq]; omega,by omega,⟨a3.1,by omega⟩,p3.1,by omega⟩
end Go.Shf
namespace Go.Proofs.Shf
open Go.AW Go.Proofs Go.Shf
theorem fits_ok (B : Nat) (m : SM) (hg : m.tgt.sizes.length=m.src.sizes.length) (hz : ∀ y,y∈m.tgt.sizes→0≤y∧y<17) : Pur Tryz.prog B 260 [.ptr m.cells] (.bool (dec (PartsOk m.src m.tgt m.parts))):=by
 refine ⟨fun H0=>c260.go fun ⟨hp,_⟩=>?_⟩
 have hl:=fine_mL_le (hp.ptr (c:=iLL m.parts) (by simp [SM.cells]));simp only [maxL] at hl;refine tt ?_;apply bk <;> intro h0
 ·refine tt ?_
  have h0p:=dd h0;exact pure_ret (by rw [dec_f]; intro h; exact h0p (by rw [h.1])) (.refl _)
 have h0p:=dd h0
 have h0q : m.parts.length=m.src.sizes.length:=by omega
 refine tt ?_;refine awp_for [0,20,21] (fun k _=>[(22,some (.int .i64 (k : Int)))]) (fun k _ H=>H=H0∧∀ i,i<k→PartAt m.src m.tgt m.parts i) m.parts.length () ⟨rfl,by simp⟩ rfl ?_
 rintro k _ H hk ⟨rfl,hall⟩;refine tt ?_;apply bk <;> intro h1
 ·have h1p:=dd h1
  have w1:=wsucc (k:=k) (by omega);refine tt ?_
  have hzk:=hz _ (mem_getD.mpr ⟨k,by omega,rfl⟩);refine ⟨h1p,by omega,by omega,_,(isMapOf_ok B (m.parts.getD k default) (m.src.sizes.getD k default) (m.tgt.sizes.getD k default) (by omega)).run,tt ?_⟩;apply bk <;> intro h3
  ·refine tt ?_
   have h3p:=dd h3;exact pure_ret (by rw [dec_f]; intro h; exact h3p (h.2 k h1p)) (.refl _)
  ·refine tw w1 ?_
   have h3p:=dd h3;exact for_next () (by omega) ⟨rfl,lt_succ_all hall h3p⟩ rfl
 ·refine tt ?_
  have h1p:=dd h1;exact pure_ret (by rw [dec_t]; exact ⟨h0q,fun x hx=>hall x (by omega)⟩) (.refl _)
def natK (P : Prop) (H0 : Heap) : Kont:=fun r H'=>H'=H0∧∃ a e : Int,r=.tup [.int .i64 a,.int .i64 e]∧(a<0↔P)
theorem nat_ret {P : Prop} {H0 H : Heap} {a e : Int} (h : a<0↔P) (hs : H0.sub H) : subW (natK P H0) (.tup [.int .i64 a,.int .i64 e]) H:=⟨H0,hs,rfl,a,e,rfl,h⟩
theorem unnatural_ok (B : Nat) (m : SM) (h : MapD m.src m.tgt m.parts) (H0 : Heap) : CallH Tryz.prog B 194 [.ptr m.cells] H0 (natK (NatOk m.src m.tgt m.parts) H0):=by
 refine c194.go fun ⟨hp,_⟩=>?_
 have hl:=fine_mL_le (hp.ptr (c:=iLL m.parts) (by simp [SM.cells]));simp only [maxL] at hl
 have hm:=h.sf.is.1.m
 have hal:=h.sf.al
 have htl:=h.sf.is.1.tol;refine tt ?_;refine awp_for [0,4,16] (fun k _=>[(17,some (.int .i64 (k : Int)))]) (fun k _ H=>H=H0∧∀ a,a<k→∀ e : Nat,e<(m.src.acts.getD a default).length→NatAt m.src m.tgt m.parts a e) m.src.acts.length () ⟨rfl,by simp⟩ rfl ?_
 rintro a _ H ha ⟨rfl,hall⟩;refine tt ?_;apply bk <;> intro h1
 ·have h1p:=dd h1
  have w1:=wsucc (k:=a) (by omega)
  have a1:=(h.sf.act a (by omega)).1
  have f1:=h.sf.is.1.frm' (f:=a) (by omega)
  have hil:=h.sf.is.1.il
  have hsl:=h.sf.sl
  have hz:=h.sf.sz _ (ix_mem (l:=m.src.sizes) (i:=m.src.shape.frm.getD a default) (by omega));refine tt ?_;refine ⟨by omega, ?_⟩;refine awp_for [0,4,5,16,17,27,28] (fun k _=>[(29,some (.int .i64 (k : Int)))]) (fun k _ H'=>H'=H∧∀ e : Nat,e<k→NatAt m.src m.tgt m.parts a e) (m.src.acts.getD a default).length () ⟨rfl,by simp⟩ rfl ?_
  rintro e _ H he ⟨rfl,hall2⟩;refine tt ?_;apply bk <;> intro h2
  ·have h2p:=dd h2
   have w2:=wsucc (k:=e) (by omega)
   have hat:=h.at (a:=a) (e:=e) (by omega) (by omega);refine tt ?_;refine ⟨by omega, ?_⟩;refine ⟨by omega,by omega,by omega,by omega,by omega,by omega,by omega,by omega, ?_⟩;apply bk <;> intro h3
   ·refine tt ?_
    have h3p:=dd h3;exact nat_ret ⟨fun e=>by omega,fun hn=>absurd (hn a (by omega) e (by omega)) h3p⟩ (.refl _)
   ·refine tw w2 ?_
    have h3p:=dd h3;exact for_next () (by omega) ⟨rfl,lt_succ_all hall2 h3p⟩ rfl
  ·refine tw w1 ?_
   have h2p:=dd h2;exact for_next () (by omega) ⟨rfl,lt_succ_all hall fun e he=>hall2 e (by omega)⟩ rfl
 ·refine tt ?_
  have h1p:=dd h1;exact nat_ret ⟨fun _ a ha e he=>hall a (by omega) e he,fun _=>by omega⟩ (.refl _)
theorem isShapeM_ok (B : Nat) (m : SM) : Pur Tryz.prog B 193 [.ptr m.cells] (.bool (dec m.Shape)):=by
 refine ⟨fun H0=>c193.go fun _=>?_⟩;refine tt ?_;refine ⟨_,(areSetFunctors_ok B [m.src,m.tgt]).run, ?_⟩
 by_cases hf : m.src.Is∧m.tgt.Is
 ·rw [dec_t (by simpa using hf)];refine tt ?_;refine ⟨_,(sameCategory_ok B m.src.shape m.tgt.shape).run, ?_⟩
  by_cases he : m.src.shape=m.tgt.shape
  ·rw [dec_t he];refine tt ?_;refine ⟨_,(fits_ok B m (hf.1.1.sl' hf.2.1 he) hf.2.1.sz).run,tt ?_⟩;exact pure_ret (by congr 1; exact dec_congr ⟨fun h=>⟨hf.1,hf.2,he,h⟩,fun h=>h.p⟩) (.refl _)
  ·rw [dec_f he];refine tt ?_;exact pure_ret (by rw [dec_f]; exact fun h=>he h.eq) (.refl _)
 ·rw [dec_f (by simpa using hf)];refine tt ?_;exact pure_ret (by rw [dec_f]; exact fun h=>hf ⟨h.s,h.t⟩) (.refl _)
theorem isNatural_ok (B : Nat) (m : SM) : Pur Tryz.prog B 110 [.ptr m.cells] (.bool (dec m.Is)):=by
 refine ⟨fun H0=>c110.go fun _=>?_⟩;refine tt ?_;refine (isShapeM_ok B m).go fun _=>?_
 by_cases h : m.Shape
 ·rw [dec_t h];try simp only [go_sem,↓reduceIte,reduceEqDiff,reduceAdd,reduceMul,reduceLeDiff,reduceLT,Bool.not_true]
  refine (unnatural_ok B m h.d H0).mono' ?_
  rintro _ _ _ ⟨rfl,a,e,rfl,hk⟩;refine tt ?_;exact pure_ret (by rw [decide_dec]; congr 1; exact dec_congr ⟨fun q=>SM.is_iff.mpr ⟨h,hk.mp q⟩,fun q=>hk.mpr q.n⟩) (.refl _)
 ·rw [dec_f h];try simp only [go_sem,↓reduceIte,reduceEqDiff,reduceAdd,reduceMul,reduceLeDiff,reduceLT,Bool.not_false]
  exact pure_ret (by rw [dec_f]; exact fun q=>h (SM.is_iff.mp q).1) (.refl _)
end Go.Proofs.Shf
namespace Go.Shf
open Go.AW Go.Proofs.Shf
end Go.Shf
namespace Go.Proofs.Shf
open Go.AW Go.Proofs Go.Shf
end Go.Proofs.Shf
