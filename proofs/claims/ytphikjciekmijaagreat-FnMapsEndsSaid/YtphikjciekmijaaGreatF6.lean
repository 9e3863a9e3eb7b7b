/- Contracts, part 6. -/
import Derived.Test.YtphikjciekmijaaGreatF5
set_option linter.unusedVariables false
set_option linter.unusedSimpArgs false
set_option linter.unusedSectionVars false
set_option maxRecDepth 100000
open Nat (reduceEqDiff reduceAdd reduceMul reduceLeDiff reduceLT)
namespace Go.Proofs.Shf
open Go.AW Go.Proofs Go.Shf
theorem l02Some_ok (B : Nat) (mo ma : Int) : Rd B 51 [iI mo,iI ma] (CatQ 20000):=by
 intro id s H0 H hs o;refine c51p (by simp) fun _=>?_;unfold s51p;refine tt ?_;refine newRef_own o fun id6 H o=>tt ?_;refine awp_for [0,1,2,6] (G:=Src) (fun k _=>[(7,some (.int .i64 (k : Int)))]) (fun k s H=>s.Ok∧Owns H0 H [(id,s.obj),(id6,MObj.cells 5 [.int .i64 0,.nilsl,.nilsl,.nilsl,.nilsl] 0)]) 12 s ⟨hs,o.swap⟩ rfl ?_;clear o hs
 rintro k s H hk ⟨hs,o⟩
 replace hs : s.Ok:=hs
 replace o : Owns H0 H [(id,s.obj),(id6,MObj.cells 5 [.int .i64 0,.nilsl,.nilsl,.nilsl,.nilsl] 0)]:=o;refine tt ?_;refine ⟨fun h1=>At.mk ?_,fun h1=>At.mk ?_⟩
 ·have h1p:=of_decide h1
  have wk1:=wsucc (k:=k) (by omega);refine tt ?_;refine (l02Family_ok B).go hs o fun r s H _ ⟨c0,e,hc0⟩ hs o=>?_;subst e;refine tt ?_;refine newRef_own o fun id8 H o=>tt ?_;refine sw o fun H o=>tt ?_;refine (l01Next_ok B 5).go hs o.swap fun r s H _ ⟨v,e,_⟩ hs o=>?_;subst e;refine tt ?_;refine ⟨fun h2=>At.mk ?_,fun h2=>At.mk ?_⟩
  case' refine_1 =>
   refine tt ?_;refine ⟨⟨_,_,o.tl.h0⟩,rd_celln o.tl (by simp) ?_⟩;refine tt ?_;refine (l02Family_ok B).goZ hs o fun r s H _ ⟨c2,e,hc2⟩ hs o hz=>⟨hz, ?_⟩;subst e;refine tt ?_;refine New.go' (l03Sum_new B 100 100 (by omega) c0 c2 hc0 hc2) o fun X1 p1 H ⟨q,hq,a,b,i,d,Xs,ob,e1,hX,e2⟩ o _=>?_;subst e1 e2;refine tt ?_
   have o : Owns H0 H ((id8,MObj.cells 5 [iI c0.objs,iL c0.frm,iL c0.to,iL c0.idn,iLL c0.comp] 0)::(d,MObj.cells 1 Xs 0)::(a,MObj.cells 1 (q.frm.map iI) 0)::(b,MObj.cells 1 (q.to.map iI) 0)::(i,MObj.cells 1 (q.idn.map iI) 0)::(id,s.obj)::(id6,MObj.cells 5 [.int .i64 0,.nilsl,.nilsl,.nilsl,.nilsl] 0)::ob):=o.pm;refine sw o fun H o=>tt ?_
   have hXl:=hX.len
   have od : Owns H0 H ((d,MObj.cells 1 Xs 0)::(ob++[(id8,MObj.cells 5 [iI q.objs,.buf a q.frm.length,.buf b q.to.length,.buf i q.idn.length,.buf d Xs.length] 0),(a,MObj.cells 1 (q.frm.map iI) 0),(b,MObj.cells 1 (q.to.map iI) 0),(i,MObj.cells 1 (q.idn.map iI) 0),(id,s.obj),(id6,MObj.cells 5 [.int .i64 0,.nilsl,.nilsl,.nilsl,.nilsl] 0)])):=o.pm;refine wk_rows hX [] H od fun H o=>?_;simp only [List.nil_append] at o
   have o : Owns H0 H [(id8,MObj.cells 5 [iI q.objs,.buf a q.frm.length,.buf b q.to.length,.buf i q.idn.length,.buf d Xs.length] 0),(d,MObj.cells 1 (q.comp.map iL) 0),(a,MObj.cells 1 (q.frm.map iI) 0),(b,MObj.cells 1 (q.to.map iI) 0),(i,MObj.cells 1 (q.idn.map iI) 0),(id,s.obj),(id6,MObj.cells 5 [.int .i64 0,.nilsl,.nilsl,.nilsl,.nilsl] 0)]:=o.pm;refine wk_cell 4 o rfl hXl fun H o=>?_;simp only [List.set_cons_zero,List.set_cons_succ] at o;refine wk_cell 1 o rfl rfl fun H o=>?_;simp only [List.set_cons_zero,List.set_cons_succ] at o;refine wk_cell 2 o rfl rfl fun H o=>?_;simp only [List.set_cons_zero,List.set_cons_succ] at o;refine wk_cell 3 o rfl rfl fun H o=>wkW_done ?_;simp only [List.set_cons_zero,List.set_cons_succ] at o
   have o:=o.swap
   obtain ⟨c,rfl⟩ : ∃ c,c=q:=⟨_,rfl⟩
   have hc : c.Sh 200:=hq
  case' refine_2 =>
   refine tt ?_;refine wkW_done ?_
   obtain ⟨c,rfl⟩ : ∃ c,c=c0:=⟨_,rfl⟩
   have hc : c.Sh 200:=hc0.mono (show 100≤200 by omega)
  all_goals
   try clear h2
   refine tt ?_;refine (l01Next_ok B 8).go hs o fun r s H _ ⟨v2,e,_⟩ hs o=>?_;subst e;refine tt ?_;refine ⟨fun h3=>At.mk ?_,fun h3=>At.mk ?_⟩
   case' refine_1 =>
    refine tt ?_;refine ⟨⟨_,_,o.tl.h0⟩,rd_celln o.tl (by simp) ?_⟩;refine tt ?_;refine (l02Family_ok B).goZ hs o fun r s H _ ⟨c2,e,hc2⟩ hs o hz=>⟨hz, ?_⟩;subst e;refine tt ?_;refine (l03Product_ok B 200 100 (by omega) (by omega) (by omega) c c2 hc hc2).go fun r _ ⟨q,e,hq⟩=>?_;subst e;refine tt ?_;refine sw o.swap fun H o=>?_
    have o:=o.swap
    have hc:=hq
    obtain ⟨c,rfl⟩ : ∃ c,c=q:=⟨_,rfl⟩
    replace hc : c.Sh 20000:=hc
   case' refine_2 =>
    have hc:=hc.mono (show 200≤20000 by omega)
   all_goals
    try clear h3
    refine tt ?_;refine rd_cells o.tl (by simp) ?_;refine tt ?_;refine ⟨fun g1=>At.mk ?_,fun g1=>At.mk ?_⟩
    case' refine_1 =>
     refine tw g1 ?_;refine rd_cells o.tl (by simp) ?_;refine tt ?_;refine ⟨fun g2=>At.mk ?_,fun g2=>At.mk ?_⟩
     case' refine_1 =>
      refine tw g2 ?_;refine rd_celln o.tl (by simp) ?_;refine tt ?_;refine (l02Fits_ok B c).go fun _=>tt ?_;refine ⟨fun g3=>At.mk ?_,fun g3=>At.mk ?_⟩
      case refine_1 =>
       refine tt ?_;refine rd_celln o.tl (by simp) ?_;refine tt ?_;refine sw (o.pull [_,_]) fun H o=>tt ?_
       have hr2:=o.rc 5 0 (by simp);simp only [List.drop_zero] at hr2;rw [hr2];refine tt ?_;exact src_ret ⟨c,rfl,hc⟩ hs o.swap
    all_goals
     try (try simp only [go_sem,↓reduceIte,reduceEqDiff,reduceAdd,reduceMul,reduceLeDiff,reduceLT,g1])
     try (try simp only [go_sem,↓reduceIte,reduceEqDiff,reduceAdd,reduceMul,reduceLeDiff,reduceLT,g2])
     try (try simp only [go_sem,↓reduceIte,reduceEqDiff,reduceAdd,reduceMul,reduceLeDiff,reduceLT,wk1])
     exact for_next s (by omega) ⟨hs,o.swap.tl⟩ rfl
 ·refine tt ?_;refine (l03Poset_ok B [[1]] sq1).go fun r _ ⟨c,e,hc⟩=>?_;subst e;refine tt ?_;refine sw o.swap fun H o=>tt ?_
  have hr2:=o.rc 5 0 (by simp);simp only [List.drop_zero] at hr2;rw [hr2];refine tt ?_;exact src_ret ⟨c,rfl,hc.mono (by omega)⟩ hs o.swap
end Go.Proofs.Shf
namespace Go.AW
open Go.Shf
@[go_sem] theorem opE_slc {P : Program} {B : Nat} {d : Option Nat} {F : Env→Heap→Prop} {σ : Env} {H : Heap} (n : Nat) (x : X) (lo hi : Option X) : opE P B d (.slc n x lo hi) F σ H=pE d F σ H (slcE n (val σ x) (lo.map (val σ)) (hi.map (val σ))):=rfl
theorem wk_cat' {F : Env→Heap→Prop} {σ : Env} {H0 H : Heap} {l : Ob} {id fr : Nat} {x : Int} {a b i d : Nat} {A C I : List Int} {D : List (List Int)}
  (o : Owns H0 H ((id,.cells 5 [iI x,.buf a A.length,.buf b C.length,.buf i I.length,.buf d D.length] fr)::(a,.cells 1 (A.map iI) 0)::(b,.cells 1 (C.map iI) 0)::(i,.cells 1 (I.map iI) 0)::(d,.cells 1 (D.map iL) 0)::l))
  (hk : ∀ H',Owns H0 H' ((id,.cells 5 (Cat.cells ⟨x,A,C,I,D⟩) fr)::l)→wkW F σ H') : wkW F σ H:=by
 refine wk_cell 1 o rfl rfl fun H o=>?_;simp only [List.set_cons_zero,List.set_cons_succ] at o;refine wk_cell 2 o rfl rfl fun H o=>?_;simp only [List.set_cons_zero,List.set_cons_succ] at o;refine wk_cell 3 o rfl rfl fun H o=>?_;simp only [List.set_cons_zero,List.set_cons_succ] at o;refine wk_cell 4 o rfl rfl fun H o=>?_;simp only [List.set_cons_zero,List.set_cons_succ] at o;exact hk H o
theorem wk_cat {F : Env→Heap→Prop} {σ : Env} {H0 H : Heap} {l : Ob} {id fr : Nat} {x : Int} {a b i d : Nat} {A C I : List Int} {Xs : List AV} {As : List (List Int)} {ob : Ob} (h : LsR iI Xs As ob)
  (o : Owns H0 H ((id,.cells 5 [iI x,.buf a A.length,.buf b C.length,.buf i I.length,.buf d Xs.length] fr)::(a,.cells 1 (A.map iI) 0)::(b,.cells 1 (C.map iI) 0)::(i,.cells 1 (I.map iI) 0)::(d,.cells 1 Xs 0)::(ob++l)))
  (hk : ∀ H',Owns H0 H' ((id,.cells 5 (Cat.cells ⟨x,A,C,I,As⟩) fr)::l)→wkW F σ H') : wkW F σ H:=by
 have hl:=h.len
 have od : Owns H0 H ((d,.cells 1 Xs 0)::(ob++((id,.cells 5 [iI x,.buf a A.length,.buf b C.length,.buf i I.length,.buf d Xs.length] fr)::(a,.cells 1 (A.map iI) 0)::(b,.cells 1 (C.map iI) 0)::(i,.cells 1 (I.map iI) 0)::l))):=o.pm;refine wk_rows h [] H od fun H o=>?_;simp only [List.nil_append] at o;rw [hl] at o
 have o : Owns H0 H ((id,.cells 5 [iI x,.buf a A.length,.buf b C.length,.buf i I.length,.buf d As.length] fr)::(a,.cells 1 (A.map iI) 0)::(b,.cells 1 (C.map iI) 0)::(i,.cells 1 (I.map iI) 0)::(d,.cells 1 (As.map iL) 0)::l):=o.pm;exact wk_cat' o hk
theorem LsR.row {α : Type} [Inhabited α] {f : α→AV} [One f] {Xs : List AV} {As : List (List α)} {ob : Ob} (h : LsR f Xs As ob) {i : Nat} (hi : i<Xs.length) (hp : 0<(As.getD i []).length) :
  ∃ idr,Xs.getD i nv=.buf idr (As.getD i []).length∧∀ {H0 H : Heap} {l : Ob} {id : Nat} {K : Kont} (o : Owns H0 H ((id,.cells 1 Xs 0)::(ob++l))) (y : Nat) (hy : y<(As.getD i []).length) (v : α) {c : AV} (hc : c=f v)
   (hk : ∀ H' ob',LsR f Xs (As.set i ((As.getD i []).set y v)) ob'→Owns H0 H' ((id,.cells 1 Xs 0)::(ob'++l))→K nv H'),st1 (H.get idr) idr y 1 [c] K H:=by
 obtain ⟨p,r,h1,h2,h3⟩:=h.split i hi
 rcases h2 with ⟨_,_,e⟩ | ⟨idr,rfl,e⟩
 ·rw [e] at hp; simp at hp
 ·refine ⟨idr,e,fun {H0 H l id K} o y hy v {c} hc hk=>?_⟩
  have o1 : Owns H0 H ((idr,.cells 1 ((As.getD i []).map f) 0)::(id,.cells 1 Xs 0)::(r++l)):=by
   refine o.perm (((List.Perm.append_right l h1).cons _).trans ?_);simp only [List.cons_append,List.nil_append];exact .swap _ _ _
  refine set_own v o1 hc hy fun H' o2=>?_
  obtain ⟨o',k1,k2⟩:=h3 (.buf idr ((As.getD i []).set y v).length) ((As.getD i []).set y v) [(idr,.cells 1 (((As.getD i []).set y v).map f) 0)] (.inr ⟨idr,rfl,rfl⟩)
  have e2 : Xs.set i (.buf idr ((As.getD i []).set y v).length)=Xs:=by
   rw [List.length_set,← e];apply List.ext_getElem?
   intro j
   by_cases hj : i=j
   ·subst hj; rw [List.getElem?_set_self hi]; simp [List.getD_eq_getElem?_getD,hi]
   ·rw [List.getElem?_set_ne hj]
  rw [e2] at k1;refine hk H' o' k1 (o2.perm ((List.Perm.swap _ _ _).trans (.cons _ ?_)))
  have:=List.Perm.append_right l k2.symm
  simpa using this
end Go.AW
namespace Go.Proofs.Shf
open Go.AW Go.Proofs Go.Shf
def AnyQ (r : AV) : Prop:=∃ c : Cat,r=.agg c.cells
theorem anyQ (x : Int) (A C I : List Int) (D : List (List Int)) : AnyQ (.agg [iI x,iL A,iL C,iL I,iLL D]):=⟨⟨x,A,C,I,D⟩,rfl⟩
@[go_sem] def bendO (id3 : Nat) (x : Int) (a : Nat) (A : List Int) (b : Nat) (C : List Int) (i : Nat) (I : List Int) (d : Nat) (Xs : List AV) (l : Ob) : Ob :=
 (id3,.cells 5 [iI x,.buf a A.length,.buf b C.length,.buf i I.length,.buf d Xs.length] 0)::(a,.cells 1 (A.map iI) 0)::(b,.cells 1 (C.map iI) 0)::(i,.cells 1 (I.map iI) 0)::(d,.cells 1 Xs 0)::l
theorem l02Bend_ok (B N : Nat) (hN : N≤65536) (c : Cat) (hc : c.Sh N) : Rd B 214 [.agg c.cells] AnyQ:=by
 intro id s H0 H hs o;refine c214p (by simp) fun _=>?_
 obtain ⟨cob,cil,cml,ctl,ccl,crow⟩:=hc;unfold s214p;refine tt ?_;refine newRef_own o fun id3 H o=>tt ?_;refine newRef_own o fun id4 H o=>tt ?_;refine rd_celln o.tl (by simp) ?_;refine tt ?_;refine New.go' (l02Own_new B c) o fun X1 p1 H ⟨a,b,i,d,Xs,ob,e1,hX,e2⟩ o _=>?_;subst e1 e2
 have hXl:=hX.len;refine tt ?_
 have o : Owns H0 H ((id3,MObj.cells 5 [iI c.objs,iL c.frm,iL c.to,iL c.idn,iLL c.comp] 0)::(a,.cells 1 (c.frm.map iI) 0)::(b,.cells 1 (c.to.map iI) 0)::(i,.cells 1 (c.idn.map iI) 0)::(d,.cells 1 Xs 0)::(ob++[(id,s.obj),(id4,MObj.cells 5 [.int .i64 0,.nilsl,.nilsl,.nilsl,.nilsl] 0)])):=o.pm;refine sw o fun H o=>tt ?_;refine rd_cells o (by simp) ?_;refine tt ?_
 have hsrc : ∀ {H : Heap} {s : Src} {Xs : List AV} {ob : Ob} {a b i : Nat} {A C I : List Int} {x : Int},Owns H0 H (bendO id3 x a A b C i I d Xs (ob++[(id,s.obj),(id4,MObj.cells 5 [.int .i64 0,.nilsl,.nilsl,.nilsl,.nilsl] 0)])) →
   Owns H0 H ((id,s.obj)::bendO id3 x a A b C i I d Xs (ob++[(id4,MObj.cells 5 [.int .i64 0,.nilsl,.nilsl,.nilsl,.nilsl] 0)])):=by
  intro H s Xs ob a b i A C I x o;unfold bendO at o ⊢;exact o.pm
 have o:=hsrc (by unfold bendO; exact o);unfold bendO at o;refine (l01Next_ok B c.frm.length).go hs o fun r s H _ ⟨f,e,hf0,hf1,hf2⟩ hs o=>?_;subst e
 obtain ⟨f,rfl⟩:=Int.eq_ofNat_of_zero_le hf0;refine tt ?_;refine (l01Next_ok B 8).go hs o fun r s H _ ⟨v,e,_⟩ hs o=>?_;subst e;refine tt ?_;apply bk <;> intro q0
 focus
  refine tt ?_;refine rd_cells o.tl (by simp) ?_;refine tt ?_;refine (l01Pick_ok B [IntKind.i64.wrap (c.objs+1),-1,9] (by simp)).go hs o fun r s H _ ⟨v,e,_⟩ hs o=>?_;subst e;refine tt ?_;refine sw o.swap fun H o=>tt ?_
  have o : Owns H0 H ((id3,.cells 5 [iI (v),.buf a (c.frm).length,.buf b (c.to).length,.buf i (c.idn).length,.buf d (Xs).length] 0)::(a,.cells 1 ((c.frm).map iI) 0)::(b,.cells 1 ((c.to).map iI) 0)::(i,.cells 1 ((c.idn).map iI) 0)::(d,.cells 1 (Xs) 0)::(ob++[(id,s.obj),(id4,MObj.cells 5 [.int .i64 0,.nilsl,.nilsl,.nilsl,.nilsl] 0)])):=o.pm;refine wk_cat hX o fun H o=>?_
 rotate_left 1;refine tt ?_;apply bk <;> intro q1
 focus
  refine tt ?_;refine rd_cells o.tl (by simp) ?_;refine tt ?_;refine app_own' _ (o.pull [_,_]) rfl rfl (by simp only [maxL]; omega) fun a H A2 _ hA2 o=>tt ?_;refine sw (o.pull [_,_]) fun H o=>tt ?_
  have o : Owns H0 H ((id3,.cells 5 [iI (c.objs),.buf a (A2).length,.buf b (c.to).length,.buf i (c.idn).length,.buf d (Xs).length] 0)::(a,.cells 1 ((A2).map iI) 0)::(b,.cells 1 ((c.to).map iI) 0)::(i,.cells 1 ((c.idn).map iI) 0)::(d,.cells 1 (Xs) 0)::(ob++[(id,s.obj),(id4,MObj.cells 5 [.int .i64 0,.nilsl,.nilsl,.nilsl,.nilsl] 0)])):=o.pm;refine wk_cat hX o fun H o=>?_
 rotate_left 1;refine tt ?_;apply bk <;> intro q2
 focus
  refine tt ?_;refine rd_cells o.tl (by simp) ?_;refine tt ?_;apply bk <;> intro g1
  focus
   have g1p:=of_decide g1;refine tt ?_;refine ⟨⟨_,_,o.tl.h0⟩,rd_cells o.tl (by simp) ?_⟩;refine tt ?_;refine (l01Next_ok B _).goZ hs o fun r s H _ ⟨v,e,_⟩ hs o hz=>⟨hz, ?_⟩;subst e;refine tt ?_;refine ⟨by omega, ?_⟩;refine set_own v (o.pull [_,_,_,_]) rfl (by omega) fun H o=>tt ?_
   have o : Owns H0 H ((id3,.cells 5 [iI (c.objs),.buf a (c.frm).length,.buf b (c.to).length,.buf i (c.idn.set (Int.toNat 0) v).length,.buf d (Xs).length] 0)::(a,.cells 1 ((c.frm).map iI) 0)::(b,.cells 1 ((c.to).map iI) 0)::(i,.cells 1 ((c.idn.set (Int.toNat 0) v).map iI) 0)::(d,.cells 1 (Xs) 0)::(ob++[(id,s.obj),(id4,MObj.cells 5 [.int .i64 0,.nilsl,.nilsl,.nilsl,.nilsl] 0)])):=o.pm;refine wk_cat hX o fun H o=>?_
  rotate_left 1;refine tt ?_
  have o : Owns H0 H ((id3,.cells 5 [iI (c.objs),.buf a (c.frm).length,.buf b (c.to).length,.buf i (c.idn).length,.buf d (Xs).length] 0)::(a,.cells 1 ((c.frm).map iI) 0)::(b,.cells 1 ((c.to).map iI) 0)::(i,.cells 1 ((c.idn).map iI) 0)::(d,.cells 1 (Xs) 0)::(ob++[(id,s.obj),(id4,MObj.cells 5 [.int .i64 0,.nilsl,.nilsl,.nilsl,.nilsl] 0)])):=o.pm;refine wk_cat hX o fun H o=>?_
 rotate_left 2;refine tt ?_;apply bk <;> intro q3
 focus
  refine tw q3 ?_;apply bk <;> intro g1
  focus
   have g1p:=of_decide g1
   have hf1:=hf1 (by omega)
   have hrow:=crow f (by omega);refine tt ?_;refine ⟨⟨_,_,o.tl.h0⟩,rd_cells o.tl (by simp) ?_⟩;refine tt ?_;refine ⟨by omega, ?_⟩
   have od:=o.pull [_,_,_,_,_];simp only [List.cons_append,List.nil_append] at od;refine ⟨⟨_,_,od.h0⟩,rd_cells od (by omega) ?_⟩
   obtain ⟨idr,hXr,hst⟩:=hX.row (i:=f) (by omega) (by have : (c.comp.getD f []).length=c.frm.length:=hrow; omega);rw [hXr];refine tt ?_;refine (l01Next_ok B _).goZ hs o fun r s H _ ⟨v,e,hv0,hv1,_⟩ hs o hz=>⟨hz, ?_⟩;subst e
   have hv1:=hv1 (by omega);refine tt ?_;refine (l01Next_ok B _).goZ hs o fun r s H _ ⟨v2,e,_⟩ hs o hz=>⟨hz, ?_⟩;subst e
   have hrl : (c.comp.getD f []).length=c.frm.length:=hrow;refine tt ?_;refine ⟨by omega, ?_⟩
   have od : Owns H0 H ((d,MObj.cells 1 Xs 0)::(ob++((id,s.obj)::(id3,.cells 5 [iI c.objs,.buf a c.frm.length,.buf b c.to.length,.buf i c.idn.length,.buf d Xs.length] 0)::(a,.cells 1 (c.frm.map iI) 0)::(b,.cells 1 (c.to.map iI) 0)::(i,.cells 1 (c.idn.map iI) 0)::[(id4,MObj.cells 5 [.int .i64 0,.nilsl,.nilsl,.nilsl,.nilsl] 0)]))):=o.pm;refine hst od v.toNat (by omega) _ rfl fun H ob2 hX2 o=>tt ?_
   have o : Owns H0 H ((id3,.cells 5 [iI (c.objs),.buf a (c.frm).length,.buf b (c.to).length,.buf i (c.idn).length,.buf d (Xs).length] 0)::(a,.cells 1 ((c.frm).map iI) 0)::(b,.cells 1 ((c.to).map iI) 0)::(i,.cells 1 ((c.idn).map iI) 0)::(d,.cells 1 (Xs) 0)::(ob2++[(id,s.obj),(id4,MObj.cells 5 [.int .i64 0,.nilsl,.nilsl,.nilsl,.nilsl] 0)])):=o.pm;refine wk_cat hX2 o fun H o=>?_
  rotate_left 1;refine tt ?_
  have o : Owns H0 H ((id3,.cells 5 [iI (c.objs),.buf a (c.frm).length,.buf b (c.to).length,.buf i (c.idn).length,.buf d (Xs).length] 0)::(a,.cells 1 ((c.frm).map iI) 0)::(b,.cells 1 ((c.to).map iI) 0)::(i,.cells 1 ((c.idn).map iI) 0)::(d,.cells 1 (Xs) 0)::(ob++[(id,s.obj),(id4,MObj.cells 5 [.int .i64 0,.nilsl,.nilsl,.nilsl,.nilsl] 0)])):=o.pm;refine wk_cat hX o fun H o=>?_
 rotate_left 2;refine tt ?_;apply bk <;> intro q4
 focus
  refine tw q4 ?_;apply bk <;> intro g1
  focus
   have g1p:=of_decide g1
   have hf1:=hf1 (by omega)
   have hrow:=crow f (by omega);refine tt ?_;refine ⟨⟨_,_,o.tl.h0⟩,rd_cells o.tl (by simp) ?_⟩;refine tt ?_;refine ⟨by omega, ?_⟩
   have od:=o.pull [_,_,_,_,_];simp only [List.cons_append,List.nil_append] at od;refine ⟨⟨_,_,od.h0⟩,rd_cells od (by omega) ?_⟩
   obtain ⟨idr,hXr,hst⟩:=hX.row (i:=f) (by omega) (by have : (c.comp.getD f []).length=c.frm.length:=hrow; omega);rw [hXr];refine tt ?_;refine (l01Next_ok B _).goZ hs o fun r s H _ ⟨v,e,hv0,hv1,_⟩ hs o hz=>⟨hz, ?_⟩;subst e
   have hv1:=hv1 (by omega);refine tt ?_;refine (l01Next_ok B _).goZ hs o fun r s H _ ⟨v2,e,_⟩ hs o hz=>⟨hz, ?_⟩;subst e
   have hrl : (c.comp.getD f []).length=c.frm.length:=hrow;refine tt ?_;refine ⟨by omega, ?_⟩
   have od : Owns H0 H ((d,MObj.cells 1 Xs 0)::(ob++((id,s.obj)::(id3,.cells 5 [iI c.objs,.buf a c.frm.length,.buf b c.to.length,.buf i c.idn.length,.buf d Xs.length] 0)::(a,.cells 1 (c.frm.map iI) 0)::(b,.cells 1 (c.to.map iI) 0)::(i,.cells 1 (c.idn.map iI) 0)::[(id4,MObj.cells 5 [.int .i64 0,.nilsl,.nilsl,.nilsl,.nilsl] 0)]))):=o.pm;refine hst od v.toNat (by omega) _ rfl fun H ob2 hX2 o=>tt ?_
   have o : Owns H0 H ((id3,.cells 5 [iI (c.objs),.buf a (c.frm).length,.buf b (c.to).length,.buf i (c.idn).length,.buf d (Xs).length] 0)::(a,.cells 1 ((c.frm).map iI) 0)::(b,.cells 1 ((c.to).map iI) 0)::(i,.cells 1 ((c.idn).map iI) 0)::(d,.cells 1 (Xs) 0)::(ob2++[(id,s.obj),(id4,MObj.cells 5 [.int .i64 0,.nilsl,.nilsl,.nilsl,.nilsl] 0)])):=o.pm;refine wk_cat hX2 o fun H o=>?_
  rotate_left 1;refine tt ?_
  have o : Owns H0 H ((id3,.cells 5 [iI (c.objs),.buf a (c.frm).length,.buf b (c.to).length,.buf i (c.idn).length,.buf d (Xs).length] 0)::(a,.cells 1 ((c.frm).map iI) 0)::(b,.cells 1 ((c.to).map iI) 0)::(i,.cells 1 ((c.idn).map iI) 0)::(d,.cells 1 (Xs) 0)::(ob++[(id,s.obj),(id4,MObj.cells 5 [.int .i64 0,.nilsl,.nilsl,.nilsl,.nilsl] 0)])):=o.pm;refine wk_cat hX o fun H o=>?_
 rotate_left 2;refine tt ?_;apply bk <;> intro q5
 focus
  refine tw q5 ?_;apply bk <;> intro g1
  focus
   have g1p:=of_decide g1
   have hf1:=hf1 (by omega)
   have hrow:=crow f (by omega);refine tt ?_;refine ⟨⟨_,_,o.tl.h0⟩,rd_cells o.tl (by simp) ?_⟩;refine tt ?_;refine ⟨by omega, ?_⟩
   have od:=o.pull [_,_,_,_,_];simp only [List.cons_append,List.nil_append] at od;refine ⟨⟨_,_,od.h0⟩,rd_cells od (by omega) ?_⟩
   obtain ⟨idr,hXr,hst⟩:=hX.row (i:=f) (by omega) (by have : (c.comp.getD f []).length=c.frm.length:=hrow; omega);rw [hXr];refine tt ?_;refine (l01Next_ok B _).goZ hs o fun r s H _ ⟨v,e,hv0,hv1,_⟩ hs o hz=>⟨hz, ?_⟩;subst e
   have hv1:=hv1 (by omega);refine tt ?_;refine (l01Next_ok B _).goZ hs o fun r s H _ ⟨v2,e,_⟩ hs o hz=>⟨hz, ?_⟩;subst e
   have hrl : (c.comp.getD f []).length=c.frm.length:=hrow;refine tt ?_;refine ⟨by omega, ?_⟩
   have od : Owns H0 H ((d,MObj.cells 1 Xs 0)::(ob++((id,s.obj)::(id3,.cells 5 [iI c.objs,.buf a c.frm.length,.buf b c.to.length,.buf i c.idn.length,.buf d Xs.length] 0)::(a,.cells 1 (c.frm.map iI) 0)::(b,.cells 1 (c.to.map iI) 0)::(i,.cells 1 (c.idn.map iI) 0)::[(id4,MObj.cells 5 [.int .i64 0,.nilsl,.nilsl,.nilsl,.nilsl] 0)]))):=o.pm;refine hst od v.toNat (by omega) _ rfl fun H ob2 hX2 o=>tt ?_
   have o : Owns H0 H ((id3,.cells 5 [iI (c.objs),.buf a (c.frm).length,.buf b (c.to).length,.buf i (c.idn).length,.buf d (Xs).length] 0)::(a,.cells 1 ((c.frm).map iI) 0)::(b,.cells 1 ((c.to).map iI) 0)::(i,.cells 1 ((c.idn).map iI) 0)::(d,.cells 1 (Xs) 0)::(ob2++[(id,s.obj),(id4,MObj.cells 5 [.int .i64 0,.nilsl,.nilsl,.nilsl,.nilsl] 0)])):=o.pm;refine wk_cat hX2 o fun H o=>?_
  rotate_left 1;refine tt ?_
  have o : Owns H0 H ((id3,.cells 5 [iI (c.objs),.buf a (c.frm).length,.buf b (c.to).length,.buf i (c.idn).length,.buf d (Xs).length] 0)::(a,.cells 1 ((c.frm).map iI) 0)::(b,.cells 1 ((c.to).map iI) 0)::(i,.cells 1 ((c.idn).map iI) 0)::(d,.cells 1 (Xs) 0)::(ob++[(id,s.obj),(id4,MObj.cells 5 [.int .i64 0,.nilsl,.nilsl,.nilsl,.nilsl] 0)])):=o.pm;refine wk_cat hX o fun H o=>?_
 rotate_left 2;refine tw q5 ?_;apply bk <;> intro q6
 focus
  refine tt ?_;apply bk <;> intro g1
  focus
   have g1p:=of_decide g1
   have hf1:=hf1 (by omega);refine tt ?_;refine ⟨⟨_,_,o.tl.h0⟩,rd_cells o.tl (by simp) ?_⟩;refine tt ?_;refine ⟨⟨_,_,o.tl.h0⟩,rd_cells o.tl (by simp) ?_⟩;refine tt ?_;refine (l01Next_ok B _).goZ hs o fun r s H _ ⟨v,e,_⟩ hs o hz=>⟨hz, ?_⟩;subst e;refine tt ?_;refine ⟨by omega, ?_⟩;refine set_own v (o.pull [_,_,_]) rfl (by omega) fun H o=>tt ?_
   have o : Owns H0 H ((id3,.cells 5 [iI (c.objs),.buf a (c.frm).length,.buf b (c.to.set f v).length,.buf i (c.idn).length,.buf d (Xs).length] 0)::(a,.cells 1 ((c.frm).map iI) 0)::(b,.cells 1 ((c.to.set f v).map iI) 0)::(i,.cells 1 ((c.idn).map iI) 0)::(d,.cells 1 (Xs) 0)::(ob++[(id,s.obj),(id4,MObj.cells 5 [.int .i64 0,.nilsl,.nilsl,.nilsl,.nilsl] 0)])):=o.pm;refine wk_cat hX o fun H o=>?_
  rotate_left 1;refine tt ?_
  have o : Owns H0 H ((id3,.cells 5 [iI (c.objs),.buf a (c.frm).length,.buf b (c.to).length,.buf i (c.idn).length,.buf d (Xs).length] 0)::(a,.cells 1 ((c.frm).map iI) 0)::(b,.cells 1 ((c.to).map iI) 0)::(i,.cells 1 ((c.idn).map iI) 0)::(d,.cells 1 (Xs) 0)::(ob++[(id,s.obj),(id4,MObj.cells 5 [.int .i64 0,.nilsl,.nilsl,.nilsl,.nilsl] 0)])):=o.pm;refine wk_cat hX o fun H o=>?_
 rotate_left 2;refine tt ?_
 have od : Owns H0 H ((d,MObj.cells 1 Xs 0)::(ob++((id,s.obj)::(id3,.cells 5 [iI c.objs,.buf a c.frm.length,.buf b c.to.length,.buf i c.idn.length,.buf d Xs.length] 0)::(a,.cells 1 (c.frm.map iI) 0)::(b,.cells 1 (c.to.map iI) 0)::(i,.cells 1 (c.idn.map iI) 0)::[(id4,MObj.cells 5 [.int .i64 0,.nilsl,.nilsl,.nilsl,.nilsl] 0)]))):=o.pm;refine wk_rows hX [] H od fun H o=>wkW_done ?_;simp only [List.nil_append] at o;refine tt ?_;apply bk <;> intro g1
 focus
  have g1p:=of_decide g1
  have hf1:=hf1 (by omega)
  have hrow:=crow f (by omega);refine tt ?_;refine ⟨⟨_,_,o.tl.tl.h0⟩,rd_cells o.tl.tl (by simp) ?_⟩;refine tt ?_;refine ⟨⟨_,_,o.tl.tl.h0⟩,rd_cells o.tl.tl (by simp) ?_⟩;refine tt ?_;refine ⟨by omega,⟨_,_,o.h0⟩,rd_own (f:=iL) o (by omega) ?_⟩;refine tt ?_;refine ⟨⟨by omega,by omega⟩,by omega, ?_⟩;refine set_own (f:=iL) ((c.comp.getD f default).drop (Int.toNat 1)) o rfl (by omega) fun H o=>tt ?_
  have o : Owns H0 H ((id3,.cells 5 [iI c.objs,.buf a c.frm.length,.buf b c.to.length,.buf i c.idn.length,.buf d (c.comp.set f ((c.comp.getD f default).drop (Int.toNat 1))).length] 0)::(a,.cells 1 (c.frm.map iI) 0)::(b,.cells 1 (c.to.map iI) 0)::(i,.cells 1 (c.idn.map iI) 0)::(d,.cells 1 ((c.comp.set f ((c.comp.getD f default).drop (Int.toNat 1))).map iL) 0)::[(id,s.obj),(id4,MObj.cells 5 [.int .i64 0,.nilsl,.nilsl,.nilsl,.nilsl] 0)]):=by
   rw [show Xs.length=c.comp.length from hXl] at o;exact o.pm
  refine wk_cat' o fun H o=>?_
 rotate_left 1;refine tt ?_
 have o : Owns H0 H ((id3,.cells 5 [iI c.objs,.buf a c.frm.length,.buf b c.to.length,.buf i c.idn.length,.buf d (c.comp).length] 0)::(a,.cells 1 (c.frm.map iI) 0)::(b,.cells 1 (c.to.map iI) 0)::(i,.cells 1 (c.idn.map iI) 0)::(d,.cells 1 ((c.comp).map iL) 0)::[(id,s.obj),(id4,MObj.cells 5 [.int .i64 0,.nilsl,.nilsl,.nilsl,.nilsl] 0)]):=by
  have:=hXl;rw [show Xs.length=c.comp.length from hXl] at o;exact o.pm
 refine wk_cat' o fun H o=>?_
 all_goals
  refine wkW_done ?_;refine tt ?_;refine rd_celln o (by simp [Cat.cells]) ?_;try simp only [go_sem,↓reduceIte,reduceEqDiff,reduceAdd,reduceMul,reduceLeDiff,reduceLT,Cat.cells]
  refine sw (o.pull [_,_]) fun H o=>tt ?_
  have hr2:=o.rc 5 0 (by simp);simp only [List.drop_zero] at hr2;rw [hr2];refine tt ?_;exact src_ret (anyQ _ _ _ _ _) hs (o.pull [_,_])
theorem rep_nil {α : Type} (n x : Nat) : (List.replicate n ([] : List α)).getD x default=[]:=by
 rw [List.getD_eq_getElem?_getD,List.getElem?_replicate]
 split <;> rfl
theorem PairsOk.add {sz : List Int} {PP : List (List (List Int))} (h : PairsOk sz PP) {x : Nat} (hx : x<sz.length) {a b : Int} (ha : 0≤a∧a<sz.getD x default) (hb : 0≤b∧b<sz.getD x default) :
  PairsOk sz (PP.set x (PP.getD x default++[[a,b]])):=by
 refine ⟨by rw [List.length_set]; exact h.1,fun y hy q hq=>?_⟩;rw [getD_setD _ _ (by rw [h.1]; exact hx)] at hq
 by_cases e : y=x
 ·rw [if_pos e] at hq;subst e
  rcases List.mem_append.mp hq with hq | hq
  ·exact h.2 y hy q hq
  ·rw [List.mem_singleton] at hq;subst hq;exact ⟨by simp,ha,hb⟩
 ·rw [if_neg e] at hq; exact h.2 y hy q hq
def SomeR (c : Cat) (size : Int) (r : AV) : Prop:=∃ f : SF,r=.agg f.cells∧f.shape=c∧f.acts.length≤40∧(size≤16→f.Is∧∀ y,y∈f.sizes→y≤max size 2)
theorem l19SomeQ_ok (B : Nat) (c : Cat) (hc : c.Is) (size : Int) (hsize : 0≤size∧size≤1000) : Rd B 164 [.agg c.cells,iI size] (SomeR c size):=by
 intro id s H0 H hs o;refine c164p (by simp) fun _=>?_
 have hm:=hc.1.m
 have hob:=hc.1.o;unfold s164p;refine tt ?_;refine nb o fun id6 H o=>tt ?_;refine awp_for [0,2,4,6] (G:=Src) (fun k _=>[(7,some (.int .i64 (k : Int)))]) (fun k s H=>s.Ok∧Owns H0 H [(id,s.obj),(id6,.cells 7 z7 0)]) 6 s ⟨hs,o.swap⟩ rfl ?_;clear o hs
 rintro k s H hk ⟨hs,o⟩;refine tt ?_;apply bk <;> intro h1
 ·have h1p:=of_decide h1
  have w1:=wsucc (k:=k) (by omega);refine tt ?_;refine new_list iI o fun id8 H o=>tt ?_;refine (l01Next_ok B 4).go hs o.swap fun r s H _ ⟨v,e,v0,v1,_⟩ hs o=>?_;subst e
  have hv:=v1 (by omega)
  obtain ⟨n,rfl⟩ : ∃ n : Nat,v=n:=⟨_,(Int.toNat_of_nonneg v0).symm⟩;clear v0 v1;refine tt ?_
  refine awp_while [0,2,4,6,7] (G:=Src × (Nat × List Int) × Nat) (fun g=>[(8,some (.buf g.2.1.1 g.2.1.2.length)),(9,some (.int .i64 (g.2.2 : Int)))])
   (fun m g H=>m=g.2.2∧g.1.Ok∧g.2.1.2.length+g.2.2≤3∧Owns H0 H [(id,g.1.obj),(g.2.1.1,.cells 1 (g.2.1.2.map iI) 0),(id6,.cells 7 z7 0)]) n (s,(id8,[]),n) ⟨rfl,hs,by simp; omega,o⟩ rfl ?_
  clear o hs
  rintro m ⟨s,⟨id8,os⟩,n⟩ H ⟨hmn,hs,hos,o⟩;dsimp only at hmn hs hos o;refine tt ?_;apply bk <;> intro h2
  focus
   refine tw h2 ?_;apply bk <;> intro h3
   focus
    have h2p:=of_decide h2
    have w2 : IntKind.i64.wrap ((n : Int) - 1)=((n - 1 : Nat) : Int):=by rw [wrap_i64 (by omega) (by omega)]; omega
    refine tw h3 ?_;refine (l01Next_ok B c.objs).go hs o fun r s H _ ⟨v,e,_⟩ hs o=>?_;subst e;refine tt ?_;refine app_own v o.swap rfl rfl (by simp only [maxL]; omega) fun id8 H o=>?_;refine tw w2 ?_;exact while_next (n - 1) (s,(id8,os++[v]),n - 1) (by omega) ⟨rfl,hs,by simp; omega,o.swap⟩ rfl
   refine tw h3 ?_
  rotate_left 1
  focus
   refine tw h2 ?_
  all_goals
   refine fz_own o.swap rfl fun H o=>tt ?_;refine (l19FreeQ_ok B c hc os (by omega)).go fun r _ ⟨e,hf⟩=>?_
   obtain ⟨f,hfq⟩ : ∃ f,f=freeQ c os:=⟨_,rfl⟩;rw [← hfq] at e hf;subst e;refine tt ?_;refine nb o fun id10 H o=>tt ?_;refine sw o fun H o=>tt ?_;refine ⟨⟨by omega,by simp only [maxL]; omega⟩, ?_⟩;rw [rep_one];refine newBuf_own o fun id11 H o=>tt ?_;refine (l01Next_ok B 4).go hs (o.pull [_,_]) fun r s H _ ⟨v,e,v0,v1,_⟩ hs o=>?_;subst e
   have hv:=v1 (by omega)
   obtain ⟨n,rfl⟩ : ∃ n : Nat,v=n:=⟨_,(Int.toNat_of_nonneg v0).symm⟩;clear v0 v1;refine tt ?_
   have hsl:=hf.sl
   have hzf : ∀ x,x<f.sizes.length→0≤f.sizes.getD x default∧f.sizes.getD x default≤120:=fun x hx=>hf.sz _ (mem_getD.mpr ⟨x,hx,rfl⟩)
   refine awp_while [0,2,4,6,7,10,11] (G:=Src × (List AV × List (List (List Int)) × Ob) × Nat) (fun g=>[(12,some (.int .i64 (g.2.2 : Int)))])
    (fun m g H=>m=g.2.2∧g.1.Ok∧LsR iL g.2.1.1 g.2.1.2.1 g.2.1.2.2∧PairsOk f.sizes g.2.1.2.1∧(∀ x,(g.2.1.2.1.getD x default).length+g.2.2≤3) ∧
     Owns H0 H ((id,g.1.obj)::(id11,.cells 1 g.2.1.1 0)::(g.2.1.2.2++[(id10,MObj.cells 7 f.cells 0),(id6,MObj.cells 7 z7 0)]))) n (s,(List.replicate c.objs.toNat .nilsl,List.replicate c.objs.toNat [],[]),n)
    ⟨rfl,hs,LsR.rep iL _,⟨by rw [List.length_replicate]; omega,fun x hx q hq=>by rw [show (List.replicate c.objs.toNat ([] : List (List Int))).getD x default=[] from rep_nil _ _] at hq; simp at hq⟩,fun x=>by
     rw [show (List.replicate c.objs.toNat ([] : List (List Int))).getD x default=[] from rep_nil _ _]; simp; omega,o⟩ rfl ?_
   clear o hs
   rintro m ⟨s,⟨Xs,PP,ob⟩,n⟩ H ⟨hmn,hs,hR,hPP,hPl,o⟩;dsimp only at hmn hs hR hPP hPl o
   have hXl:=hR.len
   have hPPl:=hPP.1
   have hn3 : n≤3:=by have:=hPl 0; omega
   refine tt ?_;apply bk <;> intro k2
   focus
    refine tw k2 ?_;apply bk <;> intro k3
    focus
     have k2p:=of_decide k2
     have k3p:=of_decide k3
     have w2 : IntKind.i64.wrap ((n : Int) - 1)=((n - 1 : Nat) : Int):=by rw [wrap_i64 (by omega) (by omega)]; omega
     refine tw k3 ?_;refine (l01Next_ok B c.objs).go hs o fun r s H _ ⟨x,e,x0,x1,_⟩ hs o=>?_;subst e
     have hx1:=x1 (by omega)
     obtain ⟨x,rfl⟩ : ∃ n : Nat,x=n:=⟨_,(Int.toNat_of_nonneg x0).symm⟩;clear x0 x1
     have hxl : x<f.sizes.length:=by omega
     have hzx:=hzf x hxl
     have hg10 : H.get id10=some (.cells 7 f.cells 0):=o.get (id10,_) (by simp);refine tt ?_;refine rd_get hg10 (by simp [SF.cells]) ?_;refine tt ?_;refine ⟨hxl, ?_⟩;apply bk <;> intro k4
     ·have k4p:=of_decide k4;refine tt ?_;refine ⟨by omega,⟨_,_,o.tl.h0⟩,rd_get o.tl.h0 (by omega) ?_⟩;refine tt ?_;refine ⟨⟨_,_,hg10⟩,rd_get hg10 (by simp [SF.cells]) ?_⟩;refine tt ?_;refine ⟨hxl,⟨_,_,hg10⟩,rd_get hg10 (by simp [SF.cells]) ?_⟩;refine tt ?_;refine ⟨hxl, ?_⟩;refine (l01Next_ok B _).goZ hs o fun r s H _ ⟨a,e,a0,a1,_⟩ hs o hz=>⟨hz, ?_⟩;subst e
      have ha1:=a1 (by omega);refine tt ?_;refine (l01Next_ok B _).goZ hs o fun r s H _ ⟨b,e,b0,b1,_⟩ hs o hz=>⟨hz, ?_⟩;subst e
      have hb1:=b1 (by omega);refine tt ?_
      have o : Owns H0 H ((id11,.cells 1 Xs 0)::(ob++[(id,s.obj),(id10,.cells 7 f.cells 0),(id6,.cells 7 z7 0)])):=o.pm;refine rows_app o hR (by omega) [a,b] rfl (by show (PP.getD _ default).length+1≤maxL; have:=hPl x; simp only [maxL]; omega) fun X' o' H hX1 hR o=>?_;try simp only [go_sem,↓reduceIte,reduceEqDiff,reduceAdd,reduceMul,reduceLeDiff,reduceLT,AV.cells_one hX1]
      refine ⟨by omega,st_cells o (by omega) rfl (by simp only [memcons,memnil]; exact ⟨hX1,trivial⟩) fun H o=>?_⟩;simp only [wr_cons,wr_nil] at o;refine tw w2 ?_;refine while_next (n - 1) (s,(Xs.set x X',PP.set x (PP.getD x default++[[a,b]]),o'),n - 1) (by omega) ⟨rfl,hs,hR,hPP.add hxl ⟨a0,ha1⟩ ⟨b0,hb1⟩,fun y=>?_,(by simp only [SF.cells] at o; exact o.pm)⟩ rfl
      show ((PP.set x (PP.getD x default++[[a,b]])).getD y default).length+(n - 1)≤3
      rw [getD_setD _ _ (by omega)]
      have:=hPl y
      split
      ·rename_i e; subst e; rw [List.length_append,List.length_singleton]; omega
      ·omega
     ·refine tw w2 ?_;exact while_next (n - 1) (s,(Xs,PP,ob),n - 1) (by omega) ⟨rfl,hs,hR,hPP,fun x=>by have:=hPl x; show (PP.getD x default).length+(n - 1)≤3; omega,o⟩ rfl
    refine tw k3 ?_
   rotate_left 1
   focus
    refine tw k2 ?_
   all_goals
    have o : Owns H0 H ((id11,.cells 1 Xs 0)::(ob++[(id,s.obj),(id10,.cells 7 f.cells 0),(id6,.cells 7 z7 0)])):=o.pm;refine wk_rows hR [] H o fun H o=>wkW_done ?_;rw [List.nil_append] at o
    have o : Owns H0 H ((id11,.cells 1 (PP.map iLL) 0)::[(id,s.obj),(id10,.cells 7 f.cells 0),(id6,.cells 7 z7 0)]):=o;refine tt ?_;refine fz_own (f:=iLL) o (by omega) fun H o=>tt ?_;refine rd_celln o.tl (by simp [SF.cells]) ?_;refine tt ?_;refine (l19GlueQ_ok B f c hc hf PP hPP).go fun r hfn ⟨CC,f2,e,hCl,hQ⟩=>?_;subst e
    have hfl:=fine_mL_le (hfn.agg (c:=iL f2.sizes) (by simp [SF.cells]));simp only [maxL] at hfl;clear hfn;refine tt ?_;refine st_cells o.swap (by simp [SF.cells]) (by (try simp only [go_sem]); (try simp)) (by first | (simp only [go_sem]; done) | ((try simp only [go_sem]); simp [AV.one,one_mL])) fun H o=>?_;simp only [wr_cons,wr_nil,List.set_cons_zero,List.set_cons_succ] at o;refine tt ?_;refine awp_for [0,2,4,6,7,10] (G:=Bool) (fun k b=>[(14,some (.bool b)),(15,some (.int .i64 (k : Int)))]) (fun k b H=>(b=true→∀ i : Nat,i<k→f2.sizes.getD i default≤size)∧Owns H0 H [(id10,MObj.cells 7 f2.cells 0),(id,s.obj),(id6,MObj.cells 7 z7 0)]) f2.sizes.length true ⟨fun _ i h=>absurd h (Nat.not_lt_zero i),o⟩ rfl ?_;clear o
    rintro q sm H hq ⟨hsm,o⟩
    replace o : Owns H0 H [(id10,.cells 7 f2.cells 0),(id,s.obj),(id6,.cells 7 z7 0)]:=o;refine tt ?_;refine rd_cells o (by simp [SF.cells]) ?_;refine tt ?_;apply bk <;> intro j1
    ·have j1p:=of_decide j1
     have w3:=wsucc (k:=q) (by omega);refine tt ?_
     cases sm
     ·refine tw w3 ?_;exact for_next false (by omega) ⟨fun h=>absurd h (by simp),o⟩ rfl
     ·refine tt ?_;refine rd_cells o (by simp [SF.cells]) ?_;refine tt ?_;refine ⟨j1p, ?_⟩;refine tw w3 ?_;exact for_next _ (by omega) ⟨fun h=>lt_succ_all (hsm rfl) (by simpa using h),o⟩ rfl
    ·have j1p:=of_ndecide j1;refine tt ?_
     cases sm
     ·refine tw w1 ?_;exact for_next s (by omega) ⟨hs,o.tl⟩ rfl
     ·refine tt ?_;refine rd_celln o (by simp [SF.cells]) ?_;refine tt ?_;refine sw (o.pull [_,_]) fun H o=>tt ?_
      have hr:=o.rc 7 0 (by simp);simp only [List.drop_zero] at hr;rw [hr]
      have hle : ∀ y,y∈f2.sizes→y≤size:=fun y hy=>by
       obtain ⟨i,hi,rfl⟩:=mem_getD.mp hy;exact hsm rfl i (by omega)
      have hal:=hQ.al
      have hfa:=hf.al;exact src_ret ⟨f2,rfl,hQ.sh.trans hf.sh,by omega,fun h16=>⟨QuoOk.is (os:=os) hc (by rw [← hfq]; exact hCl.toClsOk) (fun x hx=>hCl.ct x (by rw [← hCl.len]; exact hx)) (by rw [← hfq]; exact hQ) fun y hy=>by have:=hle y hy; omega,fun y hy=>by have:=hle y hy; omega⟩⟩ hs (o.pull [_,_])
 ·have h1p:=of_ndecide h1;refine tt ?_
  have hw : IntKind.i64.wrap ((if false=true then if 2 > size then 2 else size else if 2<size then 2 else size)+1)=min size 2+1:=by
   rw [if_neg (by decide)]
   split <;> rw [wrap_i64 (by omega) (by omega)] <;> omega
  rw [hw];refine (l01Next_ok B _).go hs o fun r s H _ ⟨v,e,v0,v1,_⟩ hs o=>?_;subst e
  have hv:=v1 (by omega);refine tt ?_;refine ⟨_,(l19Constant_ok B c hc.1 v ⟨v0,by omega⟩).run,tt ?_⟩;refine sw o.swap fun H o=>tt ?_
  have hr:=o.rc 7 0 (by simp);simp only [List.drop_zero] at hr;rw [hr]
  obtain ⟨w,rfl⟩ : ∃ w : Nat,v=w:=⟨_,(Int.toNat_of_nonneg v0).symm⟩
  exact src_ret ⟨constF c w,rfl,rfl,by simp [constF]; omega,fun h16=>⟨constF_is hc (by omega),fun y hy=>by
   simp only [constF,List.mem_replicate,List.mem_map] at hy; omega⟩⟩ hs o.swap
theorem l19Some_ok (B : Nat) (c : Cat) (hc : c.Is) (size : Int) (hsize : 0≤size∧size≤1000) : Rd B 164 [.agg c.cells,iI size] (AnyFc c):=fun id s H0 H hs o=>(l19SomeQ_ok B c hc size hsize id s H0 H hs o).mono fun r H' ⟨⟨f,e,h1,h2,_⟩,h⟩=>⟨⟨f,e,h1,h2⟩,h⟩
end Go.Proofs.Shf
namespace Go.Shf
open Go.AW
theorem Cat.Shape.sh {c : Cat} (h : c.Shape) : c.Sh 40:=⟨by have:=h.o; omega,h.il,h.m,h.tol,h.cl,h.row⟩
end Go.Shf
namespace Go.Proofs.Shf
open Go.AW Go.Proofs Go.Shf
theorem dTrue' (i : Decidable True) : @decide True i=true:=decide_eq_true trivial
def OFb (f : SF) (p : Ob) (X : AV) : Prop:=∃ z d Xs ob,X=.agg [iI f.shape.objs,iL f.shape.frm,iL f.shape.to,iL f.shape.idn,iLL f.shape.comp,.buf z f.sizes.length,.buf d Xs.length]∧LsR iI Xs f.acts ob ∧
 p=(z,.cells 1 (f.sizes.map iI) 0)::(d,.cells 1 Xs 0)::ob
theorem l19Own_new (B : Nat) (f : SF) : New Tryz.prog B 234 [.agg f.cells] (OFb f):=by
 refine ⟨fun H0=>c234p (by simp) fun _=>?_⟩;unfold s234p
 have o : Owns H0 H0 []:=.nil _;refine tt ?_;refine nb o fun id H o=>tt ?_;refine ⟨_,(l02Own_ok B f.shape).run,tt ?_⟩;refine New.go' (l01Own_new B f.sizes) o fun X1 p1 H ⟨z,e1,e2⟩ o hs=>⟨hs, ?_⟩;subst e1 e2;refine tt ?_;refine New.go' (l01Own2_new B f.acts) o fun X1 p1 H ⟨d,Xs,ob,e1,h,e2⟩ o hs=>⟨hs, ?_⟩;subst e1 e2;refine tt ?_
 have o : Owns H0 H ((id,MObj.cells 7 [.int .i64 0,.nilsl,.nilsl,.nilsl,.nilsl,.nilsl,.nilsl] 0)::(z,MObj.cells 1 (f.sizes.map iI) 0)::(d,MObj.cells 1 Xs 0)::ob):=o.pm;refine sw o fun H o=>tt ?_
 have hr:=o.rc 7 0 (by simp);simp only [List.drop_zero] at hr;rw [hr];exact ⟨H,.refl H,_,⟨z,d,Xs,ob,rfl,h,rfl⟩,o.tl⟩
theorem wk_sf {F : Env→Heap→Prop} {σ : Env} {H0 H : Heap} {l : Ob} {id fr : Nat} {c : Cat} {z d : Nat} {S : List Int} {Xs : List AV} {As : List (List Int)} {ob : Ob} (h : LsR iI Xs As ob)
  (o : Owns H0 H ((id,.cells 7 [iI c.objs,iL c.frm,iL c.to,iL c.idn,iLL c.comp,.buf z S.length,.buf d Xs.length] fr)::(z,.cells 1 (S.map iI) 0)::(d,.cells 1 Xs 0)::(ob++l)))
  (hk : ∀ H',Owns H0 H' ((id,.cells 7 (SF.cells ⟨c,S,As⟩) fr)::l)→wkW F σ H') : wkW F σ H:=by
 have hl:=h.len
 have od : Owns H0 H ((d,.cells 1 Xs 0)::(ob++((id,.cells 7 [iI c.objs,iL c.frm,iL c.to,iL c.idn,iLL c.comp,.buf z S.length,.buf d Xs.length] fr)::(z,.cells 1 (S.map iI) 0)::l))):=o.pm;refine wk_rows h [] H od fun H o=>?_;simp only [List.nil_append] at o;rw [hl] at o
 have o : Owns H0 H ((id,.cells 7 [iI c.objs,iL c.frm,iL c.to,iL c.idn,iLL c.comp,.buf z S.length,.buf d As.length] fr)::(z,.cells 1 (S.map iI) 0)::(d,.cells 1 (As.map iL) 0)::l):=o.pm;refine wk_cell 5 o rfl rfl fun H o=>?_;simp only [List.set_cons_zero,List.set_cons_succ] at o;refine wk_cell 6 o rfl rfl fun H o=>?_;simp only [List.set_cons_zero,List.set_cons_succ] at o;exact hk H o
@[go_sem] def bendF (id3 : Nat) (c : Cat) (z : Nat) (S : List Int) (d : Nat) (Xs : List AV) (l : Ob) : Ob :=
 (id3,.cells 7 [iI c.objs,iL c.frm,iL c.to,iL c.idn,iLL c.comp,.buf z S.length,.buf d Xs.length] 0)::(z,.cells 1 (S.map iI) 0)::(d,.cells 1 Xs 0)::l
theorem l19Bend_ok (B : Nat) (f : SF) (hc : f.shape.Shape) (hA40 : f.acts.length≤40) : Rd B 165 [.agg f.cells] AnyF:=by
 intro id s H0 H hs o
 obtain ⟨c,S,A⟩:=f;dsimp only at hA40;refine c165p (by simp) fun hfi=>?_
 have hfl:=fine_mL_le (hfi.2.1.agg (c:=iL S) (by simp [SF.cells]))
 have hfl2:=fine_mL_le (hfi.2.1.agg (c:=iLL A) (by simp [SF.cells]));simp only [maxL] at hfl hfl2;clear hfi;unfold s165p;refine tt ?_;refine nb o fun id3 H o=>tt ?_;refine nb o fun id4 H o=>tt ?_;refine rd_celln o.tl (by simp) ?_;refine tt ?_;refine New.go' (l19Own_new B ⟨c,S,A⟩) o fun X1 p1 H ⟨z,d,Xs,ob,e1,hX,e2⟩ o _=>?_;subst e1 e2
 have hXl:=hX.len;simp only at hX hXl;refine tt ?_
 have o : Owns H0 H ((id3,MObj.cells 7 [iI c.objs,iL c.frm,iL c.to,iL c.idn,iLL c.comp,iL S,iLL A] 0)::(z,.cells 1 (S.map iI) 0)::(d,.cells 1 Xs 0)::(ob++[(id,s.obj),(id4,MObj.cells 7 [.int .i64 0,.nilsl,.nilsl,.nilsl,.nilsl,.nilsl,.nilsl] 0)])):=o.pm;refine sw o fun H o=>tt ?_
 have hsrc : ∀ {H : Heap} {s : Src} {Xs : List AV} {ob : Ob} {c : Cat} {z d : Nat} {S : List Int},Owns H0 H (bendF id3 c z S d Xs (ob++[(id,s.obj),(id4,MObj.cells 7 [.int .i64 0,.nilsl,.nilsl,.nilsl,.nilsl,.nilsl,.nilsl] 0)])) →
   Owns H0 H ((id,s.obj)::bendF id3 c z S d Xs (ob++[(id4,MObj.cells 7 [.int .i64 0,.nilsl,.nilsl,.nilsl,.nilsl,.nilsl,.nilsl] 0)])):=by
  intro H s Xs ob c z d S o;unfold bendF at o ⊢;exact o.pm
 have o:=hsrc (by unfold bendF; exact o);refine (l01Next_ok B 5).go hs o fun r s H _ ⟨v,e,v0,v1,_⟩ hs o=>?_;subst e;unfold bendF at o;refine tt ?_
 have htup : ∀ {c' : Cat} {z' d' : Nat} {S' : List Int} {Xs' : List AV} {A' : List (List Int)} {ob' : Ob} {F : Env→Heap→Prop} {σ : Env} {H : Heap} {s : Src},LsR iI Xs' A' ob' →
   Owns H0 H ((id,s.obj)::bendF id3 c' z' S' d' Xs' (ob'++[(id4,MObj.cells 7 [.int .i64 0,.nilsl,.nilsl,.nilsl,.nilsl,.nilsl,.nilsl] 0)])) →
   (∀ H',Owns H0 H' ((id3,.cells 7 (SF.cells ⟨c',S',A'⟩) 0)::[(id,s.obj),(id4,MObj.cells 7 [.int .i64 0,.nilsl,.nilsl,.nilsl,.nilsl,.nilsl,.nilsl] 0)])→F σ H')→wkW F σ H:=by
  intro c' z' d' S' Xs' A' ob' F σ H s hR o hk;unfold bendF at o
  have od : Owns H0 H ((id3,.cells 7 [iI c'.objs,iL c'.frm,iL c'.to,iL c'.idn,iLL c'.comp,.buf z' S'.length,.buf d' Xs'.length] 0)::(z',.cells 1 (S'.map iI) 0)::(d',.cells 1 Xs' 0)::(ob'++[(id,s.obj),(id4,MObj.cells 7 [.int .i64 0,.nilsl,.nilsl,.nilsl,.nilsl,.nilsl,.nilsl] 0)])):=o.pm;exact wk_sf hR od fun H o=>wkW_done (hk H o)
 apply bk <;> intro h0
 focus
  refine tt ?_;refine rd_celln o.tl (by simp) ?_;refine tt ?_;refine (l02Bend_ok B 40 (by omega) c (show c.Shape from hc).sh).go hs o fun r s H _ ⟨c2,e⟩ hs o=>?_;subst e;refine tt ?_;refine sw o.swap fun H o=>?_
  have o : Owns H0 H ((id,s.obj)::bendF id3 c2 z S d Xs (ob++[(id4,MObj.cells 7 [.int .i64 0,.nilsl,.nilsl,.nilsl,.nilsl,.nilsl,.nilsl] 0)])):=by unfold bendF; exact o.swap
  refine tt ?_;refine htup hX o fun H o=>?_
 rotate_left 1
 focus
  refine tt ?_;apply bk <;> intro h1
  focus
   refine tt ?_;refine rd_cells o.tl (by simp) ?_;refine tt ?_;apply bk <;> intro h2
   focus
    have h2p:=of_decide h2;refine tt ?_
    have hg3:=o.tl.h0;simp only at hg3;refine ⟨⟨_,_,hg3⟩,rd_get hg3 (by simp) ?_⟩;refine tt ?_;refine ⟨⟨_,_,hg3⟩,rd_get hg3 (by simp) ?_⟩;refine tt ?_;refine (l01Next_ok B _).goZ hs o fun r s H _ ⟨i,e,i0,i1,_⟩ hs o hz=>⟨hz, ?_⟩;subst e
    have hi:=i1 (by omega);refine tt ?_;refine (l01Pick_ok B [-1,0,1,2,17] (by simp)).goZ hs o fun r s H _ ⟨y,e,_⟩ hs o hz=>⟨hz, ?_⟩;subst e;refine tt ?_;refine ⟨⟨i0,by omega⟩, ?_⟩;refine set_own (f:=iI) y (o.pull [_,_]) rfl (by omega) fun H o=>?_
    have o : Owns H0 H ((id,s.obj)::bendF id3 c z (S.set i.toNat y) d Xs (ob++[(id4,MObj.cells 7 [.int .i64 0,.nilsl,.nilsl,.nilsl,.nilsl,.nilsl,.nilsl] 0)])):=by unfold bendF; rw [List.length_set]; exact o.pm
    refine tt ?_;refine htup hX o fun H o=>?_
   rotate_left 1
   focus
    have o : Owns H0 H ((id,s.obj)::bendF id3 c z S d Xs (ob++[(id4,MObj.cells 7 [.int .i64 0,.nilsl,.nilsl,.nilsl,.nilsl,.nilsl,.nilsl] 0)])):=by unfold bendF; exact o
    refine tt ?_;refine htup hX o fun H o=>?_
  rotate_left 2
  focus
   have h0p:=of_ndecide h0
   have h1p:=of_ndecide h1
   have v5:=v1 (by omega)
   have c32 : decide ((3 : Int)=2)=false:=rfl
   have c42 : decide ((4 : Int)=2)=false:=rfl
   have c43 : decide ((4 : Int)=3)=false:=rfl
   obtain rfl | rfl | rfl : v=2∨v=3∨v=4:=by omega
   rotate_left 2
   focus
    try simp only [go_sem,↓reduceIte,reduceEqDiff,reduceAdd,reduceMul,reduceLeDiff,reduceLT,c42,c43,dTrue']
    refine rd_cells o.tl (by simp) ?_;refine tt ?_;refine newBuf_own o fun ide H o=>tt ?_
    have o : Owns H0 H ((d,.cells 1 Xs 0)::((ide,.cells 1 [] 0)::(id,s.obj)::(id3,.cells 7 [iI c.objs,iL c.frm,iL c.to,iL c.idn,iLL c.comp,.buf z S.length,.buf d Xs.length] 0)::(z,.cells 1 (S.map iI) 0)::(ob++[(id4,MObj.cells 7 [.int .i64 0,.nilsl,.nilsl,.nilsl,.nilsl,.nilsl,.nilsl] 0)]))):=o.pm;refine app_raw o rfl rfl rfl (by simp only [maxL]; omega) fun d H o=>tt ?_;refine sw (o.pull [_,_,_]) fun H o=>?_
    have hX2:=hX.snoc' (p:=[(ide,.cells 1 [] 0)]) (X:=.buf ide 0) (A:=[]) (.inr ⟨ide,rfl,rfl⟩)
    have o : Owns H0 H ((id,s.obj)::bendF id3 c z S d (Xs++[.buf ide 0]) ((ob++[(ide,.cells 1 [] 0)])++[(id4,MObj.cells 7 [.int .i64 0,.nilsl,.nilsl,.nilsl,.nilsl,.nilsl,.nilsl] 0)])):=by
     unfold bendF;rw [List.length_append,List.length_singleton];exact o.pm
    refine tt ?_;refine htup hX2 o fun H o=>tt ?_;refine rd_celln o (by simp [SF.cells]) ?_;refine tt ?_;refine sw (o.pull [_,_]) fun H o=>tt ?_
    have hr:=o.rc 7 0 (by simp);simp only [List.drop_zero] at hr;rw [hr];exact src_ret ⟨⟨_,_,_⟩,rfl⟩ hs (o.pull [_,_])
   all_goals
    try simp only [go_sem,↓reduceIte,reduceEqDiff,reduceAdd,reduceMul,reduceLeDiff,reduceLT,c32,dTrue']
    refine rd_cells o.tl (by simp) ?_;refine tt ?_;refine (l01Next_ok B _).go hs o fun r s H _ ⟨a,e,a0,a1,a2⟩ hs o=>?_;subst e
    obtain ⟨a,rfl⟩ : ∃ n : Nat,a=n:=⟨_,(Int.toNat_of_nonneg a0).symm⟩;clear a0 a2
    have hg3:=o.tl.h0;simp only at hg3
    have hgd : H.get d=some (.cells 1 Xs 0):=o.get (d,.cells 1 Xs 0) (by simp);refine tt ?_;refine rd_get hg3 (by simp) ?_;refine tt ?_;apply bk <;> intro k1
    focus
     have k1p:=of_decide k1
     have ha:=a1 (by omega)
     have hi : a<Xs.length:=by omega
     obtain ⟨pr,rr,_,hLs,_⟩:=hX.split a hi
     have hlr:=hLs.lenE;refine tw k1 ?_;refine rd_get hg3 (by simp) ?_;refine tt ?_;refine ⟨hi,rd_get hgd hi ?_⟩;refine tw hlr ?_;apply bk <;> intro k2
     focus
      have k2p:=of_decide k2
      obtain ⟨idr,er,hset⟩:=hX.row hi (by omega);refine tw k2 ?_;refine ⟨⟨_,_,hg3⟩,rd_get hg3 (by simp) ?_⟩;refine tt ?_;refine ⟨hi,⟨_,_,hgd⟩,rd_get hgd hi ?_⟩;refine tt ?_;refine ⟨⟨_,_,hg3⟩,rd_get hg3 (by simp) ?_⟩;refine tt ?_;refine ⟨hi,⟨_,_,hgd⟩,rd_get hgd hi ?_⟩;rw [er];refine tt ?_;refine (l01Next_ok B _).goZ hs o fun r s H _ ⟨i,e,i0,i1,_⟩ hs o hz=>⟨hz, ?_⟩;subst e
      have hi1:=i1 (by omega);refine (l01Next_ok B _).goZ hs o fun r s H _ ⟨y1,e,_⟩ hs o hz=>⟨hz, ?_⟩;subst e;refine (l01Next_ok B _).goZ hs o fun r s H _ ⟨y2,e,_⟩ hs o hz=>⟨hz, ?_⟩;subst e;refine tt ?_;refine ⟨by omega, ?_⟩
      generalize IntKind.i64.wrap (y1 - _)=y3;refine ⟨⟨i0,by omega⟩, ?_⟩
      have od : Owns H0 H ((d,.cells 1 Xs 0)::(ob++[(id,s.obj),(id3,.cells 7 [iI c.objs,iL c.frm,iL c.to,iL c.idn,iLL c.comp,.buf z S.length,.buf d Xs.length] 0),(z,.cells 1 (S.map iI) 0),(id4,MObj.cells 7 [.int .i64 0,.nilsl,.nilsl,.nilsl,.nilsl,.nilsl,.nilsl] 0)])):=o.pm;refine hset od i.toNat (by omega) y3 rfl fun H ob' hX' o=>?_
      have o : Owns H0 H ((id,s.obj)::bendF id3 c z S d Xs (ob'++[(id4,MObj.cells 7 [.int .i64 0,.nilsl,.nilsl,.nilsl,.nilsl,.nilsl,.nilsl] 0)])):=by unfold bendF; exact o.pm
      refine tt ?_;refine htup hX' o fun H o=>?_
     rotate_left 1
     focus
      refine tw k2 ?_
      have o : Owns H0 H ((id,s.obj)::bendF id3 c z S d Xs (ob++[(id4,MObj.cells 7 [.int .i64 0,.nilsl,.nilsl,.nilsl,.nilsl,.nilsl,.nilsl] 0)])):=by unfold bendF; exact o
      refine htup hX o fun H o=>?_
    rotate_left 2
    focus
     refine tw k1 ?_
     have o : Owns H0 H ((id,s.obj)::bendF id3 c z S d Xs (ob++[(id4,MObj.cells 7 [.int .i64 0,.nilsl,.nilsl,.nilsl,.nilsl,.nilsl,.nilsl] 0)])):=by unfold bendF; exact o
     refine htup hX o fun H o=>?_
 all_goals
  refine tt ?_;refine rd_celln o (by simp [SF.cells]) ?_;refine tt ?_;refine sw (o.pull [_,_]) fun H o=>tt ?_
  have hr:=o.rc 7 0 (by simp);simp only [List.drop_zero] at hr;rw [hr];exact src_ret ⟨⟨_,_,_⟩,rfl⟩ hs (o.pull [_,_])
theorem l19Draw_ok (B : Nat) (c : Cat) (size : Int) (hsize : 0≤size∧size≤1000) : Rd B 52 [.agg c.cells,iI size] AnyF:=by
 intro id s H0 H hs o;refine c52p (by simp) fun _=>?_;unfold s52p;refine tt ?_;refine nb o fun id6 H o=>tt ?_;refine (l02Is_ok B c).go fun _=>tt ?_
 by_cases hc : c.Is
 ·rw [dec_t hc];refine tt ?_;refine (l19Some_ok B c hc size hsize).go hs o.swap fun r s H _ ⟨f,e,hfc,hfa⟩ hs o=>?_;subst e;refine tt ?_;refine nb o fun id7 H o=>tt ?_;refine sw o fun H o=>tt ?_;refine (l01Next_ok B 40).go hs o.swap fun r s H _ ⟨v,e,_⟩ hs o=>?_;subst e;refine tt ?_;apply bk <;> intro h1
  ·refine tt ?_;refine rd_celln o.tl (by simp) ?_;refine tt ?_;refine (l19Bend_ok B f (by rw [hfc]; exact hc.1) hfa).go hs o fun r s H _ ⟨f2,e⟩ hs o=>?_;subst e;refine tt ?_;refine sw (o.pull [_,_]) fun H o=>tt ?_;refine wkW_done ?_
   have hr:=o.rc 7 0 (by simp);simp only [List.drop_zero] at hr;refine tt ?_;rw [hr];exact src_ret ⟨f2,rfl⟩ hs o.swap
  ·refine tt ?_;refine rd_celln o.tl (by simp) ?_;refine tt ?_;refine sw (o.pull [_,_]) fun H o=>tt ?_;refine wkW_done ?_
   have hr:=o.rc 7 0 (by simp);simp only [List.drop_zero] at hr;refine tt ?_;rw [hr];exact src_ret ⟨f,rfl⟩ hs o.swap
 ·rw [dec_f hc];refine tt ?_;refine sw o fun H o=>tt ?_;refine wk_nil 5 o rfl fun H o=>?_;simp only [List.set_cons_zero,List.set_cons_succ] at o;refine wk_nil 6 o rfl fun H o=>wkW_done ?_;simp only [List.set_cons_zero,List.set_cons_succ] at o
  have hr:=o.rc 7 0 (by simp);simp only [List.drop_zero] at hr;refine tt ?_;rw [hr];exact src_ret ⟨⟨c,[],[]⟩,rfl⟩ hs o.swap
theorem mapsI_bad (B : Nat) {f g : SF} (h : ¬ (f.Is∧g.Is)) (H0 : Heap) : CallH Tryz.prog B 9 [.agg f.cells,.agg g.cells] H0 fun r H'=>H'=H0∧r=.tup [.agg pf0.cells,iI 1]:=by
 refine c9p (by simp) fun _=>?_;unfold s9p
 have o : Owns H0 H0 []:=.nil _;refine tt ?_;refine nb o fun idR H o=>tt ?_;refine (areSetFunctors_ok B [f,g]).run.use ?_;rw [dec_f (fun hk=>h ⟨hk f (by simp),hk g (by simp)⟩)];refine tt ?_
 have o : Owns H0 H [(idR,.cells 13 z13 0)]:=o;refine st_cells o (by simp [z13]) (by (try simp only [go_sem]); (try simp)) (by first | (simp only [go_sem]; done) | ((try simp only [go_sem]); simp [AV.one,one_mL])) fun H o=>?_;unfold z13 at o;simp only [wr_cons,wr_nil,List.set_cons_zero,List.set_cons_succ] at o
 have o : Owns H0 H [(idR,.cells 13 z13 0)]:=o;refine tt ?_;refine wk_z13 o fun H o=>wkW_done ?_;refine tt ?_;rw [o.rc 13 0 (by simp [PF.cells])];refine tt ?_;exact ⟨H0,o.sub,rfl,rfl⟩
theorem mapsS_bad (B : Nat) {f g : SF} (h : ¬ (f.Is∧g.Is)) (H0 : Heap) : CallH Tryz.prog B 10 [.agg f.cells,.agg g.cells] H0 fun r H'=>H'=H0∧r=.tup [.agg pf0.cells,iI 1]:=by
 refine c10p (by simp) fun _=>?_;unfold s10p
 have o : Owns H0 H0 []:=.nil _;refine tt ?_;refine nb o fun idR H o=>tt ?_;refine (l19Is_ok B f).run.use ?_
 by_cases hf : f.Is
 case' pos =>
  rw [dec_t hf];refine tt ?_;refine (l19Is_ok B g).run.use ?_;rw [dec_f (fun hg=>h ⟨hf,hg⟩)];refine tt ?_
 case' neg =>
  rw [dec_f hf];refine tt ?_
 all_goals
  have o : Owns H0 H [(idR,.cells 13 z13 0)]:=o;refine st_cells o (by simp [z13]) (by (try simp only [go_sem]); (try simp)) (by first | (simp only [go_sem]; done) | ((try simp only [go_sem]); simp [AV.one,one_mL])) fun H o=>?_;unfold z13 at o;simp only [wr_cons,wr_nil,List.set_cons_zero,List.set_cons_succ] at o
  have o : Owns H0 H [(idR,.cells 13 z13 0)]:=o;refine tt ?_;refine wk_z13 o fun H o=>wkW_done ?_;refine tt ?_;rw [o.rc 13 0 (by simp [PF.cells])];refine tt ?_;exact ⟨H0,o.sub,rfl,rfl⟩
def TwoF (r : AV) : Prop:=∃ f g : SF,r=.tup [.agg f.cells,.agg g.cells]
theorem drawMP_ok (B : Nat) (code : List UInt8) : Rets B 8 [mL Go.AW.iB code] TwoF:=by
 intro H0;refine c8p (by simp) fun _=>?_;unfold s8p
 have o : Owns H0 H0 []:=.nil _;refine tt ?_;refine nb o fun id2 H o=>tt ?_;refine nb o fun id3 H o=>tt ?_;refine (l01From_ok B code _).mono' fun r H1 _ ⟨id,s,e,hs,o2⟩=>?_;subst e
 have o:=o.trans o2;clear o2;refine tt ?_;refine (l02Some_ok B 3 6).go hs o fun r s H _ ⟨c,e,hc⟩ hs o=>?_;subst e;refine tt ?_;refine newRef_own o fun id5 H o=>tt ?_;refine sw o fun H o=>tt ?_;refine rd_celln o (by simp) ?_;refine tt ?_;refine (l19Draw_ok B c 3 (by omega)).go hs o.swap fun r s H _ ⟨f,e⟩ hs o=>?_;subst e;refine tt ?_;refine nb o fun id6 H o=>tt ?_;refine sw o fun H o=>tt ?_;refine (l01Next_ok B 8).go hs o.swap fun r s H _ ⟨v,e,_⟩ hs o=>?_;subst e;refine tt ?_;apply bk <;> intro h1
 ·refine tt ?_
  have g5:=o.get (id5,_) (.tail _ (.tail _ (.head _)));refine ⟨⟨_,_,g5⟩,rd_getn g5 (by simp) ?_⟩;refine tt ?_;refine ⟨⟨_,_,g5⟩,rd_getn g5 (by simp) ?_⟩;refine tt ?_;refine (l19Draw_ok B c 5 (by omega)).goZ hs o fun r s H _ ⟨f1,e⟩ hs o hz=>⟨hz, ?_⟩;subst e;refine tt ?_;refine (l19Draw_ok B c 5 (by omega)).goZ hs o fun r s H _ ⟨g1,e⟩ hs o hz=>⟨hz, ?_⟩;subst e;refine tt ?_;refine sw (o.pull [_,_,_,_]) fun H o=>tt ?_;refine sw (o.pull [_,_,_,_]) fun H o=>tt ?_
  have hr3:=o.rc 7 0 (by simp)
  have hr2:=o.tl.rc 7 0 (by simp);simp only [List.drop_zero] at hr2 hr3;rw [hr2,hr3];exact rets_ret ⟨f1,g1,rfl⟩ o.sub
 refine tt ?_;refine (l01Next_ok B 3).go hs o fun r s H _ ⟨v,e,_⟩ hs o=>?_;subst e;refine tt ?_;apply bk <;> intro h2
 ·refine tt ?_
  have g6:=o.get (id6,_) (.tail _ (.head _));refine ⟨⟨_,_,g6⟩,rd_getn g6 (by simp) ?_⟩;refine tt ?_;refine (l02Some_ok B 3 6).goZ hs o fun r s H _ ⟨c2,e,_⟩ hs o hz=>⟨hz, ?_⟩;subst e;refine tt ?_;refine (l19Draw_ok B c2 3 (by omega)).goZ hs o fun r s H _ ⟨g1,e⟩ hs o hz=>⟨hz, ?_⟩;subst e;refine tt ?_;refine sw (o.pull [_,_,_,_]) fun H o=>tt ?_;refine sw (o.pull [_,_,_,_]) fun H o=>tt ?_
  have hr3:=o.rc 7 0 (by simp)
  have hr2:=o.tl.rc 7 0 (by simp);simp only [List.drop_zero] at hr2 hr3;rw [hr2,hr3];exact rets_ret ⟨f,g1,rfl⟩ o.sub
 ·refine tt ?_
  have g6:=o.get (id6,_) (.tail _ (.head _));refine ⟨⟨_,_,g6⟩,rd_getn g6 (by simp) ?_⟩;refine tt ?_
  have g5:=o.get (id5,_) (.tail _ (.tail _ (.head _)));refine ⟨⟨_,_,g5⟩,rd_getn g5 (by simp) ?_⟩;refine tt ?_;refine (l19Draw_ok B c 3 (by omega)).goZ hs o fun r s H _ ⟨g1,e⟩ hs o hz=>⟨hz, ?_⟩;subst e;refine tt ?_;refine sw (o.pull [_,_,_,_]) fun H o=>tt ?_;refine sw (o.pull [_,_,_,_]) fun H o=>tt ?_
  have hr3:=o.rc 7 0 (by simp)
  have hr2:=o.tl.rc 7 0 (by simp);simp only [List.drop_zero] at hr2 hr3;rw [hr2,hr3];exact rets_ret ⟨f,g1,rfl⟩ o.sub
end Go.Proofs.Shf
namespace Go.Shf
open Go.AW
end Go.Shf
namespace Go.Proofs.Shf
open Go.AW Go.Proofs Go.Shf
end Go.Proofs.Shf
namespace Go.Shf
open Go.AW
end Go.Shf
namespace Go.Proofs.Shf
open Go.AW Go.Proofs Go.Shf
@[go_sem] def tpO (c : Cat) (X : AV) : MObj:=.cells 6 [iI c.objs,iL c.frm,iL c.to,iL c.idn,iLL c.comp,X] 0
end Go.Proofs.Shf
namespace Go.AW
end Go.AW
namespace Go.Proofs.Shf
open Go.AW Go.Proofs Go.Shf
end Go.Proofs.Shf
