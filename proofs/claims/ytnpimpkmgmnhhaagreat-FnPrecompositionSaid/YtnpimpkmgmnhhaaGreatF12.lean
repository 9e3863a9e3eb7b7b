/- A part of a proof. -/
import Derived.Test.YtnpimpkmgmnhhaaGreatF11
set_option linter.unusedVariables false
set_option linter.unusedSimpArgs false
set_option linter.unusedSectionVars false
set_option maxRecDepth 100000
open Nat (reduceEqDiff reduceAdd reduceMul reduceLeDiff reduceLT)
namespace Go.Proofs.Shf
open Go.AW Go.Proofs Go.Shf
def z12 : List AV:=[.int .i64 0,.nilsl,.nilsl,.nilsl,.nilsl,.int .i64 0,.nilsl,.nilsl,.nilsl,.nilsl,.nilsl,.nilsl]
def SomK (c : Cat) (id : Nat) (H0 : Heap) (l : Ob) : Kont:=fun r H'=>∃ (d : Cat) (s' : Src) (p : Ob),(d.Sh 20000∧d.Shape)∧FuX c d r p∧s'.Ok∧Owns H0 H' ((id,s'.obj)::(p++l))
theorem l06Some_ok (B : Nat) {c : Cat} (hcs : c.Sh 20000) (hc : c.Shape) (mo ma : Int) (id : Nat) (s : Src) (l : Ob) (H0 H : Heap) (hs : s.Ok) (o : Owns H0 H ((id,s.obj)::l)) :
  CallH Tryz.prog B 66 [.ref id 0,.agg c.cells,iI mo,iI ma] H (SomK c id H0 l):=by
 refine c66p (by simp) fun _=>?_;unfold s66p;refine tt ?_;refine nb o fun id8 H o=>tt ?_;refine (l02Some_ok B mo ma).go hs o.swap fun r s H _ ⟨d,e,hds,hd⟩ hs o=>?_;subst e;refine tt ?_;refine newRef_own o fun id9 H o=>tt ?_;refine sw o fun H o=>?_
 have o : Owns H0 H ((id9,.cells 5 d.cells 0)::(id,s.obj)::(id8,.cells 12 z12 0)::l):=o;refine tt ?_
 have dO:=hd.o;refine cut_mp (fun σ H=>∃ s : Src,σ=[(0,some (.ref id 0)),(5,some (.ptr c.cells)),(8,some (.ref id8 0)),(9,some (.ref id9 0))]∧s.Ok∧Owns H0 H ((id,s.obj)::(id9,.cells 5 d.cells 0)::(id8,.cells 12 z12 0)::l)) ?_ ?_
 ·refine tt ?_;refine rd_celln o (by simp [Cat.cells]) ?_;refine tt ?_;refine (l06Small_ok B c d hc).go fun r _ ⟨b,e⟩=>?_;subst e
  cases b
  ·refine tt ?_;exact wkW_done ⟨s,rfl,hs,o.swap⟩
  ·refine tt ?_;refine rd_celln o (by simp [Cat.cells]) ?_;refine tt ?_;refine (l06All_ok B hc hd H).mono ?_
   rintro r H ⟨idF,ms,rfl,⟨hms,hsh⟩,o2⟩
   have o:=o.trans o2
   have o : Owns H0 H ((id,s.obj)::(idF,.cells 12 (flat (ms.map (fuB c d))) 0)::(id9,.cells 5 d.cells 0)::(id8,.cells 12 z12 0)::(inB ms++l)):=o.pm;refine tt ?_;apply bk <;> intro h1
   ·have h1p:=of_decide h1;refine tt ?_;refine (l01Next_ok B _).go hs o fun r s H _ ⟨v,e,v0,v1,_⟩ hs o=>?_;subst e
    have vl : v.toNat<ms.length:=by have:=v1 (by omega); omega
    have o : Owns H0 H ((idF,.cells 12 (flat (ms.map (fuB c d))) 0)::(id,s.obj)::(id9,.cells 5 d.cells 0)::(id8,.cells 12 z12 0)::(inB ms++l)):=o.swap;refine tt ?_;refine ⟨⟨v0,vl⟩, ?_⟩;refine rd_elA (f:=fuB c d) o vl ?_
    have hm : ms.getD v.toNat default∈ms:=mem_getD.mpr ⟨_,vl,rfl⟩
    generalize ms.getD v.toNat default=m at hm;refine tt ?_
    have o : Owns H0 H ((id8,.cells 12 z12 0)::(id,s.obj)::(idF,.cells 12 (flat (ms.map (fuB c d))) 0)::(id9,.cells 5 d.cells 0)::(inB ms++l)):=o.pm;refine st_cells o (by simp [z12]) (by (try simp only [go_sem]); (try simp)) (by first | (simp only [go_sem]; done) | ((try simp only [go_sem]); simp [AV.one,one_mL])) fun H o=>?_;unfold z12 at o;simp only [wr_cons,wr_nil,List.set_cons_zero,List.set_cons_succ] at o;refine tt ?_;rw [o.rc 12 0 (by simp)];refine tt ?_;exact ⟨H,.refl _,d,s,inB [m],⟨hds,hd⟩,⟨m,rfl,rfl,hsh m hm⟩,hs,o.subl (.cons _ (.cons_cons _ (.cons _ (.cons _ (List.Sublist.append_right (inB_mem hm) l)))))⟩
   ·refine tt ?_;exact wkW_done ⟨s,rfl,hs,o.subl (.cons_cons _ (.cons _ (.cons_cons _ (.cons_cons _ (List.sublist_append_right _ _)))))⟩
 clear o hs
 rintro σ H ⟨s,rfl,hs,o⟩
 have hself : ∀ (s : Src) (H : Heap),s.Ok→Owns H0 H ((id,s.obj)::(id9,.cells 5 d.cells 0)::(id8,.cells 12 z12 0)::l)→CallH Tryz.prog B 90 [.agg c.cells] H fun r H'=>∃ m : FB,r=fuB c c m∧m.1.2.length≤8∧Owns H0 H' ((id8,.cells 12 z12 0)::(id,s.obj)::(id9,.cells 5 d.cells 0)::(inB [m]++l)):=fun s H hs o=>by
  refine ((l06SelfN B hc).run H).mono ?_
  rintro r H' ⟨p,⟨m,rfl,rfl,hm⟩,o2⟩;exact ⟨m,rfl,hm,(o.trans o2).pm⟩
 refine tt ?_;refine rd_cells o.tl (by simp [Cat.cells]) ?_;refine tt ?_
 by_cases h1 : 0<d.objs
 ·rw [decide_eq_true h1];refine tt ?_;refine (l01Next_ok B 2).go hs o fun r s H _ ⟨v,e,_⟩ hs o=>?_;subst e;refine tt ?_;apply bk <;> intro h2
  ·refine tt ?_
   have g9:=o.get (id9,_) (.tail _ (.head _));refine ⟨⟨_,_,g9⟩,rd_getn g9 (by simp [Cat.cells]) ?_⟩;refine tt ?_;refine ⟨⟨_,_,g9⟩,rd_get g9 (by simp [Cat.cells]) ?_⟩;refine tt ?_;refine (l01Next_ok B d.objs).goZ hs o fun r s H _ ⟨y,e,y0,y1,_⟩ hs o hz=>⟨hz, ?_⟩;subst e
   have hy : d.ObR y:=⟨y0,y1 (by omega)⟩;refine tt ?_;refine ((l06ConstantN B hc hd hy).run H).mono ?_
   rintro r H' ⟨p,⟨m,rfl,rfl,hm⟩,o2⟩;refine ⟨o2.sub, ?_⟩
   have o : Owns H0 H' ((id8,.cells 12 z12 0)::(id,s.obj)::(id9,.cells 5 d.cells 0)::(inB [m]++l)):=(o.trans o2).pm;refine tt ?_;refine st_cells o (by simp [z12]) (by (try simp only [go_sem]); (try simp)) (by first | (simp only [go_sem]; done) | ((try simp only [go_sem]); simp [AV.one,one_mL])) fun H o=>?_;unfold z12 at o;simp only [wr_cons,wr_nil,List.set_cons_zero,List.set_cons_succ] at o;refine tt ?_;rw [o.rc 12 0 (by simp)];refine tt ?_;exact ⟨H,.refl _,d,s,inB [m],⟨hds,hd⟩,⟨m,rfl,rfl,hm⟩,hs,o.subl (.cons _ (.cons_cons _ (.cons _ (.refl _))))⟩
  ·refine tt ?_;refine (hself s H hs o).mono ?_;clear o
   rintro r H ⟨m,rfl,hm,o⟩;refine tt ?_;refine st_cells o (by simp [z12]) (by (try simp only [go_sem]); (try simp)) (by first | (simp only [go_sem]; done) | ((try simp only [go_sem]); simp [AV.one,one_mL])) fun H o=>?_;unfold z12 at o;simp only [wr_cons,wr_nil,List.set_cons_zero,List.set_cons_succ] at o;refine tt ?_;rw [o.rc 12 0 (by simp)];refine tt ?_;exact ⟨H,.refl _,c,s,inB [m],⟨hcs,hc⟩,⟨m,rfl,rfl,hm⟩,hs,o.subl (.cons _ (.cons_cons _ (.cons _ (.refl _))))⟩
 ·rw [decide_eq_false h1];refine tt ?_;refine (hself s H hs o).mono ?_;clear o
  rintro r H ⟨m,rfl,hm,o⟩;refine tt ?_;refine st_cells o (by simp [z12]) (by (try simp only [go_sem]); (try simp)) (by first | (simp only [go_sem]; done) | ((try simp only [go_sem]); simp [AV.one,one_mL])) fun H o=>?_;unfold z12 at o;simp only [wr_cons,wr_nil,List.set_cons_zero,List.set_cons_succ] at o;refine tt ?_;rw [o.rc 12 0 (by simp)];refine tt ?_;exact ⟨H,.refl _,c,s,inB [m],⟨hcs,hc⟩,⟨m,rfl,rfl,hm⟩,hs,o.subl (.cons _ (.cons_cons _ (.cons _ (.refl _))))⟩
def AnyFU (r : AV) : Prop:=∃ k : FU,r=.agg k.cells
theorem inB_one (m : FB) : inB [m]=[(m.1.1,.cells 1 (m.1.2.map iI) 0),(m.2.1,.cells 1 (m.2.2.map iI) 0)]:=by simp [inB]
theorem wk_fu {F : Env→Heap→Prop} {σ : Env} {H0 H : Heap} {l : Ob} {id3 : Nat} {e d : Cat} {m : FB} (o : Owns H0 H ((id3,.cells 12 (fuB e d m).cells 0)::(m.1.1,.cells 1 (m.1.2.map iI) 0)::(m.2.1,.cells 1 (m.2.2.map iI) 0)::l))
  (hk : ∀ H',Owns H0 H' ((id3,.cells 12 (FU.cells ⟨e,d,m.1.2,m.2.2⟩) 0)::l)→wkW F σ H') : wkW F σ H :=
 wk_cell (f:=iI) 10 o rfl rfl fun H o=>wk_cell (f:=iI) 11 o rfl rfl fun H o=>hk H o
def fuOb (id3 : Nat) (e d : Cat) (m : FB) (l : Ob) : Ob:=(id3,.cells 12 (fuB e d m).cells 0)::(m.1.1,.cells 1 (m.1.2.map iI) 0)::(m.2.1,.cells 1 (m.2.2.map iI) 0)::l
theorem l06Draw_ok (B : Nat) : Rd B 65 [] AnyFU:=by
 intro id s H0 H hs o;refine c65p (by simp) fun _=>?_;unfold s65p;refine tt ?_;refine nb o fun id2 H o=>tt ?_;refine (l02Some_ok B 4 10).go hs o.swap fun r s H _ ⟨c,e,hcs,hc⟩ hs o=>?_;subst e;refine tt ?_;refine (l06Some_ok B hcs hc 4 12 id s _ H0 H hs o).mono ?_;clear o hs s
 rintro r H ⟨d,s,p,⟨hds,hd⟩,⟨m,rfl,rfl,hml⟩,hs,o⟩
 have hdm:=hd.m;rw [inB_one] at o;refine tt ?_;refine nb o fun id3 H o=>tt ?_;refine sw o fun H o=>?_
 have o : Owns H0 H ((id,s.obj)::(id3,.cells 12 (fuB c d m).cells 0)::(m.1.1,.cells 1 (m.1.2.map iI) 0)::(m.2.1,.cells 1 (m.2.2.map iI) 0)::[(id2,.cells 12 z12 0)]):=o.swap;refine tt ?_;refine rd_cells o.tl (by simp [fuB,AV.cells]) ?_
 have e11 : (fuB c d m).cells.getD 11 nv=.buf m.2.1 m.2.2.length:=rfl;refine tw e11 ?_;refine cut_mp (fun σ H=>∃ (e : Cat) (m : FB) (s : Src),σ=[(2,some (.ref id2 0)),(3,some (.ref id3 0))]∧s.Ok∧Owns H0 H (fuOb id3 e d m [(id2,.cells 12 z12 0),(id,s.obj)])) ?_ ?_
 ·refine tt ?_;refine (l01Next_ok B 30).go hs o fun r s H _ ⟨v,e,_⟩ hs o=>?_;subst e;refine tt ?_;apply bk <;> intro h1
  ·refine tt ?_;refine rd_celln o.tl (by simp [fuB,AV.cells]) ?_
   have e5 : ((fuB c d m).cells.drop 0).take 5=c.cells:=rfl;refine tw e5 ?_;refine (l02Bend_ok B 20000 (by omega) c hcs).go hs o fun r s H _ ⟨c2,e⟩ hs o=>?_;subst e;refine tt ?_;refine st_cells o.swap (by simp [fuB,AV.cells]) (by (try simp only [go_sem]); (try simp)) (by first | (simp only [go_sem]; done) | ((try simp only [go_sem]); simp [AV.one,one_mL])) fun H o=>tt ?_
   have ec : wr (fuB c d m).cells 0 [iI c2.objs,iL c2.frm,iL c2.to,iL c2.idn,iLL c2.comp]=(fuB c2 d m).cells:=by simp [fuB,AV.cells,wr]
   rw [ec] at o;exact wkW_done ⟨c2,m,s,rfl,hs,by unfold fuOb; exact o.pm⟩
  refine tt ?_;apply bk <;> intro h2
  ·refine tt ?_;apply bk <;> intro h3
   ·have h3p:=of_decide h3
    have w:=wsucc (k:=d.frm.length) (by omega)
    have g3:=o.get (id3,_) (.tail _ (.head _))
    have e6 : (fuB c d m).cells.getD 6 nv=iL d.frm:=rfl;refine tt ?_;refine ⟨⟨_,_,g3⟩,rd_get g3 (by simp [fuB,AV.cells]) ?_⟩;refine tw e11 ?_;refine ⟨⟨_,_,g3⟩,rd_get g3 (by simp [fuB,AV.cells]) ?_⟩;try simp only [go_sem,↓reduceIte,reduceEqDiff,reduceAdd,reduceMul,reduceLeDiff,reduceLT,e6,w]
    refine (l01Next_ok B _).goZ hs o fun r s H _ ⟨u,e,u0,u1,_⟩ hs o hz=>⟨hz, ?_⟩;subst e
    have ul : u.toNat<m.2.2.length:=by have:=u1 (by omega); omega
    refine tt ?_;refine (l01Next_ok B _).goZ hs o fun r s H _ ⟨v2,e,_⟩ hs o hz=>⟨hz, ?_⟩;subst e;refine tt ?_
    have o : Owns H0 H ((m.2.1,.cells 1 (m.2.2.map iI) 0)::(id3,.cells 12 (fuB c d m).cells 0)::(m.1.1,.cells 1 (m.1.2.map iI) 0)::[(id2,.cells 12 z12 0),(id,s.obj)]):=o.pm;refine ⟨⟨u0,ul⟩,set_own v2 o rfl ul fun H o=>?_⟩;refine tt ?_
    have ec : (fuB c d (m.1,(m.2.1,m.2.2.set u.toNat v2))).cells=(fuB c d m).cells:=by simp [fuB,AV.cells]
    exact wkW_done ⟨c,(m.1,(m.2.1,m.2.2.set u.toNat v2)),s,rfl,hs,by unfold fuOb; rw [ec]; exact o.pm⟩
   ·refine tt ?_;exact wkW_done ⟨c,m,s,rfl,hs,by unfold fuOb; exact o.pm⟩
  ·refine tt ?_;apply bk <;> intro h3
   ·have e10 : (fuB c d m).cells.getD 10 nv=.buf m.1.1 m.1.2.length:=rfl;refine tt ?_;refine rd_cells o.tl (by simp [fuB,AV.cells]) ?_;refine tw e10 ?_
    have o : Owns H0 H ((m.1.1,.cells 1 (m.1.2.map iI) 0)::(id3,.cells 12 (fuB c d m).cells 0)::(m.2.1,.cells 1 (m.2.2.map iI) 0)::[(id2,.cells 12 z12 0),(id,s.obj)]):=o.pm;refine app_own (0 : Int) o rfl rfl (by have:=hml; simp only [maxL]; omega) fun idn H o=>tt ?_;refine st_cells o.swap (by simp [fuB,AV.cells]) (by (try simp only [go_sem]); (try simp)) (by first | (simp only [go_sem]; done) | ((try simp only [go_sem]); simp [AV.one,one_mL])) fun H o=>tt ?_
    have ec : wr (fuB c d m).cells 10 [.buf idn (m.1.2++[0]).length]=(fuB c d ((idn,m.1.2++[0]),m.2)).cells:=by simp [fuB,AV.cells,wr]
    rw [ec] at o;exact wkW_done ⟨c,((idn,m.1.2++[0]),m.2),s,rfl,hs,o⟩
   ·refine tt ?_;exact wkW_done ⟨c,m,s,rfl,hs,by unfold fuOb; exact o.pm⟩
 clear o hs
 rintro σ H ⟨e,m,s,rfl,hs,o⟩;unfold fuOb at o;refine tt ?_;refine wk_fu o fun H o=>wkW_done ?_;refine tt ?_;refine rd_celln o (by simp [FU.cells]) ?_;refine tt ?_;refine st_cells (o.pull [_]) (by simp [z12]) (by (try simp only [go_sem]); (try simp)) (by first | (simp only [go_sem]; done) | ((try simp only [go_sem]); simp [AV.one,one_mL])) fun H o=>?_;unfold z12 at o;simp only [wr_cons,wr_nil,List.set_cons_zero,List.set_cons_succ] at o;refine tt ?_;rw [o.rc 12 0 (by simp)];refine tt ?_;exact ⟨H,.refl H,⟨⟨e,d,m.1.2,m.2.2⟩,rfl⟩,s,hs,o.subl (.cons _ (.cons _ (.refl _)))⟩
end Go.Proofs.Shf
namespace Go.Shf
open Go.AW
end Go.Shf
namespace Go.Proofs.Shf
open Go.AW Go.Proofs Go.Shf
theorem l06Is_ok (B : Nat) (k : FU) : Pur Tryz.prog B 75 [.agg k.cells] (.bool (dec k.Is)):=by
 refine ⟨fun H0=>c75p (by simp) fun _=>?_⟩;unfold s75p
 have o : Owns H0 H0 []:=.nil _;refine tt ?_;refine cut_mp (fun σ H=>σ=[(1,some (.ptr k.cells)),(3,some (.ptr k.src.cells)),(4,some (.ptr k.tgt.cells))]∧H0.sub H) ?_ ?_
 ·refine tt ?_;refine ⟨?_, ?_⟩
  ·refine newRef_own o fun id6 H o=>tt ?_;refine newRef_own o fun id7 H o=>tt ?_;refine sw o.swap fun H o=>tt ?_;refine sw o.swap fun H o=>tt ?_;refine wk_ref 4 o rfl fun H o=>?_;refine wk_ref 3 o rfl fun H o=>?_;exact wk_keep [1,3,4] ⟨rfl,o.sub⟩
  ·refine newRef_own o fun id6 H o=>tt ?_;refine newRef_own o fun id7 H o=>tt ?_;refine sw o fun H o=>tt ?_;refine sw o.swap fun H o=>tt ?_;refine wk_ref 4 o rfl fun H o=>?_;refine wk_ref 3 o rfl fun H o=>?_;exact wk_keep [1,3,4] ⟨rfl,o.sub⟩
 clear o
 rintro σ H1 ⟨rfl,os⟩
 have no : ∀ {P : Prop},¬ P→AV.bool false=AV.bool (dec P):=fun h=>congrArg AV.bool (dec_f h).symm;refine tt ?_;refine (l02Is_ok B k.src).go fun _=>?_
 by_cases hs : k.src.Is
 rotate_left
 ·rw [dec_f hs];refine tt ?_;exact pure_ret (no fun q=>hs q.sI) os
 rw [dec_t hs];refine tt ?_;refine (l02Is_ok B k.tgt).go fun _=>?_
 by_cases ht : k.tgt.Is
 rotate_left
 ·rw [dec_f ht];refine tt ?_;exact pure_ret (no fun q=>ht q.tI) os
 rw [dec_t ht];refine tt ?_
 by_cases ho : (k.ob.length : Int)=k.src.objs
 rotate_left
 ·rw [decide_eq_false ho];refine tt ?_;exact pure_ret (no fun q=>ho q.fit.ol) os
 rw [decide_eq_true ho];refine tt ?_
 by_cases ha : k.ar.length=k.src.frm.length
 rotate_left
 ·rw [decide_eq_false ha];refine tt ?_;exact pure_ret (no fun q=>ha q.fit.al) os
 rw [decide_eq_true ha];refine tt ?_;refine (l01Map_ok B k.ob k.tgt.objs).go fun _=>?_
 by_cases hob : ∀ y,y∈k.ob→0≤y∧y<k.tgt.objs
 rotate_left
 ·rw [dec_f hob];refine tt ?_;exact pure_ret (no fun q=>hob q.fit.obr) os
 rw [dec_t hob];refine tt ?_;refine (l01Map_ok B k.ar (k.tgt.frm.length : Int)).go fun _=>?_
 by_cases har : ∀ y,y∈k.ar→0≤y∧y<(k.tgt.frm.length : Int)
 rotate_left
 ·rw [dec_f har];refine tt ?_;exact pure_ret (no fun q=>har q.fit.arr) os
 rw [dec_t har]
 have fit : k.Fit:=⟨ho,ha,hob,har⟩
 have sm:=hs.1.m
 have so:=hs.1.o
 have sil:=hs.1.il
 have til:=ht.1.il
 have stl:=hs.1.tol
 have ttl:=ht.1.tol
 have arI : ∀ a : Nat,a<k.src.frm.length→a<k.ar.length∧0≤k.ar.getD a default∧(k.ar.getD a default).toNat<k.tgt.frm.length:=fun a h=>by
  have hl : a<k.ar.length:=by omega
  have:=har _ (mem_getD.mpr ⟨a,hl,rfl⟩);exact ⟨hl,this.1,by omega⟩
 have obI : ∀ x : Int,k.src.ObR x→(0≤x∧x.toNat<k.ob.length)∧0≤ix k.ob x∧(ix k.ob x).toNat<k.tgt.idn.length:=fun x h=>by
  have hl : x.toNat<k.ob.length:=by have:=h.1; have:=h.2; omega
  have:=hob _ (ix_mem hl);exact ⟨⟨h.1,hl⟩,this.1,by omega⟩
 refine tt ?_;refine awp_for [1,3,4] (G:=Unit) (fun a _=>[(5,some (.int .i64 (a : Int)))]) (fun a _ H=>H=H1∧∀ i : Nat,i<a→ix k.tgt.frm (k.ar.getD i default)=ix k.ob (k.src.frm.getD i default)∧ix k.tgt.to (k.ar.getD i default)=ix k.ob (k.src.to.getD i default)) k.src.frm.length () ⟨rfl,by simp⟩ rfl ?_
 rintro a _ H hak ⟨rfl,hall⟩;refine tt ?_;apply bk <;> intro h1
 ·have h1p:=of_decide h1
  have w:=wsucc (k:=a) (by omega)
  have hao : k.src.ArR a:=⟨by omega,h1p⟩
  have ai:=arI a h1p
  have of:=(obI _ (hs.1.frO hao)).1
  have ot:=(obI _ (hs.1.toO hao)).1
  have of : 0≤k.src.frm.getD a default∧(k.src.frm.getD a default).toNat<k.ob.length:=of
  have ot : 0≤k.src.to.getD a default∧(k.src.to.getD a default).toNat<k.ob.length:=ot
  have tI : a<k.src.to.length:=by omega
  have a1 : 0≤k.ar.getD a default∧(k.ar.getD a default).toNat<k.tgt.frm.length:=ai.2
  have a2 : 0≤k.ar.getD a default∧(k.ar.getD a default).toNat<k.tgt.to.length:=⟨ai.2.1,by have:=ai.2.2; omega⟩;refine tt ?_
  (repeat (refine ⟨by first | exact ai.1 | exact a1 | exact h1p | exact of, ?_⟩))
  by_cases e1 : ix k.tgt.frm (k.ar.getD a default)=ix k.ob (k.src.frm.getD a default)
  rotate_left
  ·rw [decide_eq_false e1];refine tt ?_;exact pure_ret (no fun q=>e1 (q.laws.ends a h1p).1) os
  rw [decide_eq_true e1];refine tt ?_
  (repeat (refine ⟨by first | exact ai.1 | exact a2 | exact tI | exact ot, ?_⟩))
  by_cases e2 : ix k.tgt.to (k.ar.getD a default)=ix k.ob (k.src.to.getD a default)
  rotate_left
  ·rw [decide_eq_false e2];refine tt ?_;exact pure_ret (no fun q=>e2 (q.laws.ends a h1p).2) os
  rw [decide_eq_true e2];refine tw w ?_
  exact for_next () h1p ⟨rfl,fun i hi=>by
   rcases Nat.lt_succ_iff_lt_or_eq.mp hi with h | rfl
   ·exact hall i h
   ·exact ⟨e1,e2⟩⟩ rfl
 have h1p:=of_ndecide h1
 have ends : ∀ a : Nat,a<k.src.frm.length→ix k.tgt.frm (k.ar.getD a default)=ix k.ob (k.src.frm.getD a default)∧ix k.tgt.to (k.ar.getD a default)=ix k.ob (k.src.to.getD a default):=fun i hi=>hall i (by omega);clear h1 hall h1p hak;refine tt ?_;refine awp_for [1,3,4] (G:=Unit) (fun x _=>[(6,some (.int .i64 (x : Int)))]) (fun x _ H2=>H2=H∧∀ i : Nat,i<x→ix k.ar (k.src.idn.getD i default)=ix k.tgt.idn (k.ob.getD i default)) k.src.objs.toNat () ⟨rfl,by simp⟩ rfl ?_
 rintro x _ H hxk ⟨rfl,hall⟩;refine tt ?_;apply bk <;> intro h1
 ·have h1p:=of_decide h1
  have w:=wsucc (k:=x) (by omega)
  have hxo : k.src.ObR x:=⟨by omega,h1p⟩
  have ox:=obI _ hxo
  have ox1 : x<k.ob.length:=by have:=ox.1.2; simpa using this
  have ox2 : 0≤k.ob.getD x default∧(k.ob.getD x default).toNat<k.tgt.idn.length:=ox.2
  have xi : x<k.src.idn.length:=by omega
  have ia:=(hs.1.idArr hxo).1
  have ia2 : 0≤k.src.idn.getD x default∧(k.src.idn.getD x default).toNat<k.ar.length:=⟨ia.1,by rw [ha]; exact ia.2⟩;refine tt ?_
  (repeat (refine ⟨by first | exact xi | exact ia2 | exact ox1 | exact ox2, ?_⟩))
  by_cases e : ix k.ar (k.src.idn.getD x default)=ix k.tgt.idn (k.ob.getD x default)
  rotate_left
  ·rw [decide_eq_false e];refine tt ?_;exact pure_ret (no fun q=>e (q.laws.idn x xi)) os
  rw [decide_eq_true e];refine tw w ?_
  exact for_next () (by omega) ⟨rfl,fun i hi=>by
   rcases Nat.lt_succ_iff_lt_or_eq.mp hi with h | rfl
   ·exact hall i h
   ·exact e⟩ rfl
 have h1p:=of_ndecide h1
 have idn : ∀ i : Nat,i<k.src.idn.length→ix k.ar (k.src.idn.getD i default)=ix k.tgt.idn (k.ob.getD i default):=fun i hi=>hall i (by omega);clear h1 hall h1p hxk;refine tt ?_;refine awp_for [1,3,4] (G:=Unit) (fun a _=>[(7,some (.int .i64 (a : Int)))]) (fun a _ H2=>H2=H∧∀ i j : Nat,i<a→j<k.src.frm.length→k.src.to.getD i default=k.src.frm.getD j default→ix k.ar ((k.src.comp.getD i default).getD j default)=ix (ix k.tgt.comp (k.ar.getD i default)) (k.ar.getD j default)) k.src.frm.length () ⟨rfl,fun i j h=>by omega⟩ rfl ?_
 rintro a _ H hak ⟨rfl,hall⟩;refine tt ?_;apply bk <;> intro h1
 ·have h1p:=of_decide h1
  have w:=wsucc (k:=a) (by omega)
  have hao : k.src.ArR a:=⟨by omega,h1p⟩
  have ai:=arI a h1p
  have tI : a<k.src.to.length:=by omega
  have ci : a<k.src.comp.length:=by have:=(hs.1.coI hao).2; simpa using this
  have cj : (k.src.comp.getD a default).length=k.src.frm.length:=hs.1.coJ hao
  have ui : k.tgt.ArR (k.ar.getD a default):=ai.2
  have di:=ht.1.coI ui
  have dj : (ix k.tgt.comp (k.ar.getD a default)).length=k.tgt.frm.length:=ht.1.coJ ui;refine tt ?_;refine awp_for [1,3,4,7] (G:=Unit) (fun b _=>[(8,some (.int .i64 (b : Int)))]) (fun b _ H2=>H2=H∧∀ j : Nat,j<b→k.src.to.getD a default=k.src.frm.getD j default→ix k.ar ((k.src.comp.getD a default).getD j default)=ix (ix k.tgt.comp (k.ar.getD a default)) (k.ar.getD j default)) k.src.frm.length () ⟨rfl,fun j h=>by omega⟩ rfl ?_
  rintro b _ H hbk ⟨rfl,hall2⟩;refine tt ?_;apply bk <;> intro h2
  ·have h2p:=of_decide h2
   have w2:=wsucc (k:=b) (by omega)
   have hbo : k.src.ArR b:=⟨by omega,h2p⟩
   have bi:=arI b h2p
   have b1 : 0≤k.ar.getD b default∧(k.ar.getD b default).toNat<(ix k.tgt.comp (k.ar.getD a default)).length:=⟨bi.2.1,by rw [dj]; exact bi.2.2⟩
   have cj2 : b<(k.src.comp.getD a default).length:=by rw [cj]; exact h2p
   refine tt ?_;refine ⟨tI,h2p, ?_⟩
   by_cases e : k.src.to.getD a default=k.src.frm.getD b default
   rotate_left
   ·rw [decide_eq_false e];refine tw w2 ?_
    exact for_next () h2p ⟨rfl,fun j hj he=>by
     rcases Nat.lt_succ_iff_lt_or_eq.mp hj with h | rfl
     ·exact hall2 j h he
     ·exact absurd he e⟩ rfl
   rw [decide_eq_true e]
   have hc:=(hs.1.compEnds hao hbo e).1
   have hc2 : 0≤(k.src.comp.getD a default).getD b default∧((k.src.comp.getD a default).getD b default).toNat<k.ar.length:=⟨hc.1,by rw [ha]; exact hc.2⟩;refine tt ?_
   (repeat (refine ⟨by first | exact ci | exact cj2 | exact hc2 | exact ai.1 | exact di | exact bi.1 | exact b1, ?_⟩))
   by_cases e2 : ix k.ar ((k.src.comp.getD a default).getD b default)=ix (ix k.tgt.comp (k.ar.getD a default)) (k.ar.getD b default)
   rotate_left
   ·rw [decide_eq_false e2];refine tt ?_;exact pure_ret (no fun q=>e2 (q.laws.comp a b h1p h2p e)) os
   rw [decide_eq_true e2];refine tw w2 ?_
   exact for_next () h2p ⟨rfl,fun j hj he=>by
    rcases Nat.lt_succ_iff_lt_or_eq.mp hj with h | rfl
    ·exact hall2 j h he
    ·exact e2⟩ rfl
  ·have h2p:=of_ndecide h2;refine tw w ?_
   exact for_next () h1p ⟨rfl,fun i j hi hj he=>by
    rcases Nat.lt_succ_iff_lt_or_eq.mp hi with h | rfl
    ·exact hall i j h hj he
    ·exact hall2 j (by omega) he⟩ rfl
 ·have h1p:=of_ndecide h1;refine tt ?_;exact pure_ret (congrArg AV.bool (dec_t ⟨hs,ht,fit,ends,idn,fun i j hi hj he=>hall i j (by omega) hj he⟩).symm) os
structure TyK (c d : Cat) (ob a0 ar : List Int) : Prop where
 ty : TyA c d ob ar
 kn : ∀ i : Nat,0≤a0.getD i default→0≤ar.getD i default
theorem TyK.set {c d : Cat} {ob a0 ar : List Int} {h v : Int} (t : TyK c d ob a0 ar) (hh : c.ArR h) (hv : TyE c d ob h v) : TyK c d ob a0 (ar.set h.toNat v):=by
 refine ⟨t.ty.set hh hv,fun i hi=>?_⟩
 by_cases e : h.toNat=i
 ·subst e
  have hl : h.toNat<ar.length:=by rw [t.ty.len]; exact hh.2
  have : (ar.set h.toNat v).getD h.toNat default=v:=by simp [List.getD_eq_getElem?_getD,hl]
  rw [this]; exact hv.1.1
 ·have : (ar.set h.toNat v).getD i default=ar.getD i default:=by simp [List.getD_eq_getElem?_getD,List.getElem?_set_ne e]
  rw [this]; exact t.kn i hi
def Fn (c d : Cat) (ob ar : List Int) : Prop:=TyA c d ob ar∧∀ i : Nat,i<c.frm.length→0≤ar.getD i default
def ForceT (c d : Cat) (ob a0 : List Int) (H0 : Heap) (id : Nat) (l : Ob) : Kont:=fun r H'=>∃ (b : Bool) (ar : List Int),r=.bool b∧TyK c d ob a0 ar∧Owns H0 H' ((id,.cells 1 (ar.map iI) 0)::l)
theorem l06ForceT_ok (B : Nat) {c d : Cat} (hc : c.Shape) (hd : d.Shape) {ob a0 ar : List Int} (t : TyK c d ob a0 ar) (id : Nat) (l : Ob) (H0 H : Heap) (o : Owns H0 H ((id,.cells 1 (ar.map iI) 0)::l)) :
  CallH Tryz.prog B 246 [.agg c.cells,.agg d.cells,.buf id c.frm.length] H (ForceT c d ob a0 H0 id l):=by
 refine c246 (by simp) fun _=>?_
 have sm:=hc.m;unfold s246;refine tt ?_
 refine awp_while [2,3,4] (G:=Bool × List Int) (fun g=>[(7,some (.bool g.1))]) (fun m g H=>(m=ngs g.2+(if g.1=true then 1 else 0)∧TyK c d ob a0 g.2)∧Owns H0 H ((id,.cells 1 (g.2.map iI) 0)::l))
  (ngs ar+1) (true,ar) ⟨⟨by simp,t⟩,o⟩ rfl ?_
 clear o t ar
 rintro m ⟨more,ar⟩ H ⟨⟨hm,t⟩,o⟩;dsimp only at hm t o
 cases more
 ·refine tt ?_;exact ⟨H,.refl _,true,ar,rfl,t,o⟩
 rw [if_pos rfl] at hm;refine tt ?_
 obtain ⟨n0,hn0⟩ : ∃ n0,ngs ar=n0:=⟨_,rfl⟩;rw [hn0] at hm
 refine awp_for [2,3,4] (G:=Bool × List Int) (fun a g=>[(7,some (.bool g.1)),(8,some (.int .i64 (a : Int)))])
  (fun a g H=>(ngs g.2+(if g.1=true then 1 else 0)≤n0∧TyK c d ob a0 g.2)∧Owns H0 H ((id,.cells 1 (g.2.map iI) 0)::l)) c.frm.length (false,ar) ⟨⟨by simp [hn0],t⟩,o⟩ rfl ?_
 clear o t hn0 ar
 rintro a ⟨more,ar⟩ H ha ⟨⟨hm1,t⟩,o⟩;dsimp only at hm1 t o;refine tt ?_;apply bk <;> intro h1
 rotate_left
 ·refine tt ?_;exact while_next (ngs ar+(if more=true then 1 else 0)) (more,ar) (by omega) ⟨⟨rfl,t⟩,o⟩ rfl
 have h1p:=of_decide h1
 have w1:=wsucc (k:=a) (by omega)
 have hao : c.ArR a:=⟨by omega,h1p⟩
 have ci:=(hc.coI hao).2
 have cj : (c.comp.getD a default).length=c.frm.length:=hc.coJ hao;refine tt ?_
 refine awp_for [2,3,4,8] (G:=Bool × List Int) (fun b g=>[(7,some (.bool g.1)),(9,some (.int .i64 (b : Int)))])
  (fun b g H=>(ngs g.2+(if g.1=true then 1 else 0)≤n0∧TyK c d ob a0 g.2)∧Owns H0 H ((id,.cells 1 (g.2.map iI) 0)::l)) c.frm.length (more,ar) ⟨⟨hm1,t⟩,o⟩ rfl ?_
 clear o t hm1
 rintro b ⟨more,ar⟩ H hb ⟨⟨hm1,t⟩,o⟩;dsimp only at hm1 t o
 have hl:=t.ty.len;refine tt ?_;apply bk <;> intro h2
 rotate_left
 ·refine tw w1 ?_;exact for_next (more,ar) h1p ⟨⟨hm1,t⟩,o⟩ rfl
 have h2p:=of_decide h2
 have w2:=wsucc (k:=b) (by omega)
 have hbo : c.ArR b:=⟨by omega,h2p⟩
 have cj2 : b<(c.comp.getD a default).length:=by rw [cj]; exact h2p
 refine tt ?_;refine ⟨ci,cj2, ?_⟩
 rcases hc.comps hao hbo with ⟨hab,hho⟩ | hneg
 rotate_left
 ·have hlt : (c.comp.getD a default).getD b default<0:=by
   have e : (c.comp.getD a default).getD b default=-1:=hneg;omega
  rw [decide_eq_true hlt];refine tw w2 ?_;exact for_next (more,ar) h2p ⟨⟨hm1,t⟩,o⟩ rfl
 obtain ⟨h,hh⟩ : ∃ h : Int,(c.comp.getD a default).getD b default=h:=⟨_,rfl⟩
 have hho : c.ArR ((c.comp.getD a default).getD b default):=hho
 have hix : ix (ix c.comp a) b=h:=hh;rw [hh] at hho ⊢;rw [decide_eq_false (show ¬ h<0 by have:=hho.1; omega)];refine tt ?_;refine ⟨h1p,rd_own o (by omega) ?_⟩;refine tt ?_
 by_cases na : ar.getD a default<0
 ·rw [decide_eq_true na];refine tw w2 ?_;exact for_next (more,ar) h2p ⟨⟨hm1,t⟩,o⟩ rfl
 rw [decide_eq_false na];refine tt ?_;refine ⟨h2p,rd_own o (by omega) ?_⟩;refine tt ?_
 by_cases nb : ar.getD b default<0
 ·rw [decide_eq_true nb];refine tw w2 ?_;exact for_next (more,ar) h2p ⟨⟨hm1,t⟩,o⟩ rfl
 rw [decide_eq_false nb]
 have ta : TyE c d ob a (ar.getD a default):=(t.ty.ty a hao).resolve_left na
 have tb : TyE c d ob b (ar.getD b default):=(t.ty.ty b hbo).resolve_left nb
 have ti:=ta.comp hc hd hao hbo hab tb;rw [hix] at ti
 have di:=hd.coI ta.1
 have dj : (ix d.comp (ar.getD a default)).length=d.frm.length:=hd.coJ ta.1
 have dj2 : (ar.getD b default).toNat<(ix d.comp (ar.getD a default)).length:=by rw [dj]; exact tb.1.2
 have tb0:=tb.1.1;refine tt ?_;refine ⟨h1p,rd_own o (by omega) ?_⟩;refine tt ?_;refine ⟨di, ?_⟩;refine ⟨h2p,rd_own o (by omega) ?_⟩;refine tt ?_;refine ⟨⟨tb0,dj2⟩, ?_⟩
 obtain ⟨v,hv⟩ : ∃ v : Int,ix (ix d.comp (ar.getD a default)) (ar.getD b default)=v:=⟨_,rfl⟩;rw [hv] at ti ⊢
 have hh0:=hho.1
 have hh1 : h.toNat<ar.length:=by rw [hl]; exact hho.2
 have hh2 : h.toNat<c.frm.length:=hho.2
 have v0:=ti.1.1;refine tt ?_;refine ⟨⟨hh0,hh2⟩,rd_own o hh1 ?_⟩;refine tt ?_
 by_cases g : 0≤ar.getD h.toNat default
 ·rw [decide_eq_true g];refine tt ?_;refine ⟨⟨hh0,hh2⟩,rd_own o hh1 ?_⟩;refine tt ?_;apply bk <;> intro h3
  ·refine tt ?_;exact ⟨H,.refl _,false,ar,rfl,t,o⟩
  have h3p : ar.getD h.toNat default=v:=by simpa using h3
  have hs : ar.set h.toNat v=ar:=by
   rw [← h3p];refine List.ext_getElem (by simp) fun i q1 q2=>?_
   by_cases e : h.toNat=i
   ·subst e; simp [List.getD_eq_getElem?_getD,q2]
   ·simp [List.getElem_set,e]
  cases more
  ·refine tt ?_;refine ⟨⟨hh0,hh2⟩,rd_own o hh1 ?_⟩;refine tt ?_;rw [decide_eq_false (show ¬ ar.getD h.toNat default<0 by omega)];refine tt ?_;refine ⟨⟨hh0,hh2⟩,set_own v o rfl hh1 fun H o=>?_⟩;rw [hs] at o;refine tw w2 ?_;exact for_next (false,ar) h2p ⟨⟨hm1,t⟩,o⟩ rfl
  ·refine tt ?_;refine ⟨⟨hh0,hh2⟩,set_own v o rfl hh1 fun H o=>?_⟩;rw [hs] at o;refine tw w2 ?_;exact for_next (true,ar) h2p ⟨⟨hm1,t⟩,o⟩ rfl
 ·rw [decide_eq_false g]
  have hn:=ngs_set (v:=v) hh1 (by omega) v0
  have t2:=t.set hho ti
  cases more
  ·rw [if_neg (by simp)] at hm1;refine tt ?_;refine ⟨⟨hh0,hh2⟩,rd_own o hh1 ?_⟩;refine tt ?_;rw [decide_eq_true (show ar.getD h.toNat default<0 by omega)];refine tt ?_;refine ⟨⟨hh0,hh2⟩,set_own v o rfl hh1 fun H o=>?_⟩;refine tw w2 ?_;exact for_next (true,ar.set h.toNat v) h2p ⟨⟨by simp only [if_true]; omega,t2⟩,o⟩ rfl
  ·rw [if_pos rfl] at hm1;refine tt ?_;refine ⟨⟨hh0,hh2⟩,set_own v o rfl hh1 fun H o=>?_⟩;refine tw w2 ?_;exact for_next (true,ar.set h.toNat v) h2p ⟨⟨by simp only [if_true]; omega,t2⟩,o⟩ rfl
def ArrT (c d : Cat) (ob : List Int) (H0 : Heap) (l : Ob) : Kont:=fun r H'=>∃ (id : Nat) (out : List (List Int)),r=.buf id out.length∧(out.length≤201∧∀ a,a∈out→Fn c d ob a)∧Owns H0 H' ((id,.cells 1 (out.map iL) 0)::l)
theorem l06ArrowsT_ok (B : Nat) {c d : Cat} (hc : c.Shape) (hd : d.Shape) {ob : List Int} (hob : TyO c d ob) (l : Ob) (H0 : Heap) : ∀ (n f : Nat) (ar : List Int) (id idF : Nat) (out : List (List Int)) (H : Heap),c.frm.length - f=n→f≤c.frm.length →
  TyA c d ob ar→(∀ i : Nat,i<f→0≤ar.getD i default)→out.length≤200→(∀ a,a∈out→Fn c d ob a)→Owns H0 H ((id,.cells 1 (ar.map iI) 0)::(idF,.cells 1 (out.map iL) 0)::l) →
  CallH Tryz.prog B 219 [.agg c.cells,.agg d.cells,iL ob,.buf id c.frm.length,iI f,.buf idF out.length] H (ArrT c d ob H0 l):=by
 intro n
 induction n using Nat.strongRecOn with
 | _ n ih =>
 intro f ar id idF out H hn hf t hpos hout hfn o;refine c219p (by simp) fun _=>?_
 have sm:=hc.m
 have hl:=t.len
 have tl:=hc.tol;unfold s219p;refine tt ?_;refine fz_own (f:=iI) o hl.symm fun H o=>tt ?_;refine cut_mp (fun σ H=>∃ g : Nat,f≤g∧g≤c.frm.length∧(∀ i : Nat,i<g→0≤ar.getD i default)∧(g<c.frm.length→ar.getD g default<0)∧σ=[(2,some (iL ob)),(3,some (iL ar)),(4,some (iI g)),(5,some (.buf idF out.length)),(6,some (.ptr c.cells)),(7,some (.ptr d.cells))]∧Owns H0 H ((idF,.cells 1 (out.map iL) 0)::l)) ?_ ?_
 ·refine tt ?_;refine awp_for [2,3,5,6,7] (G:=Unit) (fun k _=>[(4,some (.int .i64 ((f+k : Nat) : Int)))]) (fun k _ H'=>H'=H∧∀ i : Nat,i<f+k→0≤ar.getD i default) (c.frm.length - f) () ⟨rfl,hpos⟩ rfl ?_
  rintro k _ H' hk ⟨rfl,hp2⟩;refine tt ?_
  by_cases h1 : f+k<ar.length
  ·have h1p:=h1;rw [decide_eq_true h1]
   have w:=wsucc (k:=f+k) (by omega);refine tt ?_;refine ⟨h1p, ?_⟩
   by_cases h2 : 0≤ar.getD (f+k) default
   ·rw [decide_eq_true h2];refine tw w ?_
    exact for_next () (by omega) ⟨rfl,fun i hi=>by
     by_cases e : i=f+k
     ·subst e; exact h2
     ·exact hp2 i (by omega)⟩ rfl
   ·rw [decide_eq_false h2];refine tt ?_;exact wkW_done ⟨f+k,by omega,by omega,hp2,fun _=>by omega,rfl,o⟩
  ·rw [decide_eq_false h1];refine tt ?_;exact wkW_done ⟨f+k,by omega,by omega,hp2,fun h=>by omega,rfl,o⟩
 clear o
 rintro σ H ⟨g,hfg,hg,hp3,hneg,rfl,o⟩;refine tt ?_;apply bk <;> intro h1
 ·have h1p:=of_decide h1;refine tt ?_;refine (l01Own_ok B ar).go fun _=>tt ?_;refine app_own (f:=iL) ar o rfl rfl (by simp only [maxL]; omega) fun idF H o=>tt ?_
  exact ⟨H,.refl _,idF,_,rfl,⟨by simp; omega,fun x hx=>by
   rcases List.mem_append.mp hx with h | h
   ·exact hfn x h
   ·obtain rfl:=List.mem_singleton.mp h;exact ⟨t,fun i hi=>hp3 i (by omega)⟩⟩,o⟩
 have h1p : g<c.frm.length:=by have:=of_ndecide h1; omega
 have hgo : c.ArR g:=⟨by omega,h1p⟩
 have w:=wsucc (k:=g) (by omega)
 have tI:=hc.toI hgo
 have f1:=hob.ob _ (hc.frO hgo)
 have t1:=hob.ob _ (hc.toO hgo)
 have fo:=hc.frO hgo
 have to:=hc.toO hgo
 have ol:=hob.len
 have i1 : 0≤ix c.frm g∧(ix c.frm g).toNat<ob.length:=⟨fo.1,by have:=fo.1; have:=fo.2; omega⟩
 have i2 : 0≤ix c.to g∧(ix c.to g).toNat<ob.length:=⟨to.1,by have:=to.1; have:=to.2; omega⟩;refine tt ?_
 (repeat (refine ⟨by first | exact h1p | exact i1 | exact i2 | exact tI.2, ?_⟩))
 refine ⟨_,(l02Hom_ok B d hd _ _).run, ?_⟩
 obtain ⟨hm,hhm⟩ : ∃ L,homC d (ix ob (c.frm.getD g default)) (ix ob (c.to.getD g default))=L:=⟨_,rfl⟩;rw [hhm]
 have hmt : ∀ v,v∈hm→TyE c d ob g v:=fun v hv=>TyE.hom (by rw [← hhm] at hv; exact hv)
 have hml : hm.length≤40:=by
  have h5:=hd.m
  have h6 : (homK d (ix ob (c.frm.getD g default)) (ix ob (c.to.getD g default)) d.frm.length).length≤d.frm.length:=homK_len _ _ _;rw [homK_full,hhm] at h6; omega
 refine tt ?_;refine awp_for [2,3,4,6,7,13] (G:=Nat × List (List Int)) (fun i g=>[(5,some (.buf g.1 g.2.length)),(14,some (.int .i64 (i : Int)))]) (fun i g H=>(g.2.length≤201∧∀ a,a∈g.2→Fn c d ob a)∧Owns H0 H ((g.1,.cells 1 (g.2.map iL) 0)::l)) hm.length (idF,out) ⟨⟨by simp only; omega,hfn⟩,o⟩ rfl ?_;clear o hout hfn
 rintro i ⟨idF,out⟩ H hi ⟨⟨hout,hfn⟩,o⟩;dsimp only at hout hfn o;refine tt ?_
 by_cases h2 : i<hm.length
 rotate_left
 ·rw [decide_eq_false h2];refine tt ?_;exact ⟨H,.refl _,idF,out,rfl,⟨hout,hfn⟩,o⟩
 have h2p : i<hm.length:=by omega
 have w2:=wsucc (k:=i) (by omega);rw [decide_eq_true h2];refine tt ?_
 by_cases h3 : (out.length : Int)≤200
 rotate_left
 ·rw [decide_eq_false h3];refine tt ?_;exact ⟨H,.refl _,idF,out,rfl,⟨hout,hfn⟩,o⟩
 rw [decide_eq_true h3];refine tt ?_;refine (l01Own_own B ar H0 H _ o).own fun idn A H o e=>?_;rw [e] at o ⊢
 have tv:=hmt _ (mem_getD.mpr ⟨i,h2p,rfl⟩)
 have ts:=t.set hgo tv;refine tw hl ?_;refine ⟨h2p, ?_⟩;refine ⟨h1p,set_own (hm.getD i default) o rfl (by omega) fun H o=>?_⟩;refine tt ?_;refine (l06ForceT_ok B hc hd (a0:=ar.set g (hm.getD i default)) ⟨ts,fun i hi=>hi⟩ idn _ H0 H o).mono ?_
 rintro r H ⟨b,ar2,rfl,t2,o⟩
 cases b
 ·refine tw w2 ?_;exact for_next (idF,out) h2p ⟨⟨hout,hfn⟩,o.tl⟩ rfl
 ·refine tw w ?_;refine (ih (c.frm.length - (g+1)) (by omega) (g+1) ar2 idn idF out H rfl (by omega) t2.ty (fun j hj=>t2.kn j ?_) (by omega) hfn o).mono ?_
  ·by_cases e : g=j
   ·subst e
    have hl2 : g<ar.length:=by omega
    have : (ar.set g (hm.getD i default)).getD g default=hm.getD i default:=by simp [List.getD_eq_getElem?_getD,hl2]
    rw [this]; exact tv.1.1
   ·have : (ar.set g (hm.getD i default)).getD j default=ar.getD j default:=by simp [List.getD_eq_getElem?_getD,List.getElem?_set_ne e]
    rw [this]; exact hp3 j (by omega)
  rintro r H ⟨idF2,out2,rfl,ho2,o⟩;refine tw w2 ?_;exact for_next (idF2,out2) h2p ⟨ho2,o⟩ rfl
def upL (n : Nat) : List Int:=(List.range n).map Int.ofNat
theorem upL_succ (n : Nat) : upL (n+1)=upL n++[(n : Int)]:=by simp [upL,List.range_succ]
theorem l06MakeP (B : Nat) (c d : Cat) (ob ar : List Int) : Pur Tryz.prog B 81 [.agg c.cells,.agg d.cells,iL ob,iL ar] (.agg (FU.cells ⟨c,d,ob,ar⟩)):=by
 refine ⟨fun H0=>c81 (by simp) fun _=>?_⟩;unfold s81
 have o : Owns H0 H0 []:=.nil _;refine tt ?_;refine nb o fun id8 H o=>tt ?_;refine ⟨_,(l02Own_ok B c).run,_,(l02Own_ok B d).run,_,(l01Own_ok B ob).run,_,(l01Own_ok B ar).run,tt ?_⟩;refine sw o fun H o=>tt ?_
 have hr:=o.rc 12 0 (by simp);simp only [List.drop_zero] at hr;rw [hr];exact pure_ret rfl o.sub
theorem l06SelfP (B : Nat) {c : Cat} (hc : c.Shape) : Pur Tryz.prog B 90 [.agg c.cells] (.agg (FU.cells ⟨c,c,upL c.objs.toNat,upL c.frm.length⟩)):=by
 refine ⟨fun H0=>c90p (by simp) fun _=>?_⟩
 have so:=hc.o
 have sm:=hc.m;unfold s90p
 have o : Owns H0 H0 []:=.nil _;refine tt ?_;refine nb o fun id6 H o=>tt ?_;refine newBuf_own o fun id7 H o=>tt ?_;refine newBuf_own o fun id8 H o=>tt ?_
 refine awp_for [1,2,4] (G:=Nat × List Int) (fun k g=>[(3,some (.buf g.1 g.2.length)),(5,some (.int .i64 (k : Int)))])
  (fun k g H=>(g.2.length=k∧g.2=upL k)∧Owns H0 H [(g.1,.cells 1 (g.2.map iI) 0),(id8,.cells 1 (([] : List Int).map iI) 0),(id6,.cells 12 [.int .i64 0,.nilsl,.nilsl,.nilsl,.nilsl,.int .i64 0,.nilsl,.nilsl,.nilsl,.nilsl,.nilsl,.nilsl] 0)]) c.objs.toNat (id7,[]) ⟨⟨rfl,rfl⟩,o.swap⟩ rfl ?_
 clear o
 rintro k ⟨id7,out⟩ H hk ⟨⟨hl,hx⟩,o⟩;dsimp only at hx hl o;refine tt ?_;apply bk <;> intro h1
 ·have h1p:=of_decide h1
  have w:=wsucc (k:=k) (by omega);refine tt ?_;refine app_own (k : Int) o rfl rfl (by simp only [maxL]; omega) fun id H o=>?_;refine tw w ?_;exact for_next (id,out++[(k : Int)]) (by omega) ⟨⟨by simp [hl],by rw [hx,← upL_succ]⟩,o⟩ rfl
 have h1p:=of_ndecide h1;clear h1;refine tt ?_
 refine awp_for [1,2,3] (G:=Nat × List Int) (fun k g=>[(4,some (.buf g.1 g.2.length)),(6,some (.int .i64 (k : Int)))])
  (fun k g H=>(g.2.length=k∧g.2=upL k)∧Owns H0 H [(g.1,.cells 1 (g.2.map iI) 0),(id7,.cells 1 (out.map iI) 0),(id6,.cells 12 [.int .i64 0,.nilsl,.nilsl,.nilsl,.nilsl,.int .i64 0,.nilsl,.nilsl,.nilsl,.nilsl,.nilsl,.nilsl] 0)]) c.frm.length (id8,[]) ⟨⟨rfl,rfl⟩,o.swap⟩ rfl ?_
 clear o
 rintro j ⟨id8,ar⟩ H hj ⟨⟨hl2,hx2⟩,o⟩;dsimp only at hx2 hl2 o;refine tt ?_;apply bk <;> intro h1
 ·have h1p:=of_decide h1
  have w:=wsucc (k:=j) (by omega);refine tt ?_;refine app_own (j : Int) o rfl rfl (by simp only [maxL]; omega) fun id H o=>?_;refine tw w ?_;exact for_next (id,ar++[(j : Int)]) (by omega) ⟨⟨by simp [hl2],by rw [hx2,← upL_succ]⟩,o⟩ rfl
 have h2p:=of_ndecide h1;clear h1;refine tt ?_;refine fz_own o rfl fun H o=>tt ?_;refine fz_own o rfl fun H o=>tt ?_;refine (l06MakeP B c c out ar).go fun _=>tt ?_;refine sw o fun H o=>tt ?_
 have hr:=o.rc 12 0 (by simp);simp only [List.drop_zero] at hr;rw [hr]
 have e1 : k=c.objs.toNat:=by omega
 have e2 : j=c.frm.length:=by omega
 exact pure_ret (by rw [hx,hx2,e1,e2]; rfl) o.sub
end Go.Proofs.Shf
namespace Go.Shf
open Go.AW
noncomputable def chz (f g : FU) (A : List Int) (x : Int) : List Int:=(hom f.tgt (ix f.ob x) (ix g.ob x)).filter fun b=>dec (FitZ f g A x b)
def FitA (f g : FU) (N : List Int) (x : Int) (a : Nat) : Prop:=(f.src.frm.getD a default=x∨f.src.to.getD a default=x)→0≤ix N (f.src.frm.getD a default)→0≤ix N (f.src.to.getD a default)→SqA f g N a
theorem fitZ_iff {f g : FU} {A : List Int} {x b : Int} : FitZ f g A x b↔∀ a : Nat,a<f.src.frm.length→FitA f g (A.set x.toNat b) x a:=by
 constructor
 ·intro h a ha q h1 h2;exact h (a : Int) _ _ (ar_nat ha) q h1 h2
 ·intro h a u v k q h1 h2
  have:=h a.toNat k.r.2;rw [FitA,show f.src.frm.getD a.toNat default=u from k.s,show f.src.to.getD a.toNat default=v from k.t] at this
  have w:=this q h1 h2;rw [SqA,show f.src.frm.getD a.toNat default=u from k.s,show f.src.to.getD a.toNat default=v from k.t] at w;exact w
theorem filter_take {α : Type} [Inhabited α] {p : α→Bool} {L : List α} {k : Nat} (h : k<L.length) : (L.take (k+1)).filter p=(L.take k).filter p++if p (L.getD k default) then [L.getD k default] else []:=by
 have e : L.getD k default=L[k]:=by simp [List.getD_eq_getElem?_getD,h]
 rw [List.take_succ_eq_append_getElem h,List.filter_append,e]
 by_cases q : p L[k]=true <;> simp [List.filter,q]
@[go_sem] def stN (f g : FU) (most : Int) : List AV:=[iI f.src.objs,iL f.src.frm,iL f.src.to,iL f.src.idn,iLL f.src.comp,iI f.tgt.objs,iL f.tgt.frm,iL f.tgt.to,iL f.tgt.idn,iLL f.tgt.comp,iL f.ob,iL f.ar,
 iI g.src.objs,iL g.src.frm,iL g.src.to,iL g.src.idn,iLL g.src.comp,iI g.tgt.objs,iL g.tgt.frm,iL g.tgt.to,iL g.tgt.idn,iLL g.tgt.comp,iL g.ob,iL g.ar,.bool false,iI most]
end Go.Shf
namespace Go.Proofs.Shf
open Go.AW Go.Proofs Go.Shf
theorem FU.Is.ok {k : FU} (h : k.Is) : FuOk k:=by
 refine ⟨h.sI.1,h.tI.1,⟨h.fit.ol,fun x hx=>?_⟩,⟨⟨h.fit.al,fun a ha=>.inr ?_⟩,fun i hi=>?_⟩⟩
 ·exact h.obA hx
 ·have:=h.arA (a:=a) (x:=ix k.src.frm a) (y:=ix k.src.to a) ⟨ha,rfl,rfl⟩;exact ⟨this.r,this.s,this.t⟩
 ·exact (h.fit.arr _ (mem_getD.mpr ⟨i,by have:=h.fit.al; omega,rfl⟩)).1
theorem l07Square_ok (B : Nat) {f g : FU} (hf : FuOk f) (hg : FuOk g) (e1 : f.src=g.src) (e2 : f.tgt=g.tgt) {t : List Int} (hl : t.length=f.src.objs.toNat) {a : Nat} (ha : a<f.src.frm.length)
  (r3 : f.tgt.ArR (ix t (f.src.to.getD a default))) (r4 : f.tgt.ArR (ix t (f.src.frm.getD a default))) : Pur Tryz.prog B 271 [.agg f.cells,.agg g.cells,iL t,iI (a : Int)] (.bool (dec (SqA f g t a))):=by
 refine ⟨fun H0=>c271p (by simp) fun _=>?_⟩;unfold s271p
 have o : Owns H0 H0 []:=.nil _
 have hfa:=hf.a.1.len
 have hga:=hg.a.1.len;rw [← e1] at hga
 have htl:=hf.s.tol
 have hy:=hf.s.to _ (mem_getD.mpr ⟨a,(by omega : a<f.src.to.length),rfl⟩)
 have hx:=hf.s.frm _ (mem_getD.mpr ⟨a,ha,rfl⟩)
 have r1 : f.tgt.ArR (f.ar.getD a default):=(hf.a.ar (a:=(a : Int)) ⟨by omega,ha⟩).1
 have r2 : g.tgt.ArR (g.ar.getD a default):=(hg.a.ar (a:=(a : Int)) ⟨by omega,by rw [← e1]; exact ha⟩).1;rw [← e2] at r2
 have cl:=hf.t.cl
 have row : ∀ z : Int,0≤z∧z.toNat<f.tgt.frm.length→(ix f.tgt.comp z).length=f.tgt.frm.length:=fun z hz=>hf.t.row' hz.2
 have w1:=row _ r1
 have w4:=row _ r4;refine tt ?_;refine cut_at (fun σ H=>∃ i7 i8,σ=[(2,some (iL t)),(3,some (iI (a : Int))),(4,some (.ptr f.cells)),(5,some (.ptr g.cells)),(9,some (.ref i7 0)),(10,some (.ref i8 0))]∧Owns H0 H [(i7,.cells 5 f.src.cells 0),(i8,.cells 5 f.tgt.cells 0)]) ?_ ?_
 ·refine tt ?_;refine ⟨?_, ?_⟩
  ·refine newRef_own o fun i7 H o=>tt ?_;refine newRef_own o fun i8 H o=>tt ?_;refine sw o.swap fun H o=>tt ?_;refine sw o.swap fun H o=>tt ?_;exact wkW_done ⟨i7,i8,rfl,o.swap⟩
  ·refine newRef_own o fun i8 H o=>tt ?_;refine newRef_own o fun i7 H o=>tt ?_;refine sw o fun H o=>tt ?_;refine sw o.swap fun H o=>tt ?_;exact wkW_done ⟨i7,i8,rfl,o.swap⟩
 clear o
 rintro σ H ⟨i7,i8,rfl,o⟩;refine tt ?_;refine wk_ref 9 o rfl fun H o=>wk_ref 10 o rfl fun H o=>wkW_done ?_
 have hsb:=o.sub;clear o;refine tt ?_;refine ⟨by omega,⟨r1.1,by have:=r1.2; omega⟩,by omega,⟨hy.1,by omega⟩,⟨r3.1,by have:=r3.2; omega⟩,ha,⟨hx.1,by omega⟩,⟨r4.1,by have:=r4.2; omega⟩,by omega,⟨r2.1,by have:=r2.2; omega⟩,tt ?_⟩;exact pure_ret (congrArg AV.bool (dec_of Iff.rfl)) hsb
theorem chz_len {f g : FU} {A : List Int} {x : Int} : (chz f g A x).length≤f.tgt.frm.length:=by
 refine Nat.le_trans (List.length_filter_le _ _) ?_;rw [hom_homC]; exact homC_len _ _
theorem l07Choices_ok (B : Nat) {f g : FU} (hf : FuOk f) (hg : FuOk g) (e1 : f.src=g.src) (e2 : f.tgt=g.tgt) {A : List Int} (hA : A.length=f.src.objs.toNat) (hR : ∀ y,0≤y∧y<f.src.objs→ix A y<0∨f.tgt.ArR (ix A y))
  {x : Int} (hx : 0≤x∧x<f.src.objs) (most : Int) (id : Nat) : Pur Tryz.prog B 262 [.dual (stN f g most) id,iL A,iI x] (iL (chz f g A x)):=by
 refine ⟨fun H0=>c262p (by simp) fun _=>?_⟩;unfold s262p
 have o : Owns H0 H0 []:=.nil _
 have hfl:=hf.o.len
 have hgl:=hg.o.len;rw [← e1] at hgl
 have hal:=hf.a.1.len
 have hso:=hf.s.o
 have hsm:=hf.s.m
 have htm:=hf.t.m
 have stl:=hf.s.tol;refine tt ?_;refine cut_at (fun σ H=>∃ i7 i8,σ=[(0,some (.dual (stN f g most) id)),(1,some (iL A)),(2,some (iI x)),(7,some (.ref i7 0)),(8,some (.ref i8 0))]∧Owns H0 H [(i7,.cells 5 f.src.cells 0),(i8,.cells 5 f.tgt.cells 0)]) ?_ ?_
 ·refine tt ?_;refine ⟨?_, ?_⟩
  ·refine newRef_own o fun i7 H o=>tt ?_;refine newRef_own o fun i8 H o=>tt ?_;refine sw o.swap fun H o=>tt ?_;refine sw o.swap fun H o=>tt ?_;exact wkW_done ⟨i7,i8,rfl,o.swap⟩
  ·refine newRef_own o fun i8 H o=>tt ?_;refine newRef_own o fun i7 H o=>tt ?_;refine sw o fun H o=>tt ?_;refine sw o.swap fun H o=>tt ?_;exact wkW_done ⟨i7,i8,rfl,o.swap⟩
 clear o
 rintro σ H ⟨i7,i8,rfl,o⟩;refine tt ?_;refine wk_ref 7 o rfl fun H o=>wk_ref 8 o rfl fun H o=>wkW_done ?_
 obtain ⟨hm,hhm⟩ : ∃ L,hom f.tgt (ix f.ob x) (ix g.ob x)=L:=⟨_,rfl⟩
 have hch : chz f g A x=hm.filter fun b=>dec (FitZ f g A x b):=by rw [chz,hhm]
 have hmt : ∀ v,v∈hm→f.tgt.ArR v:=fun v hv=>by rw [← hhm] at hv; exact (ar_hom.mp hv).r
 have hml : hm.length≤40:=by
  have : (homC f.tgt (ix f.ob x) (ix g.ob x)).length≤_:=homC_len _ _;rw [← hom_homC,hhm] at this; omega
 have q0:=l02Hom_ok B f.tgt hf.t (ix f.ob x) (ix g.ob x);rw [← hom_homC,hhm] at q0;refine tt ?_;refine ⟨⟨hx.1,by omega⟩,⟨hx.1,by omega⟩,_,q0.run,tt ?_⟩;refine new_list iI o fun id10 H o=>tt ?_;refine awp_for [0,1,2,7,8,9] (G:=Nat × List Int) (fun k p=>[(10,some (.buf p.1 p.2.length)),(11,some (.int .i64 (k : Int)))]) (fun k p H=>p.2=(hm.take k).filter (fun b=>dec (FitZ f g A x b))∧Owns H0 H [(p.1,.cells 1 (p.2.map iI) 0)]) hm.length (id10,[]) ⟨by simp,o⟩ rfl ?_;clear o
 rintro k ⟨idO,out⟩ H hk ⟨hout,o⟩;dsimp only at hout o
 have hol : out.length≤k:=by
  rw [hout]; refine Nat.le_trans (List.length_filter_le _ _) ?_;rw [List.length_take]; omega
 refine tt ?_;apply bk <;> intro h1
 rotate_left
 ·have h1p:=of_ndecide h1
  have : k=hm.length:=by omega
  subst this;rw [List.take_length,← hch] at hout;subst hout;refine tt ?_;refine fz_own (f:=iI) o rfl fun H o=>tt ?_;exact pure_ret rfl o.sub
 have h1p : k<hm.length:=of_decide h1
 have w1:=wsucc (k:=k) (by omega)
 have hb:=hmt _ (mem_getD.mpr ⟨k,h1p,rfl⟩)
 have hnx:=filter_take (p:=fun b=>dec (FitZ f g A x b)) h1p
 generalize hbe : hm.getD k default=b at hb hnx;refine tt ?_;refine (l01Own_own B A H0 H _ o).own fun idn AA H o e=>?_;rw [e] at o ⊢;refine tt ?_;refine ⟨h1p,⟨hx.1,by omega⟩, ?_⟩;rw [hbe];refine set_own b o rfl (by omega) fun H o=>tt ?_
 obtain ⟨N,hN⟩ : ∃ N,A.set x.toNat b=N:=⟨_,rfl⟩
 have hNl : N.length=A.length:=by rw [← hN,List.length_set]
 have hNR : ∀ y,0≤y∧y<f.src.objs→ix N y<0∨f.tgt.ArR (ix N y):=fun y hy=>by
  rw [← hN,ix_setA ⟨hx.1,by omega⟩ hy.1]
  by_cases e : x=y
  ·rw [if_pos e]; exact .inr hb
  ·rw [if_neg e]; exact hR y hy
 rw [hN] at o;refine fz_own (f:=iI) o (by rw [hNl]) fun H o=>?_
 have hfz : FitZ f g A x b↔∀ a : Nat,a<f.src.frm.length→FitA f g N x a:=by rw [← hN]; exact fitZ_iff
 refine tt ?_;refine awp_for [0,1,2,7,8,9,10,11,12] (G:=Unit) (fun a _=>[(13,some (.bool (dec (∀ i : Nat,i<a→FitA f g N x i)))),(14,some (.int .i64 (a : Int)))]) (fun a _ H'=>H'=H) f.src.frm.length () rfl (by rw [dec_t (fun i hi=>by omega)]; rfl) ?_
 rintro a _ H' ha rfl
 have fin : (dec (∀ i : Nat,i<a→FitA f g N x i)=false∨a=f.src.frm.length)→dec (∀ i : Nat,i<a→FitA f g N x i)=dec (FitZ f g A x b):=fun q=>by
  by_cases z : FitZ f g A x b
  ·rw [dec_t z,dec_t fun i hi=>hfz.mp z i (by omega)]
  ·rw [dec_f z]
   rcases q with q | q
   ·exact q
   ·subst q; exact dec_f fun y=>z (hfz.mpr y)
 have stepT : FitA f g N x a→dec (∀ i : Nat,i<a→FitA f g N x i)=true→dec (∀ i : Nat,i<a+1→FitA f g N x i)=true:=fun h q=>dec_t fun i hi=>by
  by_cases e : i=a
  ·rw [e]; exact h
  ·exact dec_iff.mp q i (by omega)
 have stepF : ¬ FitA f g N x a→dec (∀ i : Nat,i<a+1→FitA f g N x i)=false:=fun h=>dec_f fun q=>h (q a (by omega))
 have hnF : dec (FitZ f g A x b)=false→out=(hm.take (k+1)).filter (fun b=>dec (FitZ f g A x b)):=fun q=>by rw [hnx,q,if_neg (by simp),List.append_nil,hout]
 have hnT : dec (FitZ f g A x b)=true→out++[b]=(hm.take (k+1)).filter (fun b=>dec (FitZ f g A x b)):=fun q=>by rw [hnx,q,if_pos rfl,hout]
 refine tt ?_
 cases hd : dec (∀ i : Nat,i<a→FitA f g N x i)
 ·have fe:=fin (.inl hd);rw [hd] at fe;refine tw w1 ?_;exact for_next (idO,out) h1p ⟨hnF fe.symm,o⟩ rfl
 refine tt ?_;apply bk <;> intro h2
 rotate_left
 ·have h2p:=of_ndecide h2
  have fe:=fin (.inr (by omega));rw [hd] at fe;refine tt ?_;refine ⟨h1p, ?_⟩;rw [hbe];refine app_own (f:=iI) b o rfl rfl (by simp only [maxL]; omega) fun idO H o=>?_;refine tw w1 ?_;exact for_next (idO,out++[b]) h1p ⟨hnT fe.symm,o⟩ rfl
 have h2p : a<f.src.frm.length:=by have:=of_decide h2; omega
 have w2:=wsucc (k:=a) (by omega)
 have fu:=hf.s.frm _ (mem_getD.mpr ⟨a,h2p,rfl⟩)
 have tu:=hf.s.to _ (mem_getD.mpr ⟨a,(by omega : a<f.src.to.length),rfl⟩)
 have nu:=hNR _ fu
 have nt:=hNR _ tu
 have goT : FitA f g N x a→dec (∀ i : Nat,i<a+1→FitA f g N x i)=true:=fun h=>stepT h hd
 generalize hue : f.src.frm.getD a default=u at *
 generalize hve : f.src.to.getD a default=v at *;refine tt ?_;refine ⟨h2p,by omega, ?_⟩;rw [hue,hve]
 have hFA : FitA f g N x a↔((u=x∨v=x)→0≤ix N u→0≤ix N v→SqA f g N a):=by rw [FitA,hue,hve]
 by_cases c0 : u≠x∧v≠x
 ·rw [decide_eq_false c0.1];refine tt ?_;rw [decide_eq_false c0.2];refine tw w2 ?_;refine for_next () h2p rfl ?_;rw [goT (hFA.mpr fun q=>by rcases q with q | q; exact absurd q c0.1; exact absurd q c0.2)]
 have hu2 : 0≤u∧u.toNat<N.length:=by omega
 have hv2 : 0≤v∧v.toNat<N.length:=by omega
 have q1 : f.tgt.ArR (ix N u)→f.tgt.ArR (ix N v)→Pur Tryz.prog B 271 [.agg f.cells,.agg g.cells,iL N,iI (a : Int)] (.bool (dec (SqA f g N a))):=fun y z=>l07Square_ok B hf hg e1 e2 (by omega) h2p (by rw [hve]; exact z) (by rw [hue]; exact y)
 have tail1 : u=x∨(u≠x∧v=x):=by
  by_cases c1 : u=x
  ·exact .inl c1
  ·exact .inr ⟨c1,Classical.byContradiction fun c2=>c0 ⟨c1,c2⟩⟩
 have hq : u=x∨v=x:=tail1.imp (fun h=>h) And.right;clear c0
 rcases tail1 with c1 | ⟨c1,c2⟩
 ·rw [decide_eq_true c1];refine tt ?_;refine ⟨hu2, ?_⟩
  by_cases c3 : ix N u<0
  ·rw [decide_eq_true c3];refine tw w2 ?_;refine for_next () h2p rfl ?_;rw [goT (hFA.mpr fun _ q _=>by omega)]
  rw [decide_eq_false c3];refine tt ?_;refine ⟨hv2, ?_⟩
  by_cases c4 : ix N v<0
  ·rw [decide_eq_true c4];refine tw w2 ?_;refine for_next () h2p rfl ?_;rw [goT (hFA.mpr fun _ _ q=>by omega)]
  rw [decide_eq_false c4];refine tt ?_;refine ⟨_,(q1 (nu.resolve_left c3) (nt.resolve_left c4)).run, ?_⟩;refine tw w2 ?_;refine for_next () h2p rfl ?_
  by_cases c5 : SqA f g N a
  ·rw [goT (hFA.mpr fun _ _ _=>c5),dec_t c5]
  ·rw [stepF fun q=>c5 (hFA.mp q hq (by omega) (by omega)),dec_f c5]
 ·rw [decide_eq_false c1];refine tt ?_;rw [decide_eq_true c2];refine tt ?_;refine ⟨hu2, ?_⟩
  by_cases c3 : ix N u<0
  ·rw [decide_eq_true c3];refine tw w2 ?_;refine for_next () h2p rfl ?_;rw [goT (hFA.mpr fun _ q _=>by omega)]
  rw [decide_eq_false c3];refine tt ?_;refine ⟨hv2, ?_⟩
  by_cases c4 : ix N v<0
  ·rw [decide_eq_true c4];refine tw w2 ?_;refine for_next () h2p rfl ?_;rw [goT (hFA.mpr fun _ _ q=>by omega)]
  rw [decide_eq_false c4];refine tt ?_;refine ⟨_,(q1 (nu.resolve_left c3) (nt.resolve_left c4)).run, ?_⟩;refine tw w2 ?_;refine for_next () h2p rfl ?_
  by_cases c5 : SqA f g N a
  ·rw [goT (hFA.mpr fun _ _ _=>c5),dec_t c5]
  ·rw [stepF fun q=>c5 (hFA.mp q hq (by omega) (by omega)),dec_f c5]
end Go.Proofs.Shf
