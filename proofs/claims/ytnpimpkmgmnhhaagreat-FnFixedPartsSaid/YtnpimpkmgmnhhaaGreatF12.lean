/- A part of a proof. -/
import Derived.Test.YtnpimpkmgmnhhaaGreatF11
set_option linter.unusedVariables false
set_option linter.unusedSimpArgs false
set_option linter.unusedSectionVars false
set_option maxRecDepth 100000
open Nat (reduceEqDiff reduceAdd reduceMul reduceLeDiff reduceLT)
namespace Go.Proofs.Shf
open Go.AW Go.Proofs Go.Shf
def AnyFU (r : AV) : Prop:=∃ k : FU,r=.agg k.cells
theorem inB_one (m : FB) : inB [m]=[(m.1.1,.cells 1 (m.1.2.map iI) 0),(m.2.1,.cells 1 (m.2.2.map iI) 0)]:=by simp [inB]
theorem wk_fu {F : Env→Heap→Prop} {σ : Env} {H0 H : Heap} {l : Ob} {id3 : Nat} {e d : Cat} {m : FB} (o : Owns H0 H ((id3,.cells 12 (fuB e d m).cells 0)::(m.1.1,.cells 1 (m.1.2.map iI) 0)::(m.2.1,.cells 1 (m.2.2.map iI) 0)::l))
  (hk : ∀ H',Owns H0 H' ((id3,.cells 12 (FU.cells ⟨e,d,m.1.2,m.2.2⟩) 0)::l)→wkW F σ H') : wkW F σ H :=
 wk_cell (f:=iI) 10 o rfl rfl fun H o=>wk_cell (f:=iI) 11 o rfl rfl fun H o=>hk H o
def fuOb (id3 : Nat) (e d : Cat) (m : FB) (l : Ob) : Ob:=(id3,.cells 12 (fuB e d m).cells 0)::(m.1.1,.cells 1 (m.1.2.map iI) 0)::(m.2.1,.cells 1 (m.2.2.map iI) 0)::l
theorem l06Draw_ok (B : Nat) : Rd B 65 [] AnyFU:=by
 intro id s H0 H hs o;refine c65p (by simp) fun _=>?_;unfold s65p;refine tt ?_;refine nb o fun id2 H o=>tt ?_;refine (l02Some_ok B 4 10).go hs o.swap fun r s H _ ⟨c,e,hcs,hc⟩ hs o=>?_;subst e;refine tt ?_;refine (l06Some_ok B hcs hc 4 12 id s _ H0 H hs o).mono ?_;clear o hs s
 rintro r H ⟨d,s,p,⟨hds,hd⟩,⟨m,rfl,rfl,hml⟩,hs,o⟩
 have hdm:=hd.m;rw [inB_one] at o;refine tt ?_;refine nb o fun id3 H o=>tt ?_;refine sw o fun H o=>?_
 have o : Owns H0 H ((id,s.obj)::(id3,.cells 12 (fuB c d m).cells 0)::(m.1.1,.cells 1 (m.1.2.map iI) 0)::(m.2.1,.cells 1 (m.2.2.map iI) 0)::[(id2,.cells 12 z12 0)]):=o.swap;refine tt ?_;refine rd_cells o.tl (by simp [fuB,AV.cells]) ?_
 have e11 : (fuB c d m).cells.getD 11 nv=.buf m.2.1 m.2.2.length:=rfl;refine tw e11 ?_;refine cut_mp (fun σ H=>∃ (e : Cat) (m : FB) (s : Src),σ=[(2,some (.ref id2 0)),(3,some (.ref id3 0))]∧s.Ok∧Owns H0 H (fuOb id3 e d m [(id2,.cells 12 z12 0),(id,s.obj)])) ?_ ?_
 ·refine tt ?_;refine (l01Next_ok B 30).go hs o fun r s H _ ⟨v,e,_⟩ hs o=>?_;subst e;refine tt ?_;apply bk <;> intro h1
  ·refine tt ?_;refine rd_celln o.tl (by simp [fuB,AV.cells]) ?_
   have e5 : ((fuB c d m).cells.drop 0).take 5=c.cells:=rfl;refine tw e5 ?_;refine (l02Bend_ok B 20000 (by omega) c hcs).go hs o fun r s H _ ⟨c2,e⟩ hs o=>?_;subst e;refine tt ?_;refine st_cells o.swap (by simp [fuB,AV.cells]) (by (try simp only [go_sem]); (try simp)) (by first | (simp only [go_sem]; done) | ((try simp only [go_sem]); simp [AV.one,one_mL])) fun H o=>tt ?_
   have ec : wr (fuB c d m).cells 0 [iI c2.objs,iL c2.frm,iL c2.to,iL c2.idn,iLL c2.comp]=(fuB c2 d m).cells:=by simp [fuB,AV.cells,wr]
   rw [ec] at o;exact wkW_done ⟨c2,m,s,rfl,hs,by unfold fuOb; exact o.pm⟩
  refine tt ?_;apply bk <;> intro h2
  ·refine tt ?_;apply bk <;> intro h3
   ·have h3p:=of_decide h3
    have w:=wsucc (k:=d.frm.length) (by omega)
    have g3:=o.get (id3,_) (.tail _ (.head _))
    have e6 : (fuB c d m).cells.getD 6 nv=iL d.frm:=rfl;refine tt ?_;refine ⟨⟨_,_,g3⟩,rd_get g3 (by simp [fuB,AV.cells]) ?_⟩;refine tw e11 ?_;refine ⟨⟨_,_,g3⟩,rd_get g3 (by simp [fuB,AV.cells]) ?_⟩;try simp only [go_sem,↓reduceIte,reduceEqDiff,reduceAdd,reduceMul,reduceLeDiff,reduceLT,e6,w]
    refine (l01Next_ok B _).goZ hs o fun r s H _ ⟨u,e,u0,u1,_⟩ hs o hz=>⟨hz, ?_⟩;subst e
    have ul : u.toNat<m.2.2.length:=by have:=u1 (by omega); omega
    refine tt ?_;refine (l01Next_ok B _).goZ hs o fun r s H _ ⟨v2,e,_⟩ hs o hz=>⟨hz, ?_⟩;subst e;refine tt ?_
    have o : Owns H0 H ((m.2.1,.cells 1 (m.2.2.map iI) 0)::(id3,.cells 12 (fuB c d m).cells 0)::(m.1.1,.cells 1 (m.1.2.map iI) 0)::[(id2,.cells 12 z12 0),(id,s.obj)]):=o.pm;refine ⟨⟨u0,ul⟩,set_own v2 o rfl ul fun H o=>?_⟩;refine tt ?_
    have ec : (fuB c d (m.1,(m.2.1,m.2.2.set u.toNat v2))).cells=(fuB c d m).cells:=by simp [fuB,AV.cells]
    exact wkW_done ⟨c,(m.1,(m.2.1,m.2.2.set u.toNat v2)),s,rfl,hs,by unfold fuOb; rw [ec]; exact o.pm⟩
   ·refine tt ?_;exact wkW_done ⟨c,m,s,rfl,hs,by unfold fuOb; exact o.pm⟩
  ·refine tt ?_;apply bk <;> intro h3
   ·have e10 : (fuB c d m).cells.getD 10 nv=.buf m.1.1 m.1.2.length:=rfl;refine tt ?_;refine rd_cells o.tl (by simp [fuB,AV.cells]) ?_;refine tw e10 ?_
    have o : Owns H0 H ((m.1.1,.cells 1 (m.1.2.map iI) 0)::(id3,.cells 12 (fuB c d m).cells 0)::(m.2.1,.cells 1 (m.2.2.map iI) 0)::[(id2,.cells 12 z12 0),(id,s.obj)]):=o.pm;refine app_own (0 : Int) o rfl rfl (by have:=hml; simp only [maxL]; omega) fun idn H o=>tt ?_;refine st_cells o.swap (by simp [fuB,AV.cells]) (by (try simp only [go_sem]); (try simp)) (by first | (simp only [go_sem]; done) | ((try simp only [go_sem]); simp [AV.one,one_mL])) fun H o=>tt ?_
    have ec : wr (fuB c d m).cells 10 [.buf idn (m.1.2++[0]).length]=(fuB c d ((idn,m.1.2++[0]),m.2)).cells:=by simp [fuB,AV.cells,wr]
    rw [ec] at o;exact wkW_done ⟨c,((idn,m.1.2++[0]),m.2),s,rfl,hs,o⟩
   ·refine tt ?_;exact wkW_done ⟨c,m,s,rfl,hs,by unfold fuOb; exact o.pm⟩
 clear o hs
 rintro σ H ⟨e,m,s,rfl,hs,o⟩;unfold fuOb at o;refine tt ?_;refine wk_fu o fun H o=>wkW_done ?_;refine tt ?_;refine rd_celln o (by simp [FU.cells]) ?_;refine tt ?_;refine st_cells (o.pull [_]) (by simp [z12]) (by (try simp only [go_sem]); (try simp)) (by first | (simp only [go_sem]; done) | ((try simp only [go_sem]); simp [AV.one,one_mL])) fun H o=>?_;unfold z12 at o;simp only [wr_cons,wr_nil,List.set_cons_zero,List.set_cons_succ] at o;refine tt ?_;rw [o.rc 12 0 (by simp)];refine tt ?_;exact ⟨H,.refl H,⟨⟨e,d,m.1.2,m.2.2⟩,rfl⟩,s,hs,o.subl (.cons _ (.cons _ (.refl _)))⟩
theorem l02Then_t (B : Nat) {c : Cat} (hc : c.Shape) {a b : Int} (ha : c.ArR a) (hb : c.ArR b) : Pur Tryz.prog B 132 [.agg c.cells,iI a,iI b] (iI (ix (ix c.comp a) b)):=by
 refine ⟨fun H0=>c132 (by simp) fun _=>?_⟩
 have ci:=hc.coI ha
 have cj : (ix c.comp a).length=c.frm.length:=hc.coJ ha
 have cj2 : 0≤b∧b.toNat<(ix c.comp a).length:=⟨hb.1,by rw [cj]; exact hb.2⟩;unfold s132;refine tt ?_;refine ⟨ci,cj2, ?_⟩;exact pure_ret rfl (.refl _)
theorem l09Column_ok (B : Nat) (L : List (List Int)) (i : Nat) (hL : ∀ l,l∈L→i<l.length) (hl : L.length≤1000000) : Pur Tryz.prog B 117 [iLL L,iI i] (iL (L.map fun l=>l.getD i default)):=by
 refine ⟨fun H0=>c117 (by simp) fun _=>?_⟩;unfold s117
 have o : Owns H0 H0 []:=.nil _;refine tt ?_;refine new_list iI o fun id H o=>tt ?_;refine awp_for [0,1] (G:=Nat × List Int) (fun n g=>[(5,some (.buf g.1 g.2.length)),(6,some (.int .i64 (n : Int)))]) (fun n g H=>g.2=(L.take n).map (fun l=>l.getD i default)∧Owns H0 H [(g.1,.cells 1 (g.2.map iI) 0)]) L.length (id,[]) ⟨by simp,o⟩ rfl ?_;clear o
 rintro n ⟨id,out⟩ H hn ⟨hout,o⟩;dsimp only at hout o;refine tt ?_;apply bk <;> intro h1
 ·have h1p:=of_decide h1
  have w:=wsucc (k:=n) (by omega)
  have hb:=hL _ (mem_getD.mpr ⟨n,h1p,rfl⟩);refine tt ?_;refine ⟨h1p,hb, ?_⟩;refine app_own ((L.getD n default).getD i default) o rfl rfl (by rw [hout,List.length_map,List.length_take]; simp only [maxL]; omega) fun id H o=>?_;refine tw w ?_;exact for_next (id,out++[(L.getD n default).getD i default]) h1p ⟨by rw [hout,take_succ' _ h1p,List.map_append]; rfl,o⟩ rfl
 ·have h1p:=of_ndecide h1;refine tt ?_;refine fz_own o rfl fun H o=>tt ?_;exact pure_ret (by rw [hout,List.take_of_length_le (by omega)]) o.sub
end Go.Proofs.Shf
namespace Go.Shf
open Go.AW
end Go.Shf
namespace Go.Proofs.Shf
open Go.AW Go.Proofs Go.Shf
theorem l06Is_ok (B : Nat) (k : FU) : Pur Tryz.prog B 75 [.agg k.cells] (.bool (dec k.Is)):=by
 refine ⟨fun H0=>c75p (by simp) fun _=>?_⟩;unfold s75p
 have o : Owns H0 H0 []:=.nil _;refine tt ?_;refine cut_mp (fun σ H=>σ=[(1,some (.ptr k.cells)),(3,some (.ptr k.src.cells)),(4,some (.ptr k.tgt.cells))]∧H0.sub H) ?_ ?_
 ·refine tt ?_;refine ⟨?_, ?_⟩
  ·refine newRef_own o fun id6 H o=>tt ?_;refine newRef_own o fun id7 H o=>tt ?_;refine sw o.swap fun H o=>tt ?_;refine sw o.swap fun H o=>tt ?_;refine wk_ref 4 o rfl fun H o=>?_;refine wk_ref 3 o rfl fun H o=>?_;exact wk_keep [1,3,4] ⟨rfl,o.sub⟩
  ·refine newRef_own o fun id6 H o=>tt ?_;refine newRef_own o fun id7 H o=>tt ?_;refine sw o fun H o=>tt ?_;refine sw o.swap fun H o=>tt ?_;refine wk_ref 4 o rfl fun H o=>?_;refine wk_ref 3 o rfl fun H o=>?_;exact wk_keep [1,3,4] ⟨rfl,o.sub⟩
 clear o
 rintro σ H1 ⟨rfl,os⟩
 have no : ∀ {P : Prop},¬ P→AV.bool false=AV.bool (dec P):=fun h=>congrArg AV.bool (dec_f h).symm;refine tt ?_;refine (l02Is_ok B k.src).go fun _=>?_
 by_cases hs : k.src.Is
 rotate_left
 ·rw [dec_f hs];refine tt ?_;exact pure_ret (no fun q=>hs q.sI) os
 rw [dec_t hs];refine tt ?_;refine (l02Is_ok B k.tgt).go fun _=>?_
 by_cases ht : k.tgt.Is
 rotate_left
 ·rw [dec_f ht];refine tt ?_;exact pure_ret (no fun q=>ht q.tI) os
 rw [dec_t ht];refine tt ?_
 by_cases ho : (k.ob.length : Int)=k.src.objs
 rotate_left
 ·rw [decide_eq_false ho];refine tt ?_;exact pure_ret (no fun q=>ho q.fit.ol) os
 rw [decide_eq_true ho];refine tt ?_
 by_cases ha : k.ar.length=k.src.frm.length
 rotate_left
 ·rw [decide_eq_false ha];refine tt ?_;exact pure_ret (no fun q=>ha q.fit.al) os
 rw [decide_eq_true ha];refine tt ?_;refine (l01Map_ok B k.ob k.tgt.objs).go fun _=>?_
 by_cases hob : ∀ y,y∈k.ob→0≤y∧y<k.tgt.objs
 rotate_left
 ·rw [dec_f hob];refine tt ?_;exact pure_ret (no fun q=>hob q.fit.obr) os
 rw [dec_t hob];refine tt ?_;refine (l01Map_ok B k.ar (k.tgt.frm.length : Int)).go fun _=>?_
 by_cases har : ∀ y,y∈k.ar→0≤y∧y<(k.tgt.frm.length : Int)
 rotate_left
 ·rw [dec_f har];refine tt ?_;exact pure_ret (no fun q=>har q.fit.arr) os
 rw [dec_t har]
 have fit : k.Fit:=⟨ho,ha,hob,har⟩
 have sm:=hs.1.m
 have so:=hs.1.o
 have sil:=hs.1.il
 have til:=ht.1.il
 have stl:=hs.1.tol
 have ttl:=ht.1.tol
 have arI : ∀ a : Nat,a<k.src.frm.length→a<k.ar.length∧0≤k.ar.getD a default∧(k.ar.getD a default).toNat<k.tgt.frm.length:=fun a h=>by
  have hl : a<k.ar.length:=by omega
  have:=har _ (mem_getD.mpr ⟨a,hl,rfl⟩);exact ⟨hl,this.1,by omega⟩
 have obI : ∀ x : Int,k.src.ObR x→(0≤x∧x.toNat<k.ob.length)∧0≤ix k.ob x∧(ix k.ob x).toNat<k.tgt.idn.length:=fun x h=>by
  have hl : x.toNat<k.ob.length:=by have:=h.1; have:=h.2; omega
  have:=hob _ (ix_mem hl);exact ⟨⟨h.1,hl⟩,this.1,by omega⟩
 refine tt ?_;refine awp_for [1,3,4] (G:=Unit) (fun a _=>[(5,some (.int .i64 (a : Int)))]) (fun a _ H=>H=H1∧∀ i : Nat,i<a→ix k.tgt.frm (k.ar.getD i default)=ix k.ob (k.src.frm.getD i default)∧ix k.tgt.to (k.ar.getD i default)=ix k.ob (k.src.to.getD i default)) k.src.frm.length () ⟨rfl,by simp⟩ rfl ?_
 rintro a _ H hak ⟨rfl,hall⟩;refine tt ?_;apply bk <;> intro h1
 ·have h1p:=of_decide h1
  have w:=wsucc (k:=a) (by omega)
  have hao : k.src.ArR a:=⟨by omega,h1p⟩
  have ai:=arI a h1p
  have of:=(obI _ (hs.1.frO hao)).1
  have ot:=(obI _ (hs.1.toO hao)).1
  have of : 0≤k.src.frm.getD a default∧(k.src.frm.getD a default).toNat<k.ob.length:=of
  have ot : 0≤k.src.to.getD a default∧(k.src.to.getD a default).toNat<k.ob.length:=ot
  have tI : a<k.src.to.length:=by omega
  have a1 : 0≤k.ar.getD a default∧(k.ar.getD a default).toNat<k.tgt.frm.length:=ai.2
  have a2 : 0≤k.ar.getD a default∧(k.ar.getD a default).toNat<k.tgt.to.length:=⟨ai.2.1,by have:=ai.2.2; omega⟩;refine tt ?_
  (repeat (refine ⟨by first | exact ai.1 | exact a1 | exact h1p | exact of, ?_⟩))
  by_cases e1 : ix k.tgt.frm (k.ar.getD a default)=ix k.ob (k.src.frm.getD a default)
  rotate_left
  ·rw [decide_eq_false e1];refine tt ?_;exact pure_ret (no fun q=>e1 (q.laws.ends a h1p).1) os
  rw [decide_eq_true e1];refine tt ?_
  (repeat (refine ⟨by first | exact ai.1 | exact a2 | exact tI | exact ot, ?_⟩))
  by_cases e2 : ix k.tgt.to (k.ar.getD a default)=ix k.ob (k.src.to.getD a default)
  rotate_left
  ·rw [decide_eq_false e2];refine tt ?_;exact pure_ret (no fun q=>e2 (q.laws.ends a h1p).2) os
  rw [decide_eq_true e2];refine tw w ?_
  exact for_next () h1p ⟨rfl,fun i hi=>by
   rcases Nat.lt_succ_iff_lt_or_eq.mp hi with h | rfl
   ·exact hall i h
   ·exact ⟨e1,e2⟩⟩ rfl
 have h1p:=of_ndecide h1
 have ends : ∀ a : Nat,a<k.src.frm.length→ix k.tgt.frm (k.ar.getD a default)=ix k.ob (k.src.frm.getD a default)∧ix k.tgt.to (k.ar.getD a default)=ix k.ob (k.src.to.getD a default):=fun i hi=>hall i (by omega);clear h1 hall h1p hak;refine tt ?_;refine awp_for [1,3,4] (G:=Unit) (fun x _=>[(6,some (.int .i64 (x : Int)))]) (fun x _ H2=>H2=H∧∀ i : Nat,i<x→ix k.ar (k.src.idn.getD i default)=ix k.tgt.idn (k.ob.getD i default)) k.src.objs.toNat () ⟨rfl,by simp⟩ rfl ?_
 rintro x _ H hxk ⟨rfl,hall⟩;refine tt ?_;apply bk <;> intro h1
 ·have h1p:=of_decide h1
  have w:=wsucc (k:=x) (by omega)
  have hxo : k.src.ObR x:=⟨by omega,h1p⟩
  have ox:=obI _ hxo
  have ox1 : x<k.ob.length:=by have:=ox.1.2; simpa using this
  have ox2 : 0≤k.ob.getD x default∧(k.ob.getD x default).toNat<k.tgt.idn.length:=ox.2
  have xi : x<k.src.idn.length:=by omega
  have ia:=(hs.1.idArr hxo).1
  have ia2 : 0≤k.src.idn.getD x default∧(k.src.idn.getD x default).toNat<k.ar.length:=⟨ia.1,by rw [ha]; exact ia.2⟩;refine tt ?_
  (repeat (refine ⟨by first | exact xi | exact ia2 | exact ox1 | exact ox2, ?_⟩))
  by_cases e : ix k.ar (k.src.idn.getD x default)=ix k.tgt.idn (k.ob.getD x default)
  rotate_left
  ·rw [decide_eq_false e];refine tt ?_;exact pure_ret (no fun q=>e (q.laws.idn x xi)) os
  rw [decide_eq_true e];refine tw w ?_
  exact for_next () (by omega) ⟨rfl,fun i hi=>by
   rcases Nat.lt_succ_iff_lt_or_eq.mp hi with h | rfl
   ·exact hall i h
   ·exact e⟩ rfl
 have h1p:=of_ndecide h1
 have idn : ∀ i : Nat,i<k.src.idn.length→ix k.ar (k.src.idn.getD i default)=ix k.tgt.idn (k.ob.getD i default):=fun i hi=>hall i (by omega);clear h1 hall h1p hxk;refine tt ?_;refine awp_for [1,3,4] (G:=Unit) (fun a _=>[(7,some (.int .i64 (a : Int)))]) (fun a _ H2=>H2=H∧∀ i j : Nat,i<a→j<k.src.frm.length→k.src.to.getD i default=k.src.frm.getD j default→ix k.ar ((k.src.comp.getD i default).getD j default)=ix (ix k.tgt.comp (k.ar.getD i default)) (k.ar.getD j default)) k.src.frm.length () ⟨rfl,fun i j h=>by omega⟩ rfl ?_
 rintro a _ H hak ⟨rfl,hall⟩;refine tt ?_;apply bk <;> intro h1
 ·have h1p:=of_decide h1
  have w:=wsucc (k:=a) (by omega)
  have hao : k.src.ArR a:=⟨by omega,h1p⟩
  have ai:=arI a h1p
  have tI : a<k.src.to.length:=by omega
  have ci : a<k.src.comp.length:=by have:=(hs.1.coI hao).2; simpa using this
  have cj : (k.src.comp.getD a default).length=k.src.frm.length:=hs.1.coJ hao
  have ui : k.tgt.ArR (k.ar.getD a default):=ai.2
  have di:=ht.1.coI ui
  have dj : (ix k.tgt.comp (k.ar.getD a default)).length=k.tgt.frm.length:=ht.1.coJ ui;refine tt ?_;refine awp_for [1,3,4,7] (G:=Unit) (fun b _=>[(8,some (.int .i64 (b : Int)))]) (fun b _ H2=>H2=H∧∀ j : Nat,j<b→k.src.to.getD a default=k.src.frm.getD j default→ix k.ar ((k.src.comp.getD a default).getD j default)=ix (ix k.tgt.comp (k.ar.getD a default)) (k.ar.getD j default)) k.src.frm.length () ⟨rfl,fun j h=>by omega⟩ rfl ?_
  rintro b _ H hbk ⟨rfl,hall2⟩;refine tt ?_;apply bk <;> intro h2
  ·have h2p:=of_decide h2
   have w2:=wsucc (k:=b) (by omega)
   have hbo : k.src.ArR b:=⟨by omega,h2p⟩
   have bi:=arI b h2p
   have b1 : 0≤k.ar.getD b default∧(k.ar.getD b default).toNat<(ix k.tgt.comp (k.ar.getD a default)).length:=⟨bi.2.1,by rw [dj]; exact bi.2.2⟩
   have cj2 : b<(k.src.comp.getD a default).length:=by rw [cj]; exact h2p
   refine tt ?_;refine ⟨tI,h2p, ?_⟩
   by_cases e : k.src.to.getD a default=k.src.frm.getD b default
   rotate_left
   ·rw [decide_eq_false e];refine tw w2 ?_
    exact for_next () h2p ⟨rfl,fun j hj he=>by
     rcases Nat.lt_succ_iff_lt_or_eq.mp hj with h | rfl
     ·exact hall2 j h he
     ·exact absurd he e⟩ rfl
   rw [decide_eq_true e]
   have hc:=(hs.1.compEnds hao hbo e).1
   have hc2 : 0≤(k.src.comp.getD a default).getD b default∧((k.src.comp.getD a default).getD b default).toNat<k.ar.length:=⟨hc.1,by rw [ha]; exact hc.2⟩;refine tt ?_
   (repeat (refine ⟨by first | exact ci | exact cj2 | exact hc2 | exact ai.1 | exact di | exact bi.1 | exact b1, ?_⟩))
   by_cases e2 : ix k.ar ((k.src.comp.getD a default).getD b default)=ix (ix k.tgt.comp (k.ar.getD a default)) (k.ar.getD b default)
   rotate_left
   ·rw [decide_eq_false e2];refine tt ?_;exact pure_ret (no fun q=>e2 (q.laws.comp a b h1p h2p e)) os
   rw [decide_eq_true e2];refine tw w2 ?_
   exact for_next () h2p ⟨rfl,fun j hj he=>by
    rcases Nat.lt_succ_iff_lt_or_eq.mp hj with h | rfl
    ·exact hall2 j h he
    ·exact e2⟩ rfl
  ·have h2p:=of_ndecide h2;refine tw w ?_
   exact for_next () h1p ⟨rfl,fun i j hi hj he=>by
    rcases Nat.lt_succ_iff_lt_or_eq.mp hi with h | rfl
    ·exact hall i j h hj he
    ·exact hall2 j (by omega) he⟩ rfl
 ·have h1p:=of_ndecide h1;refine tt ?_;exact pure_ret (congrArg AV.bool (dec_t ⟨hs,ht,fit,ends,idn,fun i j hi hj he=>hall i j (by omega) hj he⟩).symm) os
structure TyK (c d : Cat) (ob a0 ar : List Int) : Prop where
 ty : TyA c d ob ar
 kn : ∀ i : Nat,0≤a0.getD i default→0≤ar.getD i default
theorem TyK.set {c d : Cat} {ob a0 ar : List Int} {h v : Int} (t : TyK c d ob a0 ar) (hh : c.ArR h) (hv : TyE c d ob h v) : TyK c d ob a0 (ar.set h.toNat v):=by
 refine ⟨t.ty.set hh hv,fun i hi=>?_⟩
 by_cases e : h.toNat=i
 ·subst e
  have hl : h.toNat<ar.length:=by rw [t.ty.len]; exact hh.2
  have : (ar.set h.toNat v).getD h.toNat default=v:=by simp [List.getD_eq_getElem?_getD,hl]
  rw [this]; exact hv.1.1
 ·have : (ar.set h.toNat v).getD i default=ar.getD i default:=by simp [List.getD_eq_getElem?_getD,List.getElem?_set_ne e]
  rw [this]; exact t.kn i hi
def Fn (c d : Cat) (ob ar : List Int) : Prop:=TyA c d ob ar∧∀ i : Nat,i<c.frm.length→0≤ar.getD i default
def ForceT (c d : Cat) (ob a0 : List Int) (H0 : Heap) (id : Nat) (l : Ob) : Kont:=fun r H'=>∃ (b : Bool) (ar : List Int),r=.bool b∧TyK c d ob a0 ar∧Owns H0 H' ((id,.cells 1 (ar.map iI) 0)::l)
theorem l06ForceT_ok (B : Nat) {c d : Cat} (hc : c.Shape) (hd : d.Shape) {ob a0 ar : List Int} (t : TyK c d ob a0 ar) (id : Nat) (l : Ob) (H0 H : Heap) (o : Owns H0 H ((id,.cells 1 (ar.map iI) 0)::l)) :
  CallH Tryz.prog B 246 [.agg c.cells,.agg d.cells,.buf id c.frm.length] H (ForceT c d ob a0 H0 id l):=by
 refine c246 (by simp) fun _=>?_
 have sm:=hc.m;unfold s246;refine tt ?_
 refine awp_while [2,3,4] (G:=Bool × List Int) (fun g=>[(7,some (.bool g.1))]) (fun m g H=>(m=ngs g.2+(if g.1=true then 1 else 0)∧TyK c d ob a0 g.2)∧Owns H0 H ((id,.cells 1 (g.2.map iI) 0)::l))
  (ngs ar+1) (true,ar) ⟨⟨by simp,t⟩,o⟩ rfl ?_
 clear o t ar
 rintro m ⟨more,ar⟩ H ⟨⟨hm,t⟩,o⟩;dsimp only at hm t o
 cases more
 ·refine tt ?_;exact ⟨H,.refl _,true,ar,rfl,t,o⟩
 rw [if_pos rfl] at hm;refine tt ?_
 obtain ⟨n0,hn0⟩ : ∃ n0,ngs ar=n0:=⟨_,rfl⟩;rw [hn0] at hm
 refine awp_for [2,3,4] (G:=Bool × List Int) (fun a g=>[(7,some (.bool g.1)),(8,some (.int .i64 (a : Int)))])
  (fun a g H=>(ngs g.2+(if g.1=true then 1 else 0)≤n0∧TyK c d ob a0 g.2)∧Owns H0 H ((id,.cells 1 (g.2.map iI) 0)::l)) c.frm.length (false,ar) ⟨⟨by simp [hn0],t⟩,o⟩ rfl ?_
 clear o t hn0 ar
 rintro a ⟨more,ar⟩ H ha ⟨⟨hm1,t⟩,o⟩;dsimp only at hm1 t o;refine tt ?_;apply bk <;> intro h1
 rotate_left
 ·refine tt ?_;exact while_next (ngs ar+(if more=true then 1 else 0)) (more,ar) (by omega) ⟨⟨rfl,t⟩,o⟩ rfl
 have h1p:=of_decide h1
 have w1:=wsucc (k:=a) (by omega)
 have hao : c.ArR a:=⟨by omega,h1p⟩
 have ci:=(hc.coI hao).2
 have cj : (c.comp.getD a default).length=c.frm.length:=hc.coJ hao;refine tt ?_
 refine awp_for [2,3,4,8] (G:=Bool × List Int) (fun b g=>[(7,some (.bool g.1)),(9,some (.int .i64 (b : Int)))])
  (fun b g H=>(ngs g.2+(if g.1=true then 1 else 0)≤n0∧TyK c d ob a0 g.2)∧Owns H0 H ((id,.cells 1 (g.2.map iI) 0)::l)) c.frm.length (more,ar) ⟨⟨hm1,t⟩,o⟩ rfl ?_
 clear o t hm1
 rintro b ⟨more,ar⟩ H hb ⟨⟨hm1,t⟩,o⟩;dsimp only at hm1 t o
 have hl:=t.ty.len;refine tt ?_;apply bk <;> intro h2
 rotate_left
 ·refine tw w1 ?_;exact for_next (more,ar) h1p ⟨⟨hm1,t⟩,o⟩ rfl
 have h2p:=of_decide h2
 have w2:=wsucc (k:=b) (by omega)
 have hbo : c.ArR b:=⟨by omega,h2p⟩
 have cj2 : b<(c.comp.getD a default).length:=by rw [cj]; exact h2p
 refine tt ?_;refine ⟨ci,cj2, ?_⟩
 rcases hc.comps hao hbo with ⟨hab,hho⟩ | hneg
 rotate_left
 ·have hlt : (c.comp.getD a default).getD b default<0:=by
   have e : (c.comp.getD a default).getD b default=-1:=hneg;omega
  rw [decide_eq_true hlt];refine tw w2 ?_;exact for_next (more,ar) h2p ⟨⟨hm1,t⟩,o⟩ rfl
 obtain ⟨h,hh⟩ : ∃ h : Int,(c.comp.getD a default).getD b default=h:=⟨_,rfl⟩
 have hho : c.ArR ((c.comp.getD a default).getD b default):=hho
 have hix : ix (ix c.comp a) b=h:=hh;rw [hh] at hho ⊢;rw [decide_eq_false (show ¬ h<0 by have:=hho.1; omega)];refine tt ?_;refine ⟨h1p,rd_own o (by omega) ?_⟩;refine tt ?_
 by_cases na : ar.getD a default<0
 ·rw [decide_eq_true na];refine tw w2 ?_;exact for_next (more,ar) h2p ⟨⟨hm1,t⟩,o⟩ rfl
 rw [decide_eq_false na];refine tt ?_;refine ⟨h2p,rd_own o (by omega) ?_⟩;refine tt ?_
 by_cases nb : ar.getD b default<0
 ·rw [decide_eq_true nb];refine tw w2 ?_;exact for_next (more,ar) h2p ⟨⟨hm1,t⟩,o⟩ rfl
 rw [decide_eq_false nb]
 have ta : TyE c d ob a (ar.getD a default):=(t.ty.ty a hao).resolve_left na
 have tb : TyE c d ob b (ar.getD b default):=(t.ty.ty b hbo).resolve_left nb
 have ti:=ta.comp hc hd hao hbo hab tb;rw [hix] at ti
 have di:=hd.coI ta.1
 have dj : (ix d.comp (ar.getD a default)).length=d.frm.length:=hd.coJ ta.1
 have dj2 : (ar.getD b default).toNat<(ix d.comp (ar.getD a default)).length:=by rw [dj]; exact tb.1.2
 have tb0:=tb.1.1;refine tt ?_;refine ⟨h1p,rd_own o (by omega) ?_⟩;refine tt ?_;refine ⟨di, ?_⟩;refine ⟨h2p,rd_own o (by omega) ?_⟩;refine tt ?_;refine ⟨⟨tb0,dj2⟩, ?_⟩
 obtain ⟨v,hv⟩ : ∃ v : Int,ix (ix d.comp (ar.getD a default)) (ar.getD b default)=v:=⟨_,rfl⟩;rw [hv] at ti ⊢
 have hh0:=hho.1
 have hh1 : h.toNat<ar.length:=by rw [hl]; exact hho.2
 have hh2 : h.toNat<c.frm.length:=hho.2
 have v0:=ti.1.1;refine tt ?_;refine ⟨⟨hh0,hh2⟩,rd_own o hh1 ?_⟩;refine tt ?_
 by_cases g : 0≤ar.getD h.toNat default
 ·rw [decide_eq_true g];refine tt ?_;refine ⟨⟨hh0,hh2⟩,rd_own o hh1 ?_⟩;refine tt ?_;apply bk <;> intro h3
  ·refine tt ?_;exact ⟨H,.refl _,false,ar,rfl,t,o⟩
  have h3p : ar.getD h.toNat default=v:=by simpa using h3
  have hs : ar.set h.toNat v=ar:=by
   rw [← h3p];refine List.ext_getElem (by simp) fun i q1 q2=>?_
   by_cases e : h.toNat=i
   ·subst e; simp [List.getD_eq_getElem?_getD,q2]
   ·simp [List.getElem_set,e]
  cases more
  ·refine tt ?_;refine ⟨⟨hh0,hh2⟩,rd_own o hh1 ?_⟩;refine tt ?_;rw [decide_eq_false (show ¬ ar.getD h.toNat default<0 by omega)];refine tt ?_;refine ⟨⟨hh0,hh2⟩,set_own v o rfl hh1 fun H o=>?_⟩;rw [hs] at o;refine tw w2 ?_;exact for_next (false,ar) h2p ⟨⟨hm1,t⟩,o⟩ rfl
  ·refine tt ?_;refine ⟨⟨hh0,hh2⟩,set_own v o rfl hh1 fun H o=>?_⟩;rw [hs] at o;refine tw w2 ?_;exact for_next (true,ar) h2p ⟨⟨hm1,t⟩,o⟩ rfl
 ·rw [decide_eq_false g]
  have hn:=ngs_set (v:=v) hh1 (by omega) v0
  have t2:=t.set hho ti
  cases more
  ·rw [if_neg (by simp)] at hm1;refine tt ?_;refine ⟨⟨hh0,hh2⟩,rd_own o hh1 ?_⟩;refine tt ?_;rw [decide_eq_true (show ar.getD h.toNat default<0 by omega)];refine tt ?_;refine ⟨⟨hh0,hh2⟩,set_own v o rfl hh1 fun H o=>?_⟩;refine tw w2 ?_;exact for_next (true,ar.set h.toNat v) h2p ⟨⟨by simp only [if_true]; omega,t2⟩,o⟩ rfl
  ·rw [if_pos rfl] at hm1;refine tt ?_;refine ⟨⟨hh0,hh2⟩,set_own v o rfl hh1 fun H o=>?_⟩;refine tw w2 ?_;exact for_next (true,ar.set h.toNat v) h2p ⟨⟨by simp only [if_true]; omega,t2⟩,o⟩ rfl
def ArrT (c d : Cat) (ob : List Int) (H0 : Heap) (l : Ob) : Kont:=fun r H'=>∃ (id : Nat) (out : List (List Int)),r=.buf id out.length∧(out.length≤201∧∀ a,a∈out→Fn c d ob a)∧Owns H0 H' ((id,.cells 1 (out.map iL) 0)::l)
theorem l06ArrowsT_ok (B : Nat) {c d : Cat} (hc : c.Shape) (hd : d.Shape) {ob : List Int} (hob : TyO c d ob) (l : Ob) (H0 : Heap) : ∀ (n f : Nat) (ar : List Int) (id idF : Nat) (out : List (List Int)) (H : Heap),c.frm.length - f=n→f≤c.frm.length →
  TyA c d ob ar→(∀ i : Nat,i<f→0≤ar.getD i default)→out.length≤200→(∀ a,a∈out→Fn c d ob a)→Owns H0 H ((id,.cells 1 (ar.map iI) 0)::(idF,.cells 1 (out.map iL) 0)::l) →
  CallH Tryz.prog B 219 [.agg c.cells,.agg d.cells,iL ob,.buf id c.frm.length,iI f,.buf idF out.length] H (ArrT c d ob H0 l):=by
 intro n
 induction n using Nat.strongRecOn with
 | _ n ih =>
 intro f ar id idF out H hn hf t hpos hout hfn o;refine c219p (by simp) fun _=>?_
 have sm:=hc.m
 have hl:=t.len
 have tl:=hc.tol;unfold s219p;refine tt ?_;refine fz_own (f:=iI) o hl.symm fun H o=>tt ?_;refine cut_mp (fun σ H=>∃ g : Nat,f≤g∧g≤c.frm.length∧(∀ i : Nat,i<g→0≤ar.getD i default)∧(g<c.frm.length→ar.getD g default<0)∧σ=[(2,some (iL ob)),(3,some (iL ar)),(4,some (iI g)),(5,some (.buf idF out.length)),(6,some (.ptr c.cells)),(7,some (.ptr d.cells))]∧Owns H0 H ((idF,.cells 1 (out.map iL) 0)::l)) ?_ ?_
 ·refine tt ?_;refine awp_for [2,3,5,6,7] (G:=Unit) (fun k _=>[(4,some (.int .i64 ((f+k : Nat) : Int)))]) (fun k _ H'=>H'=H∧∀ i : Nat,i<f+k→0≤ar.getD i default) (c.frm.length - f) () ⟨rfl,hpos⟩ rfl ?_
  rintro k _ H' hk ⟨rfl,hp2⟩;refine tt ?_
  by_cases h1 : f+k<ar.length
  ·have h1p:=h1;rw [decide_eq_true h1]
   have w:=wsucc (k:=f+k) (by omega);refine tt ?_;refine ⟨h1p, ?_⟩
   by_cases h2 : 0≤ar.getD (f+k) default
   ·rw [decide_eq_true h2];refine tw w ?_
    exact for_next () (by omega) ⟨rfl,fun i hi=>by
     by_cases e : i=f+k
     ·subst e; exact h2
     ·exact hp2 i (by omega)⟩ rfl
   ·rw [decide_eq_false h2];refine tt ?_;exact wkW_done ⟨f+k,by omega,by omega,hp2,fun _=>by omega,rfl,o⟩
  ·rw [decide_eq_false h1];refine tt ?_;exact wkW_done ⟨f+k,by omega,by omega,hp2,fun h=>by omega,rfl,o⟩
 clear o
 rintro σ H ⟨g,hfg,hg,hp3,hneg,rfl,o⟩;refine tt ?_;apply bk <;> intro h1
 ·have h1p:=of_decide h1;refine tt ?_;refine (l01Own_ok B ar).go fun _=>tt ?_;refine app_own (f:=iL) ar o rfl rfl (by simp only [maxL]; omega) fun idF H o=>tt ?_
  exact ⟨H,.refl _,idF,_,rfl,⟨by simp; omega,fun x hx=>by
   rcases List.mem_append.mp hx with h | h
   ·exact hfn x h
   ·obtain rfl:=List.mem_singleton.mp h;exact ⟨t,fun i hi=>hp3 i (by omega)⟩⟩,o⟩
 have h1p : g<c.frm.length:=by have:=of_ndecide h1; omega
 have hgo : c.ArR g:=⟨by omega,h1p⟩
 have w:=wsucc (k:=g) (by omega)
 have tI:=hc.toI hgo
 have f1:=hob.ob _ (hc.frO hgo)
 have t1:=hob.ob _ (hc.toO hgo)
 have fo:=hc.frO hgo
 have to:=hc.toO hgo
 have ol:=hob.len
 have i1 : 0≤ix c.frm g∧(ix c.frm g).toNat<ob.length:=⟨fo.1,by have:=fo.1; have:=fo.2; omega⟩
 have i2 : 0≤ix c.to g∧(ix c.to g).toNat<ob.length:=⟨to.1,by have:=to.1; have:=to.2; omega⟩;refine tt ?_
 (repeat (refine ⟨by first | exact h1p | exact i1 | exact i2 | exact tI.2, ?_⟩))
 refine ⟨_,(l02Hom_ok B d hd _ _).run, ?_⟩
 obtain ⟨hm,hhm⟩ : ∃ L,homC d (ix ob (c.frm.getD g default)) (ix ob (c.to.getD g default))=L:=⟨_,rfl⟩;rw [hhm]
 have hmt : ∀ v,v∈hm→TyE c d ob g v:=fun v hv=>TyE.hom (by rw [← hhm] at hv; exact hv)
 have hml : hm.length≤40:=by
  have h5:=hd.m
  have h6 : (homK d (ix ob (c.frm.getD g default)) (ix ob (c.to.getD g default)) d.frm.length).length≤d.frm.length:=homK_len _ _ _;rw [homK_full,hhm] at h6; omega
 refine tt ?_;refine awp_for [2,3,4,6,7,13] (G:=Nat × List (List Int)) (fun i g=>[(5,some (.buf g.1 g.2.length)),(14,some (.int .i64 (i : Int)))]) (fun i g H=>(g.2.length≤201∧∀ a,a∈g.2→Fn c d ob a)∧Owns H0 H ((g.1,.cells 1 (g.2.map iL) 0)::l)) hm.length (idF,out) ⟨⟨by simp only; omega,hfn⟩,o⟩ rfl ?_;clear o hout hfn
 rintro i ⟨idF,out⟩ H hi ⟨⟨hout,hfn⟩,o⟩;dsimp only at hout hfn o;refine tt ?_
 by_cases h2 : i<hm.length
 rotate_left
 ·rw [decide_eq_false h2];refine tt ?_;exact ⟨H,.refl _,idF,out,rfl,⟨hout,hfn⟩,o⟩
 have h2p : i<hm.length:=by omega
 have w2:=wsucc (k:=i) (by omega);rw [decide_eq_true h2];refine tt ?_
 by_cases h3 : (out.length : Int)≤200
 rotate_left
 ·rw [decide_eq_false h3];refine tt ?_;exact ⟨H,.refl _,idF,out,rfl,⟨hout,hfn⟩,o⟩
 rw [decide_eq_true h3];refine tt ?_;refine (l01Own_own B ar H0 H _ o).own fun idn A H o e=>?_;rw [e] at o ⊢
 have tv:=hmt _ (mem_getD.mpr ⟨i,h2p,rfl⟩)
 have ts:=t.set hgo tv;refine tw hl ?_;refine ⟨h2p, ?_⟩;refine ⟨h1p,set_own (hm.getD i default) o rfl (by omega) fun H o=>?_⟩;refine tt ?_;refine (l06ForceT_ok B hc hd (a0:=ar.set g (hm.getD i default)) ⟨ts,fun i hi=>hi⟩ idn _ H0 H o).mono ?_
 rintro r H ⟨b,ar2,rfl,t2,o⟩
 cases b
 ·refine tw w2 ?_;exact for_next (idF,out) h2p ⟨⟨hout,hfn⟩,o.tl⟩ rfl
 ·refine tw w ?_;refine (ih (c.frm.length - (g+1)) (by omega) (g+1) ar2 idn idF out H rfl (by omega) t2.ty (fun j hj=>t2.kn j ?_) (by omega) hfn o).mono ?_
  ·by_cases e : g=j
   ·subst e
    have hl2 : g<ar.length:=by omega
    have : (ar.set g (hm.getD i default)).getD g default=hm.getD i default:=by simp [List.getD_eq_getElem?_getD,hl2]
    rw [this]; exact tv.1.1
   ·have : (ar.set g (hm.getD i default)).getD j default=ar.getD j default:=by simp [List.getD_eq_getElem?_getD,List.getElem?_set_ne e]
    rw [this]; exact hp3 j (by omega)
  rintro r H ⟨idF2,out2,rfl,ho2,o⟩;refine tw w2 ?_;exact for_next (idF2,out2) h2p ⟨ho2,o⟩ rfl
def ShT (c d : Cat) (ms : List FB) : Prop:=∀ m,m∈ms→TyO c d m.1.2∧Fn c d m.1.2 m.2.2
def SrT (c d : Cat) (H0 : Heap) (l : Ob) : Kont:=fun r H'=>∃ (idF : Nat) (ms : List FB),r=.buf idF ms.length∧(ms.length≤201∧ShT c d ms)∧Owns H0 H' ((idF,.cells 12 (flat (ms.map (fuB c d))) 0)::(inB ms++l))
theorem repl_succT (n : Nat) : List.replicate n (-1 : Int)++[-1]=List.replicate (n+1) (-1):=by rw [List.replicate_succ']
theorem l06SearchT_ok (B : Nat) {c d : Cat} (hc : c.Shape) (hd : d.Shape) (l : Ob) (H0 : Heap) : ∀ (n : Nat) (ob : List Int) (idB idF : Nat) (ms : List FB) (H : Heap),c.objs.toNat - ob.length=n→ob.length≤c.objs.toNat →
  (∀ x : Nat,x<ob.length→d.ObR (ob.getD x default))→ms.length≤200→ShT c d ms→Owns H0 H ((idB,.cells 1 (ob.map iI) 0)::(idF,.cells 12 (flat (ms.map (fuB c d))) 0)::(inB ms++l)) →
  CallH Tryz.prog B 169 [.agg c.cells,.agg d.cells,.buf idB ob.length,.buf idF ms.length] H (SrT c d H0 l):=by
 intro n
 induction n using Nat.strongRecOn with
 | _ n ih =>
 intro ob idB idF ms H hn hol hob hms hsh o;refine c169p (by simp) fun _=>?_
 have sm:=hc.m
 have so:=hc.o
 have dO:=hd.o;unfold s169p;refine tt ?_;refine fz_own (f:=iI) o rfl fun H o=>tt ?_;refine (l06Rooms_ok B c d hc hd ob).go fun r _ ⟨b,e⟩=>?_;subst e
 cases b
 ·refine tt ?_;exact ⟨H,.refl _,idF,ms,rfl,⟨by omega,hsh⟩,o⟩
 refine tt ?_
 by_cases hfull : (ob.length : Int)=c.objs
 ·rw [decide_eq_true hfull]
  have tO : TyO c d ob:=⟨hfull,fun x hx=>by have:=hob x.toNat (by have:=hx.1; have:=hx.2; omega); exact this⟩;refine tt ?_;refine newBuf_own o fun id9 H o=>?_
  have o : Owns H0 H ((id9,.cells 1 ((List.replicate 0 (-1 : Int)).map iI) 0)::(idF,.cells 12 (flat (ms.map (fuB c d))) 0)::(inB ms++l)):=o;refine tt ?_;refine awp_for [2,3,4,5] (G:=Nat) (fun k b=>[(9,some (.buf b k)),(10,some (.int .i64 (k : Int)))]) (fun k b H=>Owns H0 H ((b,.cells 1 ((List.replicate k (-1 : Int)).map iI) 0)::(idF,.cells 12 (flat (ms.map (fuB c d))) 0)::(inB ms++l))) c.frm.length id9 o rfl ?_;clear o
  rintro k b H hk o
  replace o : Owns H0 H ((b,.cells 1 ((List.replicate k (-1 : Int)).map iI) 0)::(idF,.cells 12 (flat (ms.map (fuB c d))) 0)::(inB ms++l)):=o;refine tt ?_;apply bk <;> intro h1
  ·have h1p:=of_decide h1
   have w:=wsucc (k:=k) (by omega)
   have hrl : (List.replicate k (-1 : Int)).length=k:=by simp
   refine tt ?_;refine app_own (-1 : Int) o rfl hrl.symm (by rw [hrl]; simp only [maxL]; omega) fun id H o=>?_;rw [repl_succT] at o
   have hl2 : (List.replicate k (-1 : Int)++[-1]).length=k+1:=by simp
   try simp only [go_sem,↓reduceIte,reduceEqDiff,reduceAdd,reduceMul,reduceLeDiff,reduceLT,w,hl2]
   exact for_next id h1p o rfl
  have h1p:=of_ndecide h1
  obtain rfl : k=c.frm.length:=by omega
  clear h1;refine tt ?_;refine awp_for [2,3,4,5,9] (G:=List Int) (fun x _=>[(11,some (.int .i64 (x : Int)))]) (fun x st H=>TyA c d ob st∧Owns H0 H ((b,.cells 1 (st.map iI) 0)::(idF,.cells 12 (flat (ms.map (fuB c d))) 0)::(inB ms++l))) ob.length (List.replicate c.frm.length (-1)) ⟨.blank,o⟩ rfl ?_;clear o
  rintro x st H hx ⟨ts,o⟩
  replace ts : TyA c d ob st:=ts
  replace o : Owns H0 H ((b,.cells 1 (st.map iI) 0)::(idF,.cells 12 (flat (ms.map (fuB c d))) 0)::(inB ms++l)):=o;refine tt ?_;apply bk <;> intro h1
  ·have h1p:=of_decide h1
   have w:=wsucc (k:=x) (by omega)
   have hxo : c.ObR x:=⟨by omega,by omega⟩
   have hyo:=hob x h1p
   have ii:=(hc.idI hxo).2
   have jj:=hd.idI hyo
   have ia:=(hc.idA hxo).1
   have te : TyE c d ob (ix c.idn x) (ix d.idn (ix ob x)):=TyE.idn hc hd hxo hyo
   have t2:=ts.set ia te
   have ia1 : (c.idn.getD x default).toNat<c.frm.length:=ia.2
   have ia0 : 0≤c.idn.getD x default:=ia.1;refine tt ?_
   (repeat (refine ⟨by first | exact ii | exact h1p | exact jj, ?_⟩))
   refine ⟨⟨ia0,ia1⟩,set_own (ix d.idn (ix ob x)) o rfl (by rw [ts.len]; exact ia1) fun H o=>?_⟩;refine tw w ?_;exact for_next (st.set (ix c.idn x).toNat (ix d.idn (ix ob x))) h1p ⟨t2,o⟩ rfl
  have h1p:=of_ndecide h1;clear h1;refine tt ?_;refine newBuf_own o fun id62 H o=>tt ?_;refine (l06ArrowsT_ok B hc hd tO ((idF,.cells 12 (flat (ms.map (fuB c d))) 0)::(inB ms++l)) H0 _ 0 st b id62 [] H rfl (by omega) ts (fun i hi=>by omega) (by simp) (fun a h=>by simp at h) o.swap).mono ?_;clear o
  rintro r H ⟨idL,out,rfl,⟨hout,hfn⟩,o⟩;refine tt ?_;refine fz_own (f:=iL) o rfl fun H o=>tt ?_;refine awp_for [2,4,5,12] (G:=Nat × List FB) (fun i g=>[(3,some (.buf g.1 g.2.length)),(13,some (.int .i64 (i : Int)))]) (fun i g H=>(g.2.length≤201∧ShT c d g.2)∧Owns H0 H ((g.1,.cells 12 (flat (g.2.map (fuB c d))) 0)::(inB g.2++l))) out.length (idF,ms) ⟨⟨by simp only; omega,hsh⟩,o⟩ rfl ?_;clear o
  rintro i ⟨idF,ms⟩ H hi ⟨⟨hms,hsh⟩,o⟩;dsimp only at hms hsh o;refine tt ?_
  by_cases h2 : i<out.length
  rotate_left
  ·rw [decide_eq_false h2];refine tt ?_;exact ⟨H,.refl _,idF,ms,rfl,⟨hms,hsh⟩,o⟩
  rw [decide_eq_true h2]
  have w2:=wsucc (k:=i) (by omega);refine tt ?_
  by_cases h3 : (ms.length : Int)≤200
  rotate_left
  ·rw [decide_eq_false h3];refine tt ?_;exact ⟨H,.refl _,idF,ms,rfl,⟨hms,hsh⟩,o⟩
  rw [decide_eq_true h3];refine tt ?_;refine ⟨h2, ?_⟩;refine ((l06MakeN B c d ob (out.getD i default)).run H).mono ?_
  rintro r H ⟨p,⟨u,v,rfl,rfl⟩,o2⟩;refine ⟨o2.sub, ?_⟩
  have o:=o.trans o2;refine tt ?_;refine app_ownN (f:=fuB c d) (((u,ob),(v,out.getD i default)) : FB) (show Owns H0 H ((idF,.cells 12 (flat (ms.map (fuB c d))) 0)::([(u,.cells 1 (ob.map iI) 0),(v,.cells 1 ((out.getD i default).map iI) 0)]++(inB ms++l))) from o.pm) rfl rfl (by simp only [maxL]; omega) fun idF H o=>?_
  have o : Owns H0 H ((idF,.cells 12 (flat ((ms++[((u,ob),(v,out.getD i default))]).map (fuB c d))) 0)::(inB (ms++[((u,ob),(v,out.getD i default))])++l)):=by
   rw [inB_app]; exact o.pm
  refine tw w2 ?_
  exact for_next (idF,ms++[((u,ob),(v,out.getD i default))]) h2 ⟨⟨by simp; omega,fun m hm=>by
   rcases List.mem_append.mp hm with h | h
   ·exact hsh m h
   ·obtain rfl:=List.mem_singleton.mp h;exact ⟨tO,hfn _ (mem_getD.mpr ⟨i,h2,rfl⟩)⟩⟩,o⟩ rfl
 rw [decide_eq_false hfull];refine tt ?_;refine awp_for [2,4,5] (G:=Nat × List FB) (fun y g=>[(3,some (.buf g.1 g.2.length)),(14,some (.int .i64 (y : Int)))]) (fun y g H=>(g.2.length≤201∧ShT c d g.2)∧Owns H0 H ((g.1,.cells 12 (flat (g.2.map (fuB c d))) 0)::(inB g.2++l))) d.objs.toNat (idF,ms) ⟨⟨by simp only; omega,hsh⟩,o⟩ rfl ?_;clear o
 rintro y ⟨idF,ms⟩ H hy ⟨⟨hms,hsh⟩,o⟩;dsimp only at hms hsh o;refine tt ?_
 by_cases h2 : (y : Int)<d.objs
 rotate_left
 ·rw [decide_eq_false h2];refine tt ?_;exact ⟨H,.refl _,idF,ms,rfl,⟨hms,hsh⟩,o⟩
 rw [decide_eq_true h2]
 have w2:=wsucc (k:=y) (by omega);refine tt ?_
 by_cases h3 : (ms.length : Int)≤200
 rotate_left
 ·rw [decide_eq_false h3];refine tt ?_;exact ⟨H,.refl _,idF,ms,rfl,⟨hms,hsh⟩,o⟩
 rw [decide_eq_true h3];refine tt ?_;refine ((l01OwnN B ob).run H).mono ?_
 rintro r H ⟨p,⟨u,rfl,rfl⟩,o2⟩;refine ⟨o2.sub, ?_⟩
 have o:=o.trans o2;refine tt ?_;refine app_own (y : Int) (show Owns H0 H ((u,.cells 1 (ob.map iI) 0)::(idF,.cells 12 (flat (ms.map (fuB c d))) 0)::(inB ms++l)) from o) rfl rfl (by simp only [maxL]; omega) fun u H o=>tt ?_;refine (ih (c.objs.toNat - (ob++[(y : Int)]).length) (by simp; omega) (ob++[(y : Int)]) u idF ms H rfl (by simp; omega) (fun x hx=>?_) (by omega) hsh o).mono ?_
 ·by_cases h : x<ob.length
  ·have:=hob x h
   simpa [List.getD_eq_getElem?_getD,List.getElem?_append_left h] using this
  ·obtain rfl : x=ob.length:=by simp at hx; omega
   have : d.ObR y:=⟨by omega,h2⟩
   simpa [List.getD_eq_getElem?_getD] using this
 clear o
 rintro r H ⟨idF,ms,rfl,hms,o⟩;refine tw w2 ?_;exact for_next (idF,ms) (by omega) ⟨hms,o⟩ rfl
theorem l06AllT_ok (B : Nat) {c d : Cat} (hc : c.Shape) (hd : d.Shape) (H0 : Heap) : CallH Tryz.prog B 89 [.agg c.cells,.agg d.cells] H0 (SrT c d H0 []):=by
 refine c89p (by simp) fun _=>?_;unfold s89p
 have o : Owns H0 H0 []:=.nil _;refine tt ?_;refine newBuf_own o fun id7 H o=>tt ?_;refine new_listN (fuB c d) o fun id8 H o=>tt ?_;refine (l06SearchT_ok B hc hd [] H0 _ [] id7 id8 [] H rfl (by simp) (fun x hx=>by simp at hx) (by simp) (fun m hm=>by simp at hm) o.swap).mono ?_
 rintro r H ⟨idF,ms,rfl,hms,o⟩;refine tt ?_;exact ⟨H,.refl _,idF,ms,rfl,hms,o⟩
def FuT (c d : Cat) (X : AV) (p : Ob) : Prop:=∃ m : FB,X=fuB c d m∧p=inB [m]∧TyO c d m.1.2∧Fn c d m.1.2 m.2.2
theorem ix_repl {n : Nat} {y x : Int} (h : 0≤x∧x<n) : ix (List.replicate n y) x=y:=by
 have : x.toNat<n:=by omega
 simp [ix,List.getD_eq_getElem?_getD,List.getElem?_replicate,this]
def upL (n : Nat) : List Int:=(List.range n).map Int.ofNat
theorem upL_succ (n : Nat) : upL (n+1)=upL n++[(n : Int)]:=by simp [upL,List.range_succ]
theorem upL_len (n : Nat) : (upL n).length=n:=by simp [upL]
theorem ix_upL {n : Nat} {x : Int} (h : 0≤x∧x<n) : ix (upL n) x=x:=by
 rw [ix,upL,getD_map_range _ _ (by omega)]; exact Int.toNat_of_nonneg h.1
theorem const_ty {c d : Cat} (hc : c.Shape) (hd : d.Shape) {y : Int} (hy : d.ObR y) : TyO c d (List.replicate c.objs.toNat y)∧Fn c d (List.replicate c.objs.toNat y) (List.replicate c.frm.length (ix d.idn y)):=by
 have so:=hc.o
 have k:=hd.idArr hy
 have e : ∀ x,c.ObR x→ix (List.replicate c.objs.toNat y) x=y:=fun x hx=>ix_repl ⟨hx.1,by have:=hx.2; omega⟩
 have ea : ∀ a,c.ArR a→ix (List.replicate c.frm.length (ix d.idn y)) a=ix d.idn y:=fun a ha=>ix_repl ⟨ha.1,by have:=ha.1; have:=ha.2; omega⟩;refine ⟨⟨by simp; omega,fun x hx=>by rw [e x hx]; exact hy⟩,⟨by simp,fun a ha=>.inr ?_⟩,fun i hi=>?_⟩
 ·rw [ea a ha];exact ⟨k.1,by rw [k.2.1,e _ (hc.frO ha)],by rw [k.2.2,e _ (hc.toO ha)]⟩
 ·have:=ea i ⟨by omega,by simpa using hi⟩;rw [ix_nat] at this;rw [this]; exact k.1.1
theorem self_ty {c : Cat} (hc : c.Shape) : TyO c c (upL c.objs.toNat)∧Fn c c (upL c.objs.toNat) (upL c.frm.length):=by
 have so:=hc.o
 have e : ∀ x,c.ObR x→ix (upL c.objs.toNat) x=x:=fun x hx=>ix_upL ⟨hx.1,by have:=hx.2; omega⟩
 have ea : ∀ a,c.ArR a→ix (upL c.frm.length) a=a:=fun a ha=>ix_upL ⟨ha.1,by have:=ha.1; have:=ha.2; omega⟩;refine ⟨⟨by rw [upL_len]; omega,fun x hx=>by rw [e x hx]; exact hx⟩,⟨upL_len _,fun a ha=>.inr ?_⟩,fun i hi=>?_⟩
 ·rw [ea a ha];exact ⟨ha,by rw [e _ (hc.frO ha)],by rw [e _ (hc.toO ha)]⟩
 ·have:=ea i ⟨by omega,by simpa using hi⟩;rw [ix_nat] at this;rw [this]; omega
theorem l06ConstantT (B : Nat) {c d : Cat} (hc : c.Shape) (hd : d.Shape) {y : Int} (hy : d.ObR y) : New Tryz.prog B 145 [.agg c.cells,.agg d.cells,iI y] fun p X=>FuT c d X p:=by
 refine ⟨fun H0=>c145p (by simp) fun _=>?_⟩
 have so:=hc.o
 have sm:=hc.m
 have jj:=hd.idI hy;unfold s145p
 have o : Owns H0 H0 []:=.nil _;refine tt ?_;refine nb o fun id6 H o=>tt ?_;refine newBuf_own o fun id7 H o=>tt ?_;refine newBuf_own o fun id8 H o=>tt ?_
 refine awp_for [2,3,4,6,8] (G:=Nat × List Int) (fun k g=>[(7,some (.buf g.1 g.2.length)),(9,some (.int .i64 (k : Int)))])
  (fun k g H=>(g.2.length=k∧g.2=List.replicate k y)∧Owns H0 H [(g.1,.cells 1 (g.2.map iI) 0),(id8,.cells 1 (([] : List Int).map iI) 0),(id6,.cells 12 [.int .i64 0,.nilsl,.nilsl,.nilsl,.nilsl,.int .i64 0,.nilsl,.nilsl,.nilsl,.nilsl,.nilsl,.nilsl] 0)]) c.objs.toNat (id7,[]) ⟨⟨rfl,rfl⟩,o.swap⟩ rfl ?_
 clear o
 rintro k ⟨id7,out⟩ H hk ⟨⟨hl,hx⟩,o⟩;dsimp only at hx hl o;refine tt ?_;apply bk <;> intro h1
 ·have h1p:=of_decide h1
  have w:=wsucc (k:=k) (by omega);refine tt ?_;refine app_own y o rfl rfl (by simp only [maxL]; omega) fun id H o=>?_;refine tw w ?_;exact for_next (id,out++[y]) (by omega) ⟨⟨by simp [hl],by rw [hx,← List.replicate_succ']⟩,o⟩ rfl
 have h1p:=of_ndecide h1;clear h1;refine tt ?_
 refine awp_for [2,3,4,6,7] (G:=Nat × List Int) (fun k g=>[(8,some (.buf g.1 g.2.length)),(10,some (.int .i64 (k : Int)))])
  (fun k g H=>(g.2.length=k∧g.2=List.replicate k (ix d.idn y))∧Owns H0 H [(g.1,.cells 1 (g.2.map iI) 0),(id7,.cells 1 (out.map iI) 0),(id6,.cells 12 [.int .i64 0,.nilsl,.nilsl,.nilsl,.nilsl,.int .i64 0,.nilsl,.nilsl,.nilsl,.nilsl,.nilsl,.nilsl] 0)]) c.frm.length (id8,[]) ⟨⟨rfl,rfl⟩,o.swap⟩ rfl ?_
 clear o
 rintro j ⟨id8,ar⟩ H hj ⟨⟨hl2,hx2⟩,o⟩;dsimp only at hx2 hl2 o;refine tt ?_;apply bk <;> intro h1
 ·have h1p:=of_decide h1
  have w:=wsucc (k:=j) (by omega);refine tt ?_;refine ⟨jj, ?_⟩;refine app_own (ix d.idn y) o rfl rfl (by simp only [maxL]; omega) fun id H o=>?_;refine tw w ?_;exact for_next (id,ar++[ix d.idn y]) (by omega) ⟨⟨by simp [hl2],by rw [hx2,← List.replicate_succ']⟩,o⟩ rfl
 have h2p:=of_ndecide h1
 have ty:=const_ty hc hd hy
 obtain rfl : k=c.objs.toNat:=by omega
 obtain rfl : j=c.frm.length:=by omega
 rw [← hx,← hx2] at ty;clear h1;refine tt ?_;refine fz_own o rfl fun H o=>tt ?_;refine fz_own o rfl fun H o=>tt ?_;refine ((l06MakeN B c d out ar).run H).mono ?_
 rintro r H ⟨p,⟨u,v,rfl,rfl⟩,o2⟩
 have o:=o.trans o2;refine tt ?_;refine sw (o.pull [_,_]) fun H o=>tt ?_;rw [o.rc 12 0 (by simp)];refine tt ?_;exact ⟨H,.refl H,_,⟨((u,out),(v,ar)),rfl,rfl,ty⟩,o.tl⟩
theorem l06SelfT (B : Nat) {c : Cat} (hc : c.Shape) : New Tryz.prog B 90 [.agg c.cells] fun p X=>FuT c c X p:=by
 refine ⟨fun H0=>c90p (by simp) fun _=>?_⟩
 have so:=hc.o
 have sm:=hc.m;unfold s90p
 have o : Owns H0 H0 []:=.nil _;refine tt ?_;refine nb o fun id6 H o=>tt ?_;refine newBuf_own o fun id7 H o=>tt ?_;refine newBuf_own o fun id8 H o=>tt ?_
 refine awp_for [1,2,4] (G:=Nat × List Int) (fun k g=>[(3,some (.buf g.1 g.2.length)),(5,some (.int .i64 (k : Int)))])
  (fun k g H=>(g.2.length=k∧g.2=upL k)∧Owns H0 H [(g.1,.cells 1 (g.2.map iI) 0),(id8,.cells 1 (([] : List Int).map iI) 0),(id6,.cells 12 [.int .i64 0,.nilsl,.nilsl,.nilsl,.nilsl,.int .i64 0,.nilsl,.nilsl,.nilsl,.nilsl,.nilsl,.nilsl] 0)]) c.objs.toNat (id7,[]) ⟨⟨rfl,rfl⟩,o.swap⟩ rfl ?_
 clear o
 rintro k ⟨id7,out⟩ H hk ⟨⟨hl,hx⟩,o⟩;dsimp only at hx hl o;refine tt ?_;apply bk <;> intro h1
 ·have h1p:=of_decide h1
  have w:=wsucc (k:=k) (by omega);refine tt ?_;refine app_own (k : Int) o rfl rfl (by simp only [maxL]; omega) fun id H o=>?_;refine tw w ?_;exact for_next (id,out++[(k : Int)]) (by omega) ⟨⟨by simp [hl],by rw [hx,← upL_succ]⟩,o⟩ rfl
 have h1p:=of_ndecide h1;clear h1;refine tt ?_
 refine awp_for [1,2,3] (G:=Nat × List Int) (fun k g=>[(4,some (.buf g.1 g.2.length)),(6,some (.int .i64 (k : Int)))])
  (fun k g H=>(g.2.length=k∧g.2=upL k)∧Owns H0 H [(g.1,.cells 1 (g.2.map iI) 0),(id7,.cells 1 (out.map iI) 0),(id6,.cells 12 [.int .i64 0,.nilsl,.nilsl,.nilsl,.nilsl,.int .i64 0,.nilsl,.nilsl,.nilsl,.nilsl,.nilsl,.nilsl] 0)]) c.frm.length (id8,[]) ⟨⟨rfl,rfl⟩,o.swap⟩ rfl ?_
 clear o
 rintro j ⟨id8,ar⟩ H hj ⟨⟨hl2,hx2⟩,o⟩;dsimp only at hx2 hl2 o;refine tt ?_;apply bk <;> intro h1
 ·have h1p:=of_decide h1
  have w:=wsucc (k:=j) (by omega);refine tt ?_;refine app_own (j : Int) o rfl rfl (by simp only [maxL]; omega) fun id H o=>?_;refine tw w ?_;exact for_next (id,ar++[(j : Int)]) (by omega) ⟨⟨by simp [hl2],by rw [hx2,← upL_succ]⟩,o⟩ rfl
 have h2p:=of_ndecide h1
 have ty:=self_ty hc
 obtain rfl : k=c.objs.toNat:=by omega
 obtain rfl : j=c.frm.length:=by omega
 rw [← hx,← hx2] at ty;clear h1;refine tt ?_;refine fz_own o rfl fun H o=>tt ?_;refine fz_own o rfl fun H o=>tt ?_;refine ((l06MakeN B c c out ar).run H).mono ?_
 rintro r H ⟨p,⟨u,v,rfl,rfl⟩,o2⟩
 have o:=o.trans o2;refine tt ?_;refine sw (o.pull [_,_]) fun H o=>tt ?_;rw [o.rc 12 0 (by simp)];refine tt ?_;exact ⟨H,.refl H,_,⟨((u,out),(v,ar)),rfl,rfl,ty⟩,o.tl⟩
theorem l06MakeP (B : Nat) (c d : Cat) (ob ar : List Int) : Pur Tryz.prog B 81 [.agg c.cells,.agg d.cells,iL ob,iL ar] (.agg (FU.cells ⟨c,d,ob,ar⟩)):=by
 refine ⟨fun H0=>c81 (by simp) fun _=>?_⟩;unfold s81
 have o : Owns H0 H0 []:=.nil _;refine tt ?_;refine nb o fun id8 H o=>tt ?_;refine ⟨_,(l02Own_ok B c).run,_,(l02Own_ok B d).run,_,(l01Own_ok B ob).run,_,(l01Own_ok B ar).run,tt ?_⟩;refine sw o fun H o=>tt ?_
 have hr:=o.rc 12 0 (by simp);simp only [List.drop_zero] at hr;rw [hr];exact pure_ret rfl o.sub
theorem l06SelfP (B : Nat) {c : Cat} (hc : c.Shape) : Pur Tryz.prog B 90 [.agg c.cells] (.agg (FU.cells ⟨c,c,upL c.objs.toNat,upL c.frm.length⟩)):=by
 refine ⟨fun H0=>c90p (by simp) fun _=>?_⟩
 have so:=hc.o
 have sm:=hc.m;unfold s90p
 have o : Owns H0 H0 []:=.nil _;refine tt ?_;refine nb o fun id6 H o=>tt ?_;refine newBuf_own o fun id7 H o=>tt ?_;refine newBuf_own o fun id8 H o=>tt ?_
 refine awp_for [1,2,4] (G:=Nat × List Int) (fun k g=>[(3,some (.buf g.1 g.2.length)),(5,some (.int .i64 (k : Int)))])
  (fun k g H=>(g.2.length=k∧g.2=upL k)∧Owns H0 H [(g.1,.cells 1 (g.2.map iI) 0),(id8,.cells 1 (([] : List Int).map iI) 0),(id6,.cells 12 [.int .i64 0,.nilsl,.nilsl,.nilsl,.nilsl,.int .i64 0,.nilsl,.nilsl,.nilsl,.nilsl,.nilsl,.nilsl] 0)]) c.objs.toNat (id7,[]) ⟨⟨rfl,rfl⟩,o.swap⟩ rfl ?_
 clear o
 rintro k ⟨id7,out⟩ H hk ⟨⟨hl,hx⟩,o⟩;dsimp only at hx hl o;refine tt ?_;apply bk <;> intro h1
 ·have h1p:=of_decide h1
  have w:=wsucc (k:=k) (by omega);refine tt ?_;refine app_own (k : Int) o rfl rfl (by simp only [maxL]; omega) fun id H o=>?_;refine tw w ?_;exact for_next (id,out++[(k : Int)]) (by omega) ⟨⟨by simp [hl],by rw [hx,← upL_succ]⟩,o⟩ rfl
 have h1p:=of_ndecide h1;clear h1;refine tt ?_
 refine awp_for [1,2,3] (G:=Nat × List Int) (fun k g=>[(4,some (.buf g.1 g.2.length)),(6,some (.int .i64 (k : Int)))])
  (fun k g H=>(g.2.length=k∧g.2=upL k)∧Owns H0 H [(g.1,.cells 1 (g.2.map iI) 0),(id7,.cells 1 (out.map iI) 0),(id6,.cells 12 [.int .i64 0,.nilsl,.nilsl,.nilsl,.nilsl,.int .i64 0,.nilsl,.nilsl,.nilsl,.nilsl,.nilsl,.nilsl] 0)]) c.frm.length (id8,[]) ⟨⟨rfl,rfl⟩,o.swap⟩ rfl ?_
 clear o
 rintro j ⟨id8,ar⟩ H hj ⟨⟨hl2,hx2⟩,o⟩;dsimp only at hx2 hl2 o;refine tt ?_;apply bk <;> intro h1
 ·have h1p:=of_decide h1
  have w:=wsucc (k:=j) (by omega);refine tt ?_;refine app_own (j : Int) o rfl rfl (by simp only [maxL]; omega) fun id H o=>?_;refine tw w ?_;exact for_next (id,ar++[(j : Int)]) (by omega) ⟨⟨by simp [hl2],by rw [hx2,← upL_succ]⟩,o⟩ rfl
 have h2p:=of_ndecide h1;clear h1;refine tt ?_;refine fz_own o rfl fun H o=>tt ?_;refine fz_own o rfl fun H o=>tt ?_;refine (l06MakeP B c c out ar).go fun _=>tt ?_;refine sw o fun H o=>tt ?_
 have hr:=o.rc 12 0 (by simp);simp only [List.drop_zero] at hr;rw [hr]
 have e1 : k=c.objs.toNat:=by omega
 have e2 : j=c.frm.length:=by omega
 exact pure_ret (by rw [hx,hx2,e1,e2]; rfl) o.sub
theorem l03OpP (B : Nat) (N : Nat) (hN : N≤4096) (c : Cat) (hg : c.Good N) : Pur Tryz.prog B 216 [.agg c.cells] (.agg (opC c).cells):=by
 refine ⟨fun H0=>c216p (by simp) fun hf=>?_⟩
 have hc:=hg.1
 have hob:=hc.ob
 have hml:=hc.ml
 have htl:=hc.tl
 have hcl:=hc.cl
 have hrow:=hc.row;unfold s216p;refine tt ?_;refine newRef_own (.nil _) fun id2 H o=>tt ?_;refine ⟨_,(l01Own_ok ..).run,tt ?_⟩;refine ⟨_,(l01Own_ok ..).run,tt ?_⟩;refine ⟨_,(l01Own_ok ..).run,tt ?_⟩;refine newRef_own o fun id3 H o=>tt ?_;refine sw o fun H o=>tt ?_
 refine awp_for [1,2,3] (G:=AV × Ob × List (List Int)) (fun k _=>[(4,some (.int .i64 (k : Int)))])
  (fun k g H=>EmP iL g.2.1 g.1 g.2.2∧g.2.2=(List.range k).map (fun f=>(List.range c.frm.length).map fun g=>(c.comp.getD g default).getD f default)∧Owns H0 H (g.2.1++[(id3,MObj.cells 5 [iI c.objs,iL c.to,iL c.frm,iL c.idn,g.1] 0),(id2,MObj.cells 5 [iI 0,.nilsl,.nilsl,.nilsl,.nilsl] 0)])) c.frm.length (.emsl,[],[])
  ⟨.inl ⟨rfl,rfl,rfl⟩,rfl,o⟩ rfl ?_
 clear o
 rintro k ⟨X,p,A⟩ H hk ⟨hX,hE,o⟩;dsimp only at hX hE
 have hA : A.length=k:=by rw [hE]; simp
 dsimp only at o;refine tt ?_;apply bk <;> intro h1
 ·have h1p:=of_decide h1;refine tt ?_;refine newBuf_own o fun idr H o=>tt ?_
  refine awp_for [1,2,3,4] (G:=Nat × List Int) (fun j g=>[(5,some (.buf g.1 g.2.length)),(6,some (.int .i64 (j : Int)))])
   (fun j g H=>g.2=(List.range j).map (fun g=>(c.comp.getD g default).getD k default)∧Owns H0 H ((g.1,.cells 1 (g.2.map iI) 0)::(p++[(id3,MObj.cells 5 [iI c.objs,iL c.to,iL c.frm,iL c.idn,X] 0),(id2,MObj.cells 5 [iI 0,.nilsl,.nilsl,.nilsl,.nilsl] 0)]))) c.frm.length (idr,[]) ⟨rfl,o⟩ rfl ?_
  clear o
  rintro j ⟨idr,row⟩ H hj ⟨hrE,o⟩;dsimp only at hrE
  have hrl : row.length=j:=by rw [hrE]; simp
  dsimp only at o;refine tt ?_;apply bk <;> intro h2
  ·have h2p:=of_decide h2
   have w:=wsucc (k:=j) (by omega)
   have hrj:=hrow j h2p;refine tt ?_;refine ⟨by omega,by omega, ?_⟩;refine app_own _ o rfl rfl (by simp only [maxL]; omega) fun idr H o=>?_;refine tw w ?_;exact for_next (idr,_) h2p ⟨by rw [hrE,List.range_succ,List.map_append]; simp [ix],o⟩ rfl
  ·have h2p:=of_ndecide h2
   have hje : j=c.frm.length:=by omega
   refine tt ?_;refine fz_own o rfl fun H o=>tt ?_;refine rd_get (o.get (id3,MObj.cells 5 [iI c.objs,iL c.to,iL c.frm,iL c.idn,X] 0) (by simp)) (by simp) ?_;refine tt ?_;refine (hX.o o).app row rfl (by simp only [maxL]; omega) fun id' H o=>tt ?_;refine sw o.swap fun H o=>?_
   have w:=wsucc (k:=k) (by omega);refine tw w ?_
   exact for_next (_,[(id',.cells 1 ((A++[row]).map iL) 0)],A++[row]) h1p ⟨.inr ⟨id',rfl,rfl⟩,by
    show A++[row]=_
    rw [hE,hrE,hje,List.range_succ (n:=k),List.map_append]; simp,o.swap⟩ rfl
 ·have h1p:=of_ndecide h1;refine tt ?_;refine wk_em 4 hX o rfl fun H o=>wkW_done ?_;simp only [List.set_cons_zero,List.set_cons_succ] at o;refine tt ?_;refine rd_celln o (by simp) ?_;refine tt ?_;refine sw o.swap fun H o=>tt ?_
  have hr2:=o.rc 5 0 (by simp);simp only [List.drop_zero] at hr2;rw [hr2];refine tt ?_
  have hke : k=c.frm.length:=by omega
  exact pure_ret (by rw [hE,hke]; rfl) o.sub
theorem l15Meets_ok (B : Nat) (f g : FU) : Pur Tryz.prog B 129 [.agg f.cells,.agg g.cells] (.bool (dec (f.tgt=g.src∧g.tgt=f.src))):=by
 refine ⟨fun H0=>c129 (by simp) fun _=>?_⟩;unfold s129;refine tt ?_;refine (l02Same_ok B f.tgt g.src).go fun _=>?_
 by_cases e1 : f.tgt=g.src
 ·rw [dec_t e1];refine tt ?_;refine (l02Same_ok B g.tgt f.src).go fun _=>tt ?_;exact pure_ret (congrArg AV.bool (dec_congr ⟨fun q=>⟨e1,q⟩,fun q=>q.2⟩)) (.refl _)
 ·rw [dec_f e1];refine tt ?_;exact pure_ret (by rw [dec_f fun q=>e1 q.1]) (.refl _)
theorem l15Isos_ok (B : Nat) (c : Cat) (hc : c.Is) (t : List Int) (ht : ∀ y,y∈t→0≤y∧y<(c.frm.length : Int)) (hl : t.length≤100) : Pur Tryz.prog B 52 [.agg c.cells,iL t] (iL (isoL c t)):=by
 refine ⟨fun H0=>c52 (by simp) fun _=>?_⟩;unfold s52
 have o : Owns H0 H0 []:=.nil _;refine tt ?_;refine new_list iI o fun id H o=>tt ?_
 refine awp_for [1,2] (G:=Nat × List Int) (fun k g=>[(5,some (.buf g.1 g.2.length)),(6,some (.int .i64 (k : Int)))])
  (fun k g H=>g.2=isoK c t k∧Owns H0 H [(g.1,.cells 1 (g.2.map iI) 0)]) t.length (id,[]) ⟨rfl,o⟩ rfl ?_
 clear o
 rintro k ⟨id,out⟩ H hk ⟨hout,o⟩;dsimp only at hout o
 have houl : out.length≤k:=by rw [hout]; exact nats_len _ _
 refine tt ?_;apply bk <;> intro h1
 ·have h1p : k<t.length:=of_decide h1
  have w1:=wsucc (k:=k) (by omega)
  have r:=ht _ (mem_getD.mpr ⟨k,h1p,rfl⟩);refine tt ?_;refine ⟨h1p,_,(l02Inverse_ok B c hc (t.getD k default) ⟨r.1,by omega⟩).run, ?_⟩
  by_cases e1 : 0≤invF c (t.getD k default)
  ·refine tt ?_;rw [decide_eq_true e1];refine tt ?_;refine app_own (k : Int) o rfl rfl (by simp only [maxL]; omega) fun z H o=>?_;refine tw w1 ?_;exact for_next (z,out++[(k : Int)]) h1p ⟨by rw [hout,isoK_t e1],o⟩ rfl
  ·refine tt ?_;rw [decide_eq_false e1];refine tw w1 ?_;exact for_next (id,out) h1p ⟨by rw [hout,isoK_f e1],o⟩ rfl
 ·have h1p:=of_ndecide h1;refine tt ?_;refine fz_own o rfl fun H o=>?_;exact pure_ret (by rw [hout,show k=t.length by omega]; rfl) o.sub
theorem l15Natural_ok (B : Nat) (f g : FU) (hf : f.Is) (hg : g.Is) (e1 : f.src=g.src) (e2 : f.tgt=g.tgt) (t : List Int) :
  Pur Tryz.prog B 130 [.agg f.cells,.agg g.cells,iL t] (.bool (dec (NatF f g t))):=by
 refine ⟨fun H0=>c130p (by simp) fun _=>?_⟩;unfold s130p
 have o : Owns H0 H0 []:=.nil _
 have fl:=hf.fit.ol
 have gl:=hg.fit.ol
 have fal:=hf.fit.al
 have gal:=hg.fit.al;rw [← e1] at gl gal
 have hob:=hf.sI.1.o
 have hm:=hf.sI.1.m
 have hmt:=hf.tI.1.m
 have tl:=hf.tI.1.tol
 have stl:=hf.sI.1.tol
 have cl:=hf.tI.1.cl;refine tt ?_;refine cut_at (fun σ H=>∃ i7 i8,σ=[(2,some (iL t)),(3,some (.ptr f.cells)),(4,some (.ptr g.cells)),(7,some (.ref i7 0)),(8,some (.ref i8 0))]∧Owns H0 H [(i7,.cells 5 f.src.cells 0),(i8,.cells 5 f.tgt.cells 0)]) ?_ ?_
 ·refine tt ?_;refine ⟨?_, ?_⟩
  ·refine newRef_own o fun i7 H o=>tt ?_;refine newRef_own o fun i8 H o=>tt ?_;refine sw o.swap fun H o=>tt ?_;refine sw o.swap fun H o=>tt ?_;exact wkW_done ⟨i7,i8,rfl,o.swap⟩
  ·refine newRef_own o fun i8 H o=>tt ?_;refine newRef_own o fun i7 H o=>tt ?_;refine sw o fun H o=>tt ?_;refine sw o.swap fun H o=>tt ?_;exact wkW_done ⟨i7,i8,rfl,o.swap⟩
 clear o
 rintro σ H ⟨i7,i8,rfl,o⟩;refine tt ?_;refine wk_ref 7 o rfl fun H o=>wk_ref 8 o rfl fun H o=>wkW_done ?_
 have hsb:=o.sub;clear o;refine tt ?_
 by_cases hl : t.length=f.ob.length
 rotate_left
 ·rw [decide_eq_false hl];refine tt ?_;exact pure_ret (by rw [dec_f fun q=>hl (by have:=q.len; omega)]) hsb
 rw [decide_eq_true hl];refine tt ?_;refine (l01Map_ok B t f.tgt.frm.length).go fun _=>?_
 by_cases hr : ∀ y,y∈t→0≤y∧y<(f.tgt.frm.length : Int)
 rotate_left
 ·rw [dec_f hr];refine tt ?_;exact pure_ret (by rw [dec_f fun q=>hr ((natF_iff hf.sI).mp q).1.ran]) hsb
 rw [dec_t hr];refine tt ?_;refine awp_for [2,3,4,7,8] (G:=Unit) (fun k _=>[(9,some (.int .i64 (k : Int)))]) (fun k _ H'=>H'=H∧∀ i : Nat,i<k→ix f.tgt.frm (t.getD i default)=f.ob.getD i default∧ix f.tgt.to (t.getD i default)=g.ob.getD i default) t.length () ⟨rfl,fun i hi=>by omega⟩ rfl ?_
 rintro k _ H' hk ⟨rfl,hall⟩;refine tt ?_;apply bk <;> intro b1
 ·have b1p : k<t.length:=of_decide b1
  have w1:=wsucc (k:=k) (by omega)
  have r:=hr _ (mem_getD.mpr ⟨k,b1p,rfl⟩);refine tt ?_;refine ⟨b1p,⟨r.1,by omega⟩,by omega, ?_⟩
  by_cases c1 : ix f.tgt.frm (t.getD k default)=f.ob.getD k default
  rotate_left
  ·rw [decide_eq_false c1];refine tt ?_;exact pure_ret (by rw [dec_f fun q=>c1 (((natF_iff hf.sI).mp q).1.ends k b1p).1]) hsb
  rw [decide_eq_true c1];refine tt ?_;refine ⟨b1p,⟨r.1,by omega⟩,by omega, ?_⟩
  by_cases c2 : ix f.tgt.to (t.getD k default)=g.ob.getD k default
  ·refine tt ?_;rw [decide_eq_true c2];refine tw w1 ?_;exact for_next () b1p ⟨rfl,lt_succ_all hall ⟨c1,c2⟩⟩ rfl
  ·refine tt ?_;rw [decide_eq_false c2];refine tt ?_;exact pure_ret (by rw [dec_f fun q=>c2 (((natF_iff hf.sI).mp q).1.ends k b1p).2]) hsb
 have b1p:=of_ndecide b1
 have hS : NatS f g t:=⟨by omega,hr,fun x hx=>hall x (by omega)⟩;clear hall b1 b1p
 have row : ∀ z : Int,0≤z∧z<(f.tgt.frm.length : Int)→(ix f.tgt.comp z).length=f.tgt.frm.length:=fun z hz=>hf.tI.1.row' (by omega);refine tt ?_;refine awp_for [2,3,4,7,8] (G:=Unit) (fun k _=>[(10,some (.int .i64 (k : Int)))]) (fun k _ H=>H=H'∧∀ i : Nat,i<k→SqA f g t i) f.src.frm.length () ⟨rfl,fun i hi=>by omega⟩ rfl ?_
 rintro k _ H hk ⟨rfl,hall⟩;refine tt ?_;apply bk <;> intro b1
 ·have b1p : k<f.src.frm.length:=of_decide b1
  have w1:=wsucc (k:=k) (by omega)
  have hy:=hf.sI.1.to _ (mem_getD.mpr ⟨k,(by omega : k<f.src.to.length),rfl⟩)
  have hx:=hf.sI.1.frm _ (mem_getD.mpr ⟨k,b1p,rfl⟩)
  have r1:=hf.fit.arr _ (mem_getD.mpr ⟨k,(by omega : k<f.ar.length),rfl⟩)
  have r2:=hg.fit.arr _ (mem_getD.mpr ⟨k,(by omega : k<g.ar.length),rfl⟩);rw [← e2] at r2
  have r3:=hr _ (ix_mem (l:=t) (i:=f.src.to.getD k default) (by omega))
  have r4:=hr _ (ix_mem (l:=t) (i:=f.src.frm.getD k default) (by omega))
  have q1:=l02Then_ok B f.tgt (f.ar.getD k default) (ix t (f.src.to.getD k default)) ⟨r1.1,by omega⟩ ⟨r3.1,by rw [row _ r1]; omega⟩
  have q2:=l02Then_ok B f.tgt (ix t (f.src.frm.getD k default)) (g.ar.getD k default) ⟨r4.1,by omega⟩ ⟨r2.1,by rw [row _ r4]; omega⟩;refine tt ?_;refine ⟨by omega,by omega,⟨hy.1,by omega⟩,_,q1.run,b1p,⟨hx.1,by omega⟩,by omega,_,q2.run,tt ?_⟩
  by_cases w : SqA f g t k
  ·rw [show decide (ix (ix f.tgt.comp (f.ar.getD k default)) (ix t (f.src.to.getD k default))=ix (ix f.tgt.comp (ix t (f.src.frm.getD k default))) (g.ar.getD k default))=true from decide_eq_true w];refine tw w1 ?_;exact for_next () b1p ⟨rfl,lt_succ_all hall w⟩ rfl
  ·rw [show decide (ix (ix f.tgt.comp (f.ar.getD k default)) (ix t (f.src.to.getD k default))=ix (ix f.tgt.comp (ix t (f.src.frm.getD k default))) (g.ar.getD k default))=false from decide_eq_false w];refine tt ?_;exact pure_ret (by rw [dec_f fun q=>w (((natF_iff hf.sI).mp q).2 k b1p)]) hsb
 have b1p:=of_ndecide b1;refine tt ?_;exact pure_ret (by rw [dec_t ((natF_iff hf.sI).mpr ⟨hS,fun a ha=>hall a (by omega)⟩)]) hsb
theorem l15Is_ok (B : Nat) (a : AJ) : Pur Tryz.prog B 51 [.agg a.cells] (.bool (dec a.Is)):=by
 refine ⟨fun H0=>c51p (by simp) fun _=>?_⟩;unfold s51p
 have o : Owns H0 H0 []:=.nil _;refine tt ?_;refine cut_at (fun σ H=>∃ i3 i4,σ=[(1,some (.ptr a.cells)),(3,some (.ref i3 0)),(4,some (.ref i4 0))]∧Owns H0 H [(i3,.cells 12 a.l.cells 0),(i4,.cells 12 a.r.cells 0)]) ?_ ?_
 ·refine tt ?_;refine ⟨?_, ?_⟩
  ·refine nb o fun i3 H o=>tt ?_;refine nb o fun i4 H o=>tt ?_;refine sw o.swap fun H o=>tt ?_;refine sw o.swap fun H o=>tt ?_;exact wkW_done ⟨i3,i4,rfl,o.swap⟩
  ·refine nb o fun i4 H o=>tt ?_;refine nb o fun i3 H o=>tt ?_;refine sw o fun H o=>tt ?_;refine sw o.swap fun H o=>tt ?_;exact wkW_done ⟨i3,i4,rfl,o.swap⟩
 clear o
 rintro σ H ⟨i3,i4,rfl,o⟩;refine tt ?_;refine wk_ref 3 o rfl fun H o=>wk_ref 4 o rfl fun H o=>wkW_done ?_;refine tt ?_;refine (l06Is_ok B a.l).go fun _=>?_
 by_cases h1 : a.l.Is
 rotate_left
 ·rw [dec_f h1];refine tt ?_;exact pure_ret (by rw [dec_f fun q=>h1 q.lI]) o.sub
 rw [dec_t h1];refine tt ?_;refine (l06Is_ok B a.r).go fun _=>?_
 by_cases h2 : a.r.Is
 rotate_left
 ·rw [dec_f h2];refine tt ?_;exact pure_ret (by rw [dec_f fun q=>h2 q.rI]) o.sub
 rw [dec_t h2];refine tt ?_;refine (l15Meets_ok B a.l a.r).go fun _=>?_
 by_cases e : a.l.tgt=a.r.src∧a.r.tgt=a.l.src
 rotate_left
 ·rw [dec_f e];refine tt ?_;exact pure_ret (by rw [dec_f fun q=>e ⟨q.e2.symm,q.e1⟩]) o.sub
 rw [dec_t e]
 have e1 : a.r.tgt=a.l.src:=e.2
 have e2 : a.r.src=a.l.tgt:=e.1.symm
 have l1:=h1.fit.ol
 have l2:=h2.fit.ol
 have l3:=h1.fit.al
 have l4:=h2.fit.al
 have hob:=h1.sI.1.o
 have hod:=h1.tI.1.o;rw [e2] at l2 l4
 have q1:=l06Then_ok B a.l a.r (fun y hy=>by have:=h1.fit.obr y hy; omega) (fun y hy=>by have:=h1.fit.arr y hy; omega)
 have q2:=l06Then_ok B a.r a.l (fun y hy=>by have:=h2.fit.obr y hy; rw [e1] at this; omega) (fun y hy=>by have:=h2.fit.arr y hy; rw [e1] at this; omega)
 have q3:=l06SelfP B h1.sI.1
 have q4:=l06SelfP B h1.tI.1
 have i1:=thn_is h1 h2 e2.symm
 have i2:=thn_is h2 h1 e1
 have q5:=l15Natural_ok B (idF a.l.src) (a.l.thn a.r) (idF_is h1.sI) i1 rfl e1.symm a.u
 have q6:=l15Natural_ok B (a.r.thn a.l) (idF a.l.tgt) i2 (idF_is h1.tI) e2 rfl a.v;refine tt ?_;refine cut_at (fun σ H=>∃ i5 i6,σ=[(1,some (.ptr a.cells)),(3,some (.ptr a.l.cells)),(4,some (.ptr a.r.cells)),(5,some (.ref i5 0)),(6,some (.ref i6 0))]∧Owns H0 H [(i5,.cells 5 a.l.src.cells 0),(i6,.cells 5 a.l.tgt.cells 0)]) ?_ ?_
 ·refine tt ?_;refine ⟨?_, ?_⟩
  ·refine newRef_own o fun i5 H o=>tt ?_;refine newRef_own o fun i6 H o=>tt ?_;refine sw o.swap fun H o=>tt ?_;refine sw o.swap fun H o=>tt ?_;exact wkW_done ⟨i5,i6,rfl,o.swap⟩
  ·refine newRef_own o fun i6 H o=>tt ?_;refine newRef_own o fun i5 H o=>tt ?_;refine sw o fun H o=>tt ?_;refine sw o.swap fun H o=>tt ?_;exact wkW_done ⟨i5,i6,rfl,o.swap⟩
 clear o
 rintro σ H ⟨i5,i6,rfl,o⟩;refine tt ?_;refine wk_ref 5 o rfl fun H o=>wk_ref 6 o rfl fun H o=>wkW_done ?_
 have hsb:=o.sub;clear o;refine tt ?_;refine ⟨_,q3.run,_,q1.run,_,q5.run, ?_⟩
 by_cases n1 : NatF (idF a.l.src) (a.l.thn a.r) a.u
 rotate_left
 ·rw [dec_f n1];refine tt ?_;exact pure_ret (by rw [dec_f fun q=>n1 q.un]) hsb
 rw [dec_t n1];refine tt ?_;refine ⟨_,q2.run,_,q4.run,_,q6.run, ?_⟩
 by_cases n2 : NatF (a.r.thn a.l) (idF a.l.tgt) a.v
 rotate_left
 ·rw [dec_f n2];refine tt ?_;exact pure_ret (by rw [dec_f fun q=>n2 q.vn]) hsb
 rw [dec_t n2]
 have hadj:=adj_iff h1 h2 e1 e2
 have lu : (a.u.length : Int)=a.l.src.objs:=n1.len
 have lv : (a.v.length : Int)=a.l.tgt.objs:=n2.len.trans (by rw [← e2]; rfl)
 have ru:=((natF_iff (f:=idF a.l.src) h1.sI).mp n1).1.ran
 have rv:=((natF_iff (f:=a.r.thn a.l) h2.sI).mp n2).1.ran
 have cl1:=h1.tI.1.cl
 have cl2:=h1.sI.1.cl;refine tt ?_;refine awp_for [1,3,4,5,6] (G:=Unit) (fun k _=>[(7,some (.int .i64 (k : Int)))]) (fun k _ H'=>H'=H∧∀ i : Nat,i<k→a.l.tgt.th (ix a.l.ar (a.u.getD i default)) (ix a.v (a.l.ob.getD i default))=ix a.l.tgt.idn (a.l.ob.getD i default)) a.l.ob.length () ⟨rfl,fun i hi=>by omega⟩ rfl ?_
 rintro k _ H' hk ⟨rfl,hall⟩;refine tt ?_;apply bk <;> intro b1
 ·have b1p : k<a.l.ob.length:=by have:=of_decide b1; omega
  have w1:=wsucc (k:=k) (by omega)
  have hy:=h1.fit.obr _ (mem_getD.mpr ⟨k,b1p,rfl⟩)
  have hu:=ru _ (mem_getD.mpr ⟨k,(by omega : k<a.u.length),rfl⟩)
  have hu : 0≤a.u.getD k default∧a.u.getD k default<(a.l.src.frm.length : Int):=hu
  have hla:=h1.fit.arr _ (ix_mem (l:=a.l.ar) (i:=a.u.getD k default) (by omega))
  have hv:=rv _ (ix_mem (l:=a.v) (i:=a.l.ob.getD k default) (by omega))
  have hv : 0≤ix a.v (a.l.ob.getD k default)∧ix a.v (a.l.ob.getD k default)<(a.l.tgt.frm.length : Int):=hv
  have row:=h1.tI.1.row' (a:=ix a.l.ar (a.u.getD k default)) (by omega)
  have q7:=l02Then_ok B a.l.tgt (ix a.l.ar (a.u.getD k default)) (ix a.v (a.l.ob.getD k default)) ⟨hla.1,by omega⟩ ⟨hv.1,by rw [row]; omega⟩
  have hk0 : 0≤(k : Int)∧(k : Int)<a.l.src.objs:=by omega
  have ar1:=n1.ar (k : Int) hk0;rw [thn_ob h1 hk0,show ix (idF a.l.src).ob (k : Int)=k from idL_ix (by omega)] at ar1
  have ar2:=h1.arA ar1
  have ar3:=n2.ar (ix a.l.ob (k : Int)) (by have:=h1.obA hk0; rw [show (a.r.thn a.l).src=a.r.src from rfl,e2]; exact this);rw [thn_ob h2 (by rw [e2]; exact h1.obA hk0),show ix (idF a.l.tgt).ob (ix a.l.ob (k : Int))=ix a.l.ob (k : Int) from idL_ix (by have:=h1.obA hk0; omega)] at ar3
  have ar4:=ar2.comp h1.tI ar3;rw [ix_nat,ix_nat] at ar4
  have q8:=l02Unit_ok B a.l.tgt h1.tI.1 _ ar4.r;rw [ar4.s] at q8
  have key : (ix a.l.tgt.idn (a.l.ob.getD k default)=a.l.tgt.th (ix a.l.ar (a.u.getD k default)) (ix a.v (a.l.ob.getD k default)))↔a.l.tgt.th (ix a.l.ar (a.u.getD k default)) (ix a.v (a.l.ob.getD k default))=ix a.l.tgt.idn (a.l.ob.getD k default):=eq_comm;refine tt ?_;refine ⟨by omega,⟨hu.1,by omega⟩,b1p,⟨hy.1,by omega⟩,_,q7.run,_,q8.run, ?_⟩
  by_cases w : ix a.l.tgt.idn (a.l.ob.getD k default)=a.l.tgt.th (ix a.l.ar (a.u.getD k default)) (ix a.v (a.l.ob.getD k default))
  ·rw [decide_eq_true w];refine tw w1 ?_;exact for_next () b1p ⟨rfl,lt_succ_all hall (key.mp w)⟩ rfl
  ·rw [decide_eq_false w];refine tt ?_;exact pure_ret (by rw [dec_f fun q=>w (key.mpr ((hadj.mp q).2.1 k b1p))]) hsb
 have b1p : ¬ k<a.l.ob.length:=by have:=of_ndecide b1; omega
 have hT1 : ∀ x : Nat,x<a.l.ob.length→a.l.tgt.th (ix a.l.ar (a.u.getD x default)) (ix a.v (a.l.ob.getD x default))=ix a.l.tgt.idn (a.l.ob.getD x default):=fun x hx=>hall x (by omega);clear hall b1 b1p;refine tt ?_;refine awp_for [1,4,5,6] (G:=Unit) (fun k _=>[(8,some (.int .i64 (k : Int)))]) (fun k _ H=>H=H'∧∀ i : Nat,i<k→a.l.src.th (ix a.u (a.r.ob.getD i default)) (ix a.r.ar (a.v.getD i default))=ix a.l.src.idn (a.r.ob.getD i default)) a.r.ob.length () ⟨rfl,fun i hi=>by omega⟩ rfl ?_
 rintro k _ H hk ⟨rfl,hall⟩;refine tt ?_;apply bk <;> intro b1
 ·have b1p : k<a.r.ob.length:=by have:=of_decide b1; omega
  have w1:=wsucc (k:=k) (by omega)
  have hy:=h2.fit.obr _ (mem_getD.mpr ⟨k,b1p,rfl⟩);rw [e1] at hy
  have hv:=rv _ (mem_getD.mpr ⟨k,(by omega : k<a.v.length),rfl⟩)
  have hv : 0≤a.v.getD k default∧a.v.getD k default<(a.l.tgt.frm.length : Int):=hv
  have hra:=h2.fit.arr _ (ix_mem (l:=a.r.ar) (i:=a.v.getD k default) (by omega));rw [e1] at hra
  have hu:=ru _ (ix_mem (l:=a.u) (i:=a.r.ob.getD k default) (by omega))
  have hu : 0≤ix a.u (a.r.ob.getD k default)∧ix a.u (a.r.ob.getD k default)<(a.l.src.frm.length : Int):=hu
  have row:=h1.sI.1.row' (a:=ix a.u (a.r.ob.getD k default)) (by omega)
  have q7:=l02Then_ok B a.l.src (ix a.u (a.r.ob.getD k default)) (ix a.r.ar (a.v.getD k default)) ⟨hu.1,by omega⟩ ⟨hra.1,by rw [row]; omega⟩
  have hk0 : 0≤(k : Int)∧(k : Int)<a.r.src.objs:=by rw [e2]; omega
  have ho:=h2.obA hk0;rw [e1] at ho
  have ar1:=n2.ar (k : Int) hk0;rw [thn_ob h2 hk0,show ix (idF a.l.tgt).ob (k : Int)=k from idL_ix (by rw [e2] at hk0; omega)] at ar1
  have ar1 : a.r.src.Ar (ix a.v (k : Int)) (ix a.l.ob (ix a.r.ob (k : Int))) k:=by rw [e2]; exact ar1
  have ar2:=h2.arA ar1;rw [e1] at ar2
  have ar3:=n1.ar (ix a.r.ob (k : Int)) ho;rw [thn_ob h1 ho,show ix (idF a.l.src).ob (ix a.r.ob (k : Int))=ix a.r.ob (k : Int) from idL_ix (by omega)] at ar3
  have ar3 : a.l.src.Ar (ix a.u (ix a.r.ob (k : Int))) (ix a.r.ob (k : Int)) (ix a.r.ob (ix a.l.ob (ix a.r.ob (k : Int)))):=ar3
  have ar4:=ar3.comp h1.sI ar2;rw [ix_nat,ix_nat] at ar4
  have q8:=l02Unit_ok B a.l.src h1.sI.1 _ ar4.r;rw [ar4.s] at q8
  have key : (ix a.l.src.idn (a.r.ob.getD k default)=a.l.src.th (ix a.u (a.r.ob.getD k default)) (ix a.r.ar (a.v.getD k default)))↔a.l.src.th (ix a.u (a.r.ob.getD k default)) (ix a.r.ar (a.v.getD k default))=ix a.l.src.idn (a.r.ob.getD k default):=eq_comm;refine tt ?_;refine ⟨b1p,⟨hy.1,by omega⟩,by omega,⟨hv.1,by omega⟩,_,q7.run,_,q8.run, ?_⟩
  by_cases w : ix a.l.src.idn (a.r.ob.getD k default)=a.l.src.th (ix a.u (a.r.ob.getD k default)) (ix a.r.ar (a.v.getD k default))
  ·rw [decide_eq_true w];refine tw w1 ?_;exact for_next () b1p ⟨rfl,lt_succ_all hall (key.mp w)⟩ rfl
  ·rw [decide_eq_false w];refine tt ?_;exact pure_ret (by rw [dec_f fun q=>w (key.mpr ((hadj.mp q).2.2 k b1p))]) hsb
 ·have b1p : ¬ k<a.r.ob.length:=by have:=of_ndecide b1; omega
  refine tt ?_;exact pure_ret (by rw [dec_t (hadj.mpr ⟨⟨n1,n2⟩,hT1,fun y hy=>hall y (by omega)⟩)]) hsb
theorem fixedSpec_ok (B : Nat) (a : AJ) : Pur Tryz.prog B 11 [.agg a.cells] (fixA a):=by
 refine ⟨fun H0=>c11 (by simp) fun _=>?_⟩;unfold s11
 have q0:=l15Is_ok B a;rw [fixA];refine tt ?_;refine q0.go fun _=>?_
 by_cases h : a.Is
 ·rw [dec_t h,fixR,if_pos rfl]
  have b:=AJ.Is.bds h
  have q1:=l15Isos_ok B a.l.src h.lI.sI a.u b.1.1 b.1.2
  have q2:=l15Isos_ok B a.l.tgt h.lI.tI a.v b.2.1 b.2.2;refine tt ?_;refine ⟨_,q1.run,_,q2.run,tt ?_⟩;exact pure_ret rfl (.refl _)
 ·rw [dec_f h,fixR,if_neg (by simp)];refine tt ?_;exact pure_ret rfl (.refl _)
theorem objCL_ok (B : Nat) (c : Cat) (hc : c.Is) (L : List Int) (hL : ∀ y,y∈L→0≤y∧y<c.objs) : Pur Tryz.prog B 53 [.ptr c.cells,iL L] (iI 0):=by
 refine ⟨fun H0=>c53 (by simp) fun _=>?_⟩
 have ho:=hc.1.o;unfold s53;refine tt ?_;refine (isCategory_ok B c).go fun _=>?_;rw [dec_t hc];refine tt ?_;refine (within_ok B L c.objs (by omega)).go fun _=>?_;rw [dec_t hL];refine tt ?_;exact pure_ret rfl (.refl _)
theorem fullSub_ok (B : Nat) (c : Cat) (hc : c.Is) (L : List Int) (s : Sel c L) (hR : Rising L) (hK : selK L c.objs.toNat=L) :
  Pur Tryz.prog B 14 [.agg c.cells,iL L] (.tup [.agg (Go.Shf.part c L).cells,iI 0]):=by
 refine ⟨fun H0=>c14 (by simp) fun _=>?_⟩;unfold s14
 have o : Owns H0 H0 []:=.nil _
 have q1:=objCL_ok B c hc L s.2
 have q2:=rising_ok B L;rw [dec_t hR] at q2
 have q3:=between_ok B c hc.1 L
 have q4:=sub_ok B c hc L s hK
 generalize Go.Shf.part c L=P at *;refine tt ?_;refine newRef_own o fun id4 H o=>tt ?_;refine q1.go fun _=>?_;refine td ?_;refine q2.go fun _=>tt ?_;refine q3.go fun _=>tt ?_;refine q4.go fun _=>tt ?_;refine newRef_own o fun id7 H o=>tt ?_;refine sw o fun H o=>tt ?_;refine rd_celln o (by simp) ?_;refine tt ?_;refine sw o.swap fun H o=>tt ?_
 have hr:=o.rc 5 0 (by simp);simp only [List.drop_zero] at hr;rw [hr];exact pure_ret rfl o.sub
end Go.Proofs.Shf
