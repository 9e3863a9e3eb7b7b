/- A part of a proof. -/
import Derived.Test.YtnpimpkmgmnhhaaGreatF12
import Derived.Deep.Slices
import Derived.SizedLaws
set_option linter.unusedVariables false
set_option linter.unusedSimpArgs false
set_option linter.unusedSectionVars false
set_option maxRecDepth 100000
open Nat (reduceEqDiff reduceAdd reduceMul reduceLeDiff reduceLT)
namespace Go.Proofs.Shf
open Go.AW Go.Proofs Go.Shf
def AjR (r : AV) : Prop:=∃ a : AJ,r=.agg a.cells
theorem isoL_rising {c : Cat} {t : List Int} : Rising (isoL c t):=nats_rising _ _
theorem isoL_sel {c : Cat} {t : List Int} {n : Int} (h : (t.length : Int)=n) : selK (isoL c t) n.toNat=isoL c t:=by
 have e : n.toNat=t.length:=by omega
 show nats (fun x=>decide ((x : Int)∈isoL c t)) n.toNat=nats (fun x=>decide (0≤invF c (t.getD x default))) t.length
 rw [e]
 generalize hI : isoL c t=I;rw [nats,nats]
 congr 1
 refine List.filter_congr fun x hx=>?_
 have hx:=List.mem_range.mp hx
 have m:=mem_isoL (c:=c) (t:=t) (x:=(x : Int));rw [hI] at m
 by_cases q : 0≤invF c (t.getD x default)
 ·rw [decide_eq_true q,decide_eq_true];exact m.mpr ⟨by omega,by rw [ix_nat]; exact q⟩
 ·rw [decide_eq_false q,decide_eq_false]
  intro w
  have:=(m.mp w).2;rw [ix_nat] at this;exact q this
theorem fnFixed_of (B : Nat) (code : List UInt8) (hd : Rets B 9 [mL iB code] AjR) : Pur Tryz.prog B 3 [mL iB code] (.bool true):=by
 refine ⟨fun H0=>c3p (by simp) fun _=>?_⟩;unfold s3p
 have o : Owns H0 H0 []:=.nil _;refine tt ?_;refine (big_ok B code).go fun _=>tt ?_;refine ⟨fun g0=>At.mk ?_,fun g0=>At.mk ?_⟩
 ·refine tt ?_;exact pure_ret rfl (.refl _)
 refine tt ?_;refine hd.go fun r _ ⟨a,e⟩=>?_;subst e;refine tt ?_;refine nb o fun i3 H o=>tt ?_;refine sw o fun H o=>tt ?_;refine wk_ref 3 o rfl fun H o=>wkW_done ?_;refine tt ?_;refine (fixedObjects_ok B a).go fun _=>?_;rw [fixA]
 by_cases h : a.Is
 rotate_left
 ·rw [dec_f h,fixR,if_neg (by simp)]
  have qs:=fixedSpec_ok B a;rw [fixA,dec_f h,fixR,if_neg (by simp)] at qs;refine tt ?_;refine qs.go fun _=>?_
  have l0:=likeInts_ok B [] [];rw [dec_t rfl] at l0;refine td ?_;refine l0.go fun _=>?_;refine td ?_;refine l0.go fun _=>?_
  have q13:=isAdjunctionI_ok B a;rw [dec_f h] at q13
  have d1 : decide ((1 : Int)=0)=false:=rfl;try simp only [go_sem,↓reduceIte,reduceEqDiff,reduceAdd,reduceMul,reduceLeDiff,reduceLT,d1,dT5]
  refine q13.go fun _=>tt ?_;exact pure_ret rfl o.sub
 rw [dec_t h,fixR,if_pos rfl]
 have qs:=fixedSpec_ok B a;rw [fixA,dec_t h,fixR,if_pos rfl] at qs;refine tt ?_;refine qs.go fun _=>?_
 have l1:=likeInts_ok B (isoL a.l.src a.u) (isoL a.l.src a.u)
 have l2:=likeInts_ok B (isoL a.l.tgt a.v) (isoL a.l.tgt a.v);rw [dec_t rfl] at l1 l2;refine td ?_;refine l1.go fun _=>?_;refine td ?_;refine l2.go fun _=>?_
 have lu : (a.u.length : Int)=a.l.src.objs:=h.un.len
 have lv : (a.v.length : Int)=a.l.tgt.objs:=h.vn.len.trans (by rw [← h.e2]; rfl)
 have q14:=fullSub_ok B a.l.src h.lI.sI (isoL a.l.src a.u) h.selX isoL_rising (isoL_sel lu)
 have q15:=fullSub_ok B a.l.tgt h.lI.tI (isoL a.l.tgt a.v) h.selY isoL_rising (isoL_sel lv)
 have q16:=areEquivalent_okG B _ _ (fixed_ska h);refine td ?_;refine q14.go fun _=>tt ?_;refine newRef_own o fun i10 H o=>tt ?_;refine sw o fun H o=>tt ?_;refine q15.go fun _=>tt ?_;refine newRef_own o fun i12 H o=>tt ?_;refine sw o fun H o=>tt ?_;refine wk_ref 12 o rfl fun H o=>wk_ref 10 o rfl fun H o=>wkW_done ?_
 have hsb:=o.sub;clear o;refine tt ?_;refine q16.go fun _=>?_
 have q17:=isReflection_ok B a h
 have q18:=isFullI_ok B a.r h.rI
 have q19:=isFaithfulI_ok B a.r h.rI
 have hrf:=h.reflection
 have d1 : decide ((3 : Int)=3)=true:=rfl
 have d2 : decide ((0 : Int)=3)=false:=rfl
 have t1 : (true == true)=true:=rfl
 have t2 : (false == false)=true:=rfl
 have hE : decide ((((isoL a.l.tgt a.v).length : Nat) : Int)=a.l.tgt.objs)=decide ((isoL a.l.tgt a.v).length=a.v.length):=decide_eq_decide.mpr (by omega);rw [alikeG]
 by_cases hr : (isoL a.l.tgt a.v).length=a.v.length
 ·obtain ⟨hF,hA⟩:=hrf.mp hr;rw [decide_eq_true hr] at q17 hE;rw [dec_t hF] at q18;rw [dec_t hA] at q19
  by_cases hb : (skS (Go.Shf.part a.l.src (isoL a.l.src a.u))).frm.length≤16
  ·rw [if_pos hb];try simp only [go_sem,↓reduceIte,reduceEqDiff,reduceAdd,reduceMul,reduceLeDiff,reduceLT,d1,d2,dT5]
   refine q17.go fun _=>?_;try simp only [go_sem,↓reduceIte,reduceEqDiff,reduceAdd,reduceMul,reduceLeDiff,reduceLT,d1,d2,dT5]
   refine q18.go fun _=>?_;try simp only [go_sem,↓reduceIte,reduceEqDiff,reduceAdd,reduceMul,reduceLeDiff,reduceLT,d1,d2,dT5]
   refine q19.go fun _=>?_;try simp only [go_sem,↓reduceIte,reduceEqDiff,reduceAdd,reduceMul,reduceLeDiff,reduceLT,d1,d2,dT5,hE,t1,t2]
   exact pure_ret rfl hsb
  ·rw [if_neg hb];try simp only [go_sem,↓reduceIte,reduceEqDiff,reduceAdd,reduceMul,reduceLeDiff,reduceLT,d1,d2,dT5]
   refine q17.go fun _=>?_;try simp only [go_sem,↓reduceIte,reduceEqDiff,reduceAdd,reduceMul,reduceLeDiff,reduceLT,d1,d2,dT5]
   refine q18.go fun _=>?_;try simp only [go_sem,↓reduceIte,reduceEqDiff,reduceAdd,reduceMul,reduceLeDiff,reduceLT,d1,d2,dT5]
   refine q19.go fun _=>?_;try simp only [go_sem,↓reduceIte,reduceEqDiff,reduceAdd,reduceMul,reduceLeDiff,reduceLT,d1,d2,dT5,hE,t1,t2]
   exact pure_ret rfl hsb
 rw [decide_eq_false hr] at q17 hE
 by_cases hF : a.r.Full
 ·have hA : ¬ a.r.Faith:=fun w=>hr (hrf.mpr ⟨hF,w⟩);rw [dec_t hF] at q18;rw [dec_f hA] at q19
  by_cases hb : (skS (Go.Shf.part a.l.src (isoL a.l.src a.u))).frm.length≤16
  ·rw [if_pos hb];try simp only [go_sem,↓reduceIte,reduceEqDiff,reduceAdd,reduceMul,reduceLeDiff,reduceLT,d1,d2,dT5]
   refine q17.go fun _=>?_;try simp only [go_sem,↓reduceIte,reduceEqDiff,reduceAdd,reduceMul,reduceLeDiff,reduceLT,d1,d2,dT5]
   refine q18.go fun _=>?_;try simp only [go_sem,↓reduceIte,reduceEqDiff,reduceAdd,reduceMul,reduceLeDiff,reduceLT,d1,d2,dT5]
   refine q19.go fun _=>?_;try simp only [go_sem,↓reduceIte,reduceEqDiff,reduceAdd,reduceMul,reduceLeDiff,reduceLT,d1,d2,dT5,hE,t1,t2]
   exact pure_ret rfl hsb
  ·rw [if_neg hb];try simp only [go_sem,↓reduceIte,reduceEqDiff,reduceAdd,reduceMul,reduceLeDiff,reduceLT,d1,d2,dT5]
   refine q17.go fun _=>?_;try simp only [go_sem,↓reduceIte,reduceEqDiff,reduceAdd,reduceMul,reduceLeDiff,reduceLT,d1,d2,dT5]
   refine q18.go fun _=>?_;try simp only [go_sem,↓reduceIte,reduceEqDiff,reduceAdd,reduceMul,reduceLeDiff,reduceLT,d1,d2,dT5]
   refine q19.go fun _=>?_;try simp only [go_sem,↓reduceIte,reduceEqDiff,reduceAdd,reduceMul,reduceLeDiff,reduceLT,d1,d2,dT5,hE,t1,t2]
   exact pure_ret rfl hsb
 ·rw [dec_f hF] at q18
  generalize dec a.r.Faith=bF at q19
  by_cases hb : (skS (Go.Shf.part a.l.src (isoL a.l.src a.u))).frm.length≤16
  ·rw [if_pos hb];try simp only [go_sem,↓reduceIte,reduceEqDiff,reduceAdd,reduceMul,reduceLeDiff,reduceLT,d1,d2,dT5]
   refine q17.go fun _=>?_;try simp only [go_sem,↓reduceIte,reduceEqDiff,reduceAdd,reduceMul,reduceLeDiff,reduceLT,d1,d2,dT5]
   refine q18.go fun _=>?_;try simp only [go_sem,↓reduceIte,reduceEqDiff,reduceAdd,reduceMul,reduceLeDiff,reduceLT,d1,d2,dT5]
   refine q19.go fun _=>?_;try simp only [go_sem,↓reduceIte,reduceEqDiff,reduceAdd,reduceMul,reduceLeDiff,reduceLT,d1,d2,dT5,hE,t1,t2]
   exact pure_ret rfl hsb
  ·rw [if_neg hb];try simp only [go_sem,↓reduceIte,reduceEqDiff,reduceAdd,reduceMul,reduceLeDiff,reduceLT,d1,d2,dT5]
   refine q17.go fun _=>?_;try simp only [go_sem,↓reduceIte,reduceEqDiff,reduceAdd,reduceMul,reduceLeDiff,reduceLT,d1,d2,dT5]
   refine q18.go fun _=>?_;try simp only [go_sem,↓reduceIte,reduceEqDiff,reduceAdd,reduceMul,reduceLeDiff,reduceLT,d1,d2,dT5]
   refine q19.go fun _=>?_;try simp only [go_sem,↓reduceIte,reduceEqDiff,reduceAdd,reduceMul,reduceLeDiff,reduceLT,d1,d2,dT5,hE,t1,t2]
   exact pure_ret rfl hsb
def SomT (c : Cat) (id : Nat) (H0 : Heap) (l : Ob) : Kont:=fun r H'=>∃ (d : Cat) (s' : Src) (p : Ob),(d.Sh 20000∧d.Shape)∧FuT c d r p∧s'.Ok∧Owns H0 H' ((id,s'.obj)::(p++l))
theorem l06SomeT_ok (B : Nat) {c : Cat} (hcs : c.Sh 20000) (hc : c.Shape) (mo ma : Int) (id : Nat) (s : Src) (l : Ob) (H0 H : Heap) (hs : s.Ok) (o : Owns H0 H ((id,s.obj)::l)) :
  CallH Tryz.prog B 66 [.ref id 0,.agg c.cells,iI mo,iI ma] H (SomT c id H0 l):=by
 refine c66p (by simp) fun _=>?_;unfold s66p;refine tt ?_;refine nb o fun id8 H o=>tt ?_;refine (l02Some_ok B mo ma).go hs o.swap fun r s H _ ⟨d,e,hds,hd⟩ hs o=>?_;subst e;refine tt ?_;refine newRef_own o fun id9 H o=>tt ?_;refine sw o fun H o=>?_
 have o : Owns H0 H ((id9,.cells 5 d.cells 0)::(id,s.obj)::(id8,.cells 12 z12 0)::l):=o;refine tt ?_
 have dO:=hd.o;refine cut_mp (fun σ H=>∃ s : Src,σ=[(0,some (.ref id 0)),(5,some (.ptr c.cells)),(8,some (.ref id8 0)),(9,some (.ref id9 0))]∧s.Ok∧Owns H0 H ((id,s.obj)::(id9,.cells 5 d.cells 0)::(id8,.cells 12 z12 0)::l)) ?_ ?_
 ·refine tt ?_;refine rd_celln o (by simp [Cat.cells]) ?_;refine tt ?_;refine (l06Small_ok B c d hc).go fun r _ ⟨b,e⟩=>?_;subst e
  cases b
  ·refine tt ?_;exact wkW_done ⟨s,rfl,hs,o.swap⟩
  ·refine tt ?_;refine rd_celln o (by simp [Cat.cells]) ?_;refine tt ?_;refine (l06AllT_ok B hc hd H).mono ?_
   rintro r H ⟨idF,ms,rfl,⟨hms,hsh⟩,o2⟩
   have o:=o.trans o2
   have o : Owns H0 H ((id,s.obj)::(idF,.cells 12 (flat (ms.map (fuB c d))) 0)::(id9,.cells 5 d.cells 0)::(id8,.cells 12 z12 0)::(inB ms++l)):=o.pm;refine tt ?_;apply bk <;> intro h1
   ·have h1p:=of_decide h1;refine tt ?_;refine (l01Next_ok B _).go hs o fun r s H _ ⟨v,e,v0,v1,_⟩ hs o=>?_;subst e
    have vl : v.toNat<ms.length:=by have:=v1 (by omega); omega
    have o : Owns H0 H ((idF,.cells 12 (flat (ms.map (fuB c d))) 0)::(id,s.obj)::(id9,.cells 5 d.cells 0)::(id8,.cells 12 z12 0)::(inB ms++l)):=o.swap;refine tt ?_;refine ⟨⟨v0,vl⟩, ?_⟩;refine rd_elA (f:=fuB c d) o vl ?_
    have hm : ms.getD v.toNat default∈ms:=mem_getD.mpr ⟨_,vl,rfl⟩
    generalize ms.getD v.toNat default=m at hm;refine tt ?_
    have o : Owns H0 H ((id8,.cells 12 z12 0)::(id,s.obj)::(idF,.cells 12 (flat (ms.map (fuB c d))) 0)::(id9,.cells 5 d.cells 0)::(inB ms++l)):=o.pm;refine st_cells o (by simp [z12]) (by (try simp only [go_sem]); (try simp)) (by first | (simp only [go_sem]; done) | ((try simp only [go_sem]); simp [AV.one,one_mL])) fun H o=>?_;unfold z12 at o;simp only [wr_cons,wr_nil,List.set_cons_zero,List.set_cons_succ] at o;refine tt ?_;rw [o.rc 12 0 (by simp)];refine tt ?_;exact ⟨H,.refl _,d,s,inB [m],⟨hds,hd⟩,⟨m,rfl,rfl,hsh m hm⟩,hs,o.subl (.cons _ (.cons_cons _ (.cons _ (.cons _ (List.Sublist.append_right (inB_mem hm) l)))))⟩
   ·refine tt ?_;exact wkW_done ⟨s,rfl,hs,o.subl (.cons_cons _ (.cons _ (.cons_cons _ (.cons_cons _ (List.sublist_append_right _ _)))))⟩
 clear o hs
 rintro σ H ⟨s,rfl,hs,o⟩
 have hself : ∀ (s : Src) (H : Heap),s.Ok→Owns H0 H ((id,s.obj)::(id9,.cells 5 d.cells 0)::(id8,.cells 12 z12 0)::l)→CallH Tryz.prog B 90 [.agg c.cells] H fun r H'=>∃ m : FB,r=fuB c c m∧(TyO c c m.1.2∧Fn c c m.1.2 m.2.2)∧Owns H0 H' ((id8,.cells 12 z12 0)::(id,s.obj)::(id9,.cells 5 d.cells 0)::(inB [m]++l)):=fun s H hs o=>by
  refine ((l06SelfT B hc).run H).mono ?_
  rintro r H' ⟨p,⟨m,rfl,rfl,hm⟩,o2⟩;exact ⟨m,rfl,hm,(o.trans o2).pm⟩
 refine tt ?_;refine rd_cells o.tl (by simp [Cat.cells]) ?_;refine tt ?_
 by_cases h1 : 0<d.objs
 ·rw [decide_eq_true h1];refine tt ?_;refine (l01Next_ok B 2).go hs o fun r s H _ ⟨v,e,_⟩ hs o=>?_;subst e;refine tt ?_;apply bk <;> intro h2
  ·refine tt ?_
   have g9:=o.get (id9,_) (.tail _ (.head _));refine ⟨⟨_,_,g9⟩,rd_getn g9 (by simp [Cat.cells]) ?_⟩;refine tt ?_;refine ⟨⟨_,_,g9⟩,rd_get g9 (by simp [Cat.cells]) ?_⟩;refine tt ?_;refine (l01Next_ok B d.objs).goZ hs o fun r s H _ ⟨y,e,y0,y1,_⟩ hs o hz=>⟨hz, ?_⟩;subst e
   have hy : d.ObR y:=⟨y0,y1 (by omega)⟩;refine tt ?_;refine ((l06ConstantT B hc hd hy).run H).mono ?_
   rintro r H' ⟨p,⟨m,rfl,rfl,hm⟩,o2⟩;refine ⟨o2.sub, ?_⟩
   have o : Owns H0 H' ((id8,.cells 12 z12 0)::(id,s.obj)::(id9,.cells 5 d.cells 0)::(inB [m]++l)):=(o.trans o2).pm;refine tt ?_;refine st_cells o (by simp [z12]) (by (try simp only [go_sem]); (try simp)) (by first | (simp only [go_sem]; done) | ((try simp only [go_sem]); simp [AV.one,one_mL])) fun H o=>?_;unfold z12 at o;simp only [wr_cons,wr_nil,List.set_cons_zero,List.set_cons_succ] at o;refine tt ?_;rw [o.rc 12 0 (by simp)];refine tt ?_;exact ⟨H,.refl _,d,s,inB [m],⟨hds,hd⟩,⟨m,rfl,rfl,hm⟩,hs,o.subl (.cons _ (.cons_cons _ (.cons _ (.refl _))))⟩
  ·refine tt ?_;refine (hself s H hs o).mono ?_;clear o
   rintro r H ⟨m,rfl,hm,o⟩;refine tt ?_;refine st_cells o (by simp [z12]) (by (try simp only [go_sem]); (try simp)) (by first | (simp only [go_sem]; done) | ((try simp only [go_sem]); simp [AV.one,one_mL])) fun H o=>?_;unfold z12 at o;simp only [wr_cons,wr_nil,List.set_cons_zero,List.set_cons_succ] at o;refine tt ?_;rw [o.rc 12 0 (by simp)];refine tt ?_;exact ⟨H,.refl _,c,s,inB [m],⟨hcs,hc⟩,⟨m,rfl,rfl,hm⟩,hs,o.subl (.cons _ (.cons_cons _ (.cons _ (.refl _))))⟩
 ·rw [decide_eq_false h1];refine tt ?_;refine (hself s H hs o).mono ?_;clear o
  rintro r H ⟨m,rfl,hm,o⟩;refine tt ?_;refine st_cells o (by simp [z12]) (by (try simp only [go_sem]); (try simp)) (by first | (simp only [go_sem]; done) | ((try simp only [go_sem]); simp [AV.one,one_mL])) fun H o=>?_;unfold z12 at o;simp only [wr_cons,wr_nil,List.set_cons_zero,List.set_cons_succ] at o;refine tt ?_;rw [o.rc 12 0 (by simp)];refine tt ?_;exact ⟨H,.refl _,c,s,inB [m],⟨hcs,hc⟩,⟨m,rfl,rfl,hm⟩,hs,o.subl (.cons _ (.cons_cons _ (.cons _ (.refl _))))⟩
theorem l15Lifts_ok (B : Nat) {k : FU} (hk : FuOk k) (x y e due : Int) (he : k.tgt.ArR e) : Pur Tryz.prog B 236 [.agg k.cells,iI x,iI y,iI e,iI due] (iL (liftU k x y e due)):=by
 refine ⟨fun H0=>c236 (by simp) fun _=>?_⟩;unfold s236
 have o : Owns H0 H0 []:=.nil _
 have hl:=homC_le hk.s x y
 have q0:=l02Hom_ok B k.src hk.s x y
 have hM : ∀ u,u∈homC k.src x y→k.src.ArR u:=fun u hu=>homC_ar hu
 have hS : ∀ n,n<(homC k.src x y).length→ix (ix k.tgt.comp (ix k.ar ((homC k.src x y).getD n default))) e=due→liftN k x y e due (n+1)=liftN k x y e due n++[(homC k.src x y).getD n default]:=fun n h q=>liftN_t h q
 have hF : ∀ n,n<(homC k.src x y).length→¬ ix (ix k.tgt.comp (ix k.ar ((homC k.src x y).getD n default))) e=due→liftN k x y e due (n+1)=liftN k x y e due n:=fun n h q=>liftN_f h q
 have hE:=liftN_full (k:=k) (x:=x) (y:=y) (e:=e) (due:=due) (n:=(homC k.src x y).length) (Nat.le_refl _)
 generalize homC k.src x y=L at hl q0 hM hS hF hE;refine tt ?_;refine q0.go fun _=>tt ?_;refine new_list iI o fun id H o=>tt ?_;refine awp_for [3,4,5,11] (G:=Nat × List Int) (fun n g=>[(12,some (.buf g.1 g.2.length)),(13,some (.int .i64 (n : Int)))]) (fun n g H=>g.2=liftN k x y e due n∧Owns H0 H [(g.1,.cells 1 (g.2.map iI) 0)]) L.length (id,[]) ⟨by simp [liftN],o⟩ rfl ?_;clear o
 rintro n ⟨id,out⟩ H hn ⟨hout,o⟩;dsimp only at hout o
 have hol : out.length≤n:=by rw [hout]; exact liftN_len
 refine tt ?_;apply bk <;> intro h1
 ·have h1p : n<L.length:=of_decide h1
  have w:=wsucc (k:=n) (by omega)
  have ha:=hM _ (mem_getD.mpr ⟨n,h1p,rfl⟩)
  have q1:=l02Then_t B hk.t (a:=ix k.ar (L.getD n default)) (b:=e) (hk.a.ar ha).1 he;refine tt ?_;refine ⟨h1p,hk.arI ha,_,q1.run, ?_⟩
  by_cases c1 : ix (ix k.tgt.comp (ix k.ar (L.getD n default))) e=due
  ·refine tt ?_;rw [decide_eq_true c1];refine tt ?_;refine ⟨h1p, ?_⟩;refine app_own (L.getD n default) o rfl rfl (by simp only [maxL]; omega) fun z H o=>?_;refine tw w ?_;exact for_next (z,out++[L.getD n default]) h1p ⟨by rw [hout,hS n h1p c1],o⟩ rfl
  ·refine tt ?_;rw [decide_eq_false c1];refine tw w ?_;exact for_next (id,out) h1p ⟨by rw [hout,hF n h1p c1],o⟩ rfl
 ·have h1p:=of_ndecide h1;refine tt ?_;refine fz_own o rfl fun H o=>tt ?_;exact pure_ret (by rw [hout,show n=L.length by omega,hE]) o.sub
theorem l15Universal_ok (B : Nat) {k : FU} (hk : FuOk k) (y x e : Int) (he : k.tgt.ArR e) : Pur Tryz.prog B 254 [.agg k.cells,iI y,iI x,iI e] (.bool (dec (Uni k y x e))):=by
 refine ⟨fun H0=>c254 (by simp) fun _=>?_⟩;unfold s254
 have ho:=hk.s.o;refine tt ?_;refine awp_for [1,2,3,4] (G:=Unit) (fun z _=>[(9,some (.int .i64 (z : Int)))]) (fun z _ H=>H=H0∧∀ i : Nat,i<z→UniZ k y x e i) k.src.objs.toNat () ⟨rfl,fun i hi=>by omega⟩ rfl ?_
 rintro z _ H hz ⟨rfl,hall⟩;refine tt ?_;apply bk <;> intro h1
 ·have h1p : (z : Int)<k.src.objs:=of_decide h1
  have w:=wsucc (k:=z) (by omega)
  have hb : z<k.ob.length:=by have:=hk.o.len; omega
  have hl:=homC_le hk.t (k.ob.getD z default) y
  have q0:=l02Hom_ok B k.tgt hk.t (k.ob.getD z default) y
  have hU : UniZ k y x e z↔∀ j : Nat,j<(homC k.tgt (k.ob.getD z default) y).length→(liftU k z x e ((homC k.tgt (k.ob.getD z default) y).getD j default)).length=1:=Iff.rfl
  generalize homC k.tgt (k.ob.getD z default) y=L at hl q0 hU;refine tt ?_;refine ⟨hb,_,q0.run,tt ?_⟩;refine awp_for [1,2,3,4,9,10] (G:=Unit) (fun j _=>[(11,some (.int .i64 (j : Int)))]) (fun j _ H'=>H'=H∧∀ i : Nat,i<j→(liftU k z x e (L.getD i default)).length=1) L.length () ⟨rfl,fun i hi=>by omega⟩ rfl ?_
  rintro j _ H hj ⟨rfl,hal2⟩;refine tt ?_;apply bk <;> intro h2
  ·have h2p : j<L.length:=of_decide h2
   have w2:=wsucc (k:=j) (by omega)
   have q2:=l15Lifts_ok B hk z x e (L.getD j default) he;refine tt ?_;refine ⟨h2p,_,q2.run,tt ?_⟩
   by_cases c1 : (liftU k z x e (L.getD j default)).length=1
   ·have c2 : decide (((liftU k z x e (L.getD j default)).length : Int)=1)=true:=decide_eq_true (by omega);try simp only [go_sem,↓reduceIte,reduceEqDiff,reduceAdd,reduceMul,reduceLeDiff,reduceLT,c2,Bool.not_true]
    refine tw w2 ?_;exact for_next () h2p ⟨rfl,lt_succ_all hal2 c1⟩ rfl
   ·have c2 : decide (((liftU k z x e (L.getD j default)).length : Int)=1)=false:=decide_eq_false (by omega);try simp only [go_sem,↓reduceIte,reduceEqDiff,reduceAdd,reduceMul,reduceLeDiff,reduceLT,c2,Bool.not_false]
    exact pure_ret (by rw [dec_f fun q=>c1 (hU.mp (q z (by omega)) j h2p)]) (.refl _)
  ·have h2p:=of_ndecide h2;refine tw w ?_;exact for_next () (by omega) ⟨rfl,lt_succ_all hall (hU.mpr fun i hi=>hal2 i (by omega))⟩ rfl
 ·have h1p:=of_ndecide h1;refine tt ?_;exact pure_ret (by rw [dec_t (show Uni k y x e from fun i hi=>hall i (by omega))]) (.refl _)
def FindQ (k : FU) (y : Int) (r : AV) : Prop:=(∃ x e,UniAt k y x e∧r=.tup [iI x,iI e,.bool true])∨r=.tup [iI 0,iI 0,.bool false]
theorem l15Find_ok (B : Nat) {k : FU} (hk : FuOk k) (y : Int) : Rets B 235 [.agg k.cells,iI y] (FindQ k y):=by
 intro H0;refine c235 (by simp) fun _=>?_;unfold s235
 have ho:=hk.s.o;refine tt ?_;refine awp_for [1,2] (G:=Unit) (fun z _=>[(7,some (.int .i64 (z : Int)))]) (fun z _ H=>H=H0) k.src.objs.toNat () rfl rfl ?_
 rintro z _ H hz rfl;refine tt ?_;apply bk <;> intro h1
 ·have h1p : (z : Int)<k.src.objs:=of_decide h1
  have w:=wsucc (k:=z) (by omega)
  have hb : z<k.ob.length:=by have:=hk.o.len; omega
  have hl:=homC_le hk.t (k.ob.getD z default) y
  have q0:=l02Hom_ok B k.tgt hk.t (k.ob.getD z default) y
  have hU : ∀ e,e∈homC k.tgt (k.ob.getD z default) y→k.tgt.ArR e∧e∈homC k.tgt (ix k.ob (z : Int)) y:=fun e he=>⟨homC_ar he,he⟩
  generalize homC k.tgt (k.ob.getD z default) y=L at hl q0 hU;refine tt ?_;refine ⟨hb,_,q0.run,tt ?_⟩;refine awp_for [1,2,7,8] (G:=Unit) (fun j _=>[(9,some (.int .i64 (j : Int)))]) (fun j _ H'=>H'=H) L.length () rfl rfl ?_
  rintro j _ H hj rfl;refine tt ?_;apply bk <;> intro h2
  ·have h2p : j<L.length:=of_decide h2
   have w2:=wsucc (k:=j) (by omega)
   have he:=hU _ (mem_getD.mpr ⟨j,h2p,rfl⟩)
   have q2:=l15Universal_ok B hk y z (L.getD j default) he.1;refine tt ?_;refine ⟨h2p,_,q2.run, ?_⟩
   by_cases c1 : Uni k y z (L.getD j default)
   ·rw [dec_t c1];refine tt ?_;refine ⟨h2p,tt ?_⟩;exact rets_ret (.inl ⟨z,L.getD j default,⟨⟨by omega,h1p⟩,he.2,c1⟩,rfl⟩) (.refl _)
   ·rw [dec_f c1];refine tw w2 ?_;exact for_next () h2p rfl rfl
  ·have h2p:=of_ndecide h2;refine tw w ?_;exact for_next () (by omega) rfl rfl
 ·have h1p:=of_ndecide h1;refine tt ?_;exact rets_ret (.inr rfl) (.refl _)
theorem l15Own_ok (B : Nat) (k : FU) : Pur Tryz.prog B 191 [.agg k.cells] (.agg k.cells):=by
 refine ⟨fun H0=>c191 (by simp) fun _=>?_⟩;unfold s191
 have o : Owns H0 H0 []:=.nil _;refine tt ?_;refine nb o fun id H o=>tt ?_;refine (l06MakeP B k.src k.tgt k.ob k.ar).go fun _=>tt ?_;refine sw o fun H o=>tt ?_
 have hr:=o.rc 12 0 (by simp);simp only [List.drop_zero] at hr;rw [hr];exact pure_ret rfl o.sub
theorem getDs_lt {l : List Int} {x : Int} {i : Nat} (h : i<l.length) : (l++[x]).getD i default=l.getD i default:=by
 rw [List.getD_eq_getElem?_getD,List.getD_eq_getElem?_getD,List.getElem?_append_left h]
theorem getDs_eq {l : List Int} {x : Int} {i : Nat} (h : l.length=i) : (l++[x]).getD i default=x:=by
 subst h; simp [List.getD_eq_getElem?_getD]
def z26 : List AV:=[.int .i64 0,.nilsl,.nilsl,.nilsl,.nilsl,.int .i64 0,.nilsl,.nilsl,.nilsl,.nilsl,.nilsl,.nilsl,.int .i64 0,.nilsl,.nilsl,.nilsl,.nilsl,.int .i64 0,.nilsl,.nilsl,.nilsl,.nilsl,.nilsl,.nilsl,.nilsl,.nilsl]
def RaQ (r : AV) : Prop:=(∃ a : AJ,a.l.src.Shape∧a.l.tgt.Shape∧a.r.src=a.l.tgt∧a.r.tgt=a.l.src∧(a.u.length≤8∧a.v.length≤8)∧r=.tup [.agg a.cells,.bool true])∨r=.tup [.agg z26,.bool false]
theorem l15Right_ok (B : Nat) {k : FU} (hk : FuOk k) : Rets B 193 [.agg k.cells] RaQ:=by
 intro H0;refine c193p (by simp) fun _=>?_;unfold s193p
 have o : Owns H0 H0 []:=.nil _
 have ho:=hk.s.o
 have hm:=hk.s.m
 have hto:=hk.t.o
 have htm:=hk.t.m
 have httl:=hk.t.tol
 have hf:=l15Find_ok B hk;refine tt ?_;refine nb o fun i2 H o=>tt ?_;refine cut_at (fun σ H=>∃ i4 i5,σ=[(1,some (.ptr k.cells)),(2,some (.ref i2 0)),(4,some (.ref i4 0)),(5,some (.ref i5 0))]∧Owns H0 H [(i4,.cells 5 k.src.cells 0),(i5,.cells 5 k.tgt.cells 0),(i2,.cells 26 z26 0)]) ?_ ?_
 ·refine tt ?_;refine ⟨?_, ?_⟩
  ·refine newRef_own o fun i4 H o=>tt ?_;refine newRef_own o fun i5 H o=>tt ?_;refine sw o.swap fun H o=>tt ?_;refine sw o.swap fun H o=>tt ?_;exact wkW_done ⟨i4,i5,rfl,o.swap⟩
  ·refine newRef_own o fun i5 H o=>tt ?_;refine newRef_own o fun i4 H o=>tt ?_;refine sw o fun H o=>tt ?_;refine sw o.swap fun H o=>tt ?_;exact wkW_done ⟨i4,i5,rfl,o.swap⟩
 clear o
 rintro σ H ⟨i4,i5,rfl,o⟩;refine tt ?_;refine wk_ref 4 o rfl fun H o=>wk_ref 5 o rfl fun H o=>wkW_done ?_;refine tt ?_;refine new_list iI o fun i6 H o=>tt ?_;refine new_list iI o fun i7 H o=>tt ?_;refine new_list iI o fun i8 H o=>tt ?_;refine new_list iI o fun i9 H o=>tt ?_
 refine awp_for [1,2,4,5,8,9] (G:=(Nat × List Int) × (Nat × List Int)) (fun y g=>[(6,some (.buf g.1.1 g.1.2.length)),(7,some (.buf g.2.1 g.2.2.length)),(10,some (.int .i64 (y : Int)))])
  (fun y g H=>((g.1.2.length=y∧g.2.2.length=y)∧∀ i : Nat,i<y→UniAt k i (g.1.2.getD i default) (g.2.2.getD i default))∧Owns H0 H [(g.1.1,.cells 1 (g.1.2.map iI) 0),(g.2.1,.cells 1 (g.2.2.map iI) 0),(i9,.cells 1 [] 0),(i8,.cells 1 [] 0),(i2,.cells 26 z26 0)]) k.tgt.objs.toNat ((i6,[]),(i7,[])) ⟨⟨⟨rfl,rfl⟩,fun i hi=>by omega⟩,o.pm⟩ rfl ?_
 clear o
 rintro y ⟨⟨i6,xs⟩,⟨i7,es⟩⟩ H hy ⟨⟨⟨hx,he⟩,hall⟩,o⟩;dsimp only at hx he hall o;refine tt ?_;apply bk <;> intro h1
 ·have h1p : (y : Int)<k.tgt.objs:=of_decide h1
  have w:=wsucc (k:=y) (by omega);refine tt ?_;refine (hf y).go fun r _ q=>?_
  rcases q with ⟨x,e,hu,rfl⟩ | rfl
  ·refine tt ?_;refine app_own x o rfl rfl (by simp only [maxL]; omega) fun i6 H o=>tt ?_;refine app_own e o.swap rfl rfl (by simp only [maxL]; omega) fun i7 H o=>?_;refine tw w ?_;refine for_next ((i6,xs++[x]),(i7,es++[e])) (by omega) ⟨⟨⟨by simp [hx],by simp [he]⟩,fun i hi=>?_⟩,o.swap⟩ rfl
   rcases Nat.lt_or_ge i y with q | q
   ·show UniAt k i ((xs++[x]).getD i default) ((es++[e]).getD i default)
    rw [getDs_lt (by omega),getDs_lt (by omega)];exact hall i q
   ·obtain rfl : i=y:=by omega
    show UniAt k i ((xs++[x]).getD i default) ((es++[e]).getD i default)
    rw [getDs_eq hx,getDs_eq he];exact hu
  ·refine tt ?_;refine st_cells (o.pull [_,_,_,_]) (by simp [z26]) (by (try simp only [go_sem]); (try simp)) (by first | (simp only [go_sem]; done) | ((try simp only [go_sem]); simp [AV.one,one_mL])) fun H o=>?_;unfold z26 at o;simp only [wr_cons,wr_nil,List.set_cons_zero,List.set_cons_succ] at o;refine tt ?_;rw [o.rc 26 0 (by simp)];exact rets_ret (.inr rfl) o.sub
 have h1p:=of_ndecide h1;refine tt ?_;refine fz_own o.swap rfl fun H o=>tt ?_;refine fz_own o rfl fun H o=>?_
 have hU : ∀ v,k.tgt.ObR v→UniAt k v (ix xs v) (ix es v):=fun v hv=>by
  have h1:=hv.1
  have h2:=hv.2
  have q:=hall v.toNat (by omega);rw [Int.toNat_of_nonneg h1] at q;exact q
 have hX : ∀ v,k.tgt.ObR v→(0≤v∧v.toNat<xs.length)∧0≤v∧v.toNat<es.length:=fun v hv=>by
  have h1:=hv.1
  have h2:=hv.2;exact ⟨⟨h1,by omega⟩,h1,by omega⟩
 clear hall hf;refine tt ?_
 refine awp_for [1,2,4,5,6,7,9] (G:=Nat × List Int) (fun g l=>[(8,some (.buf l.1 l.2.length)),(14,some (.int .i64 (g : Int)))])
  (fun g l H=>l.2.length=g∧Owns H0 H [(l.1,.cells 1 (l.2.map iI) 0),(i9,.cells 1 [] 0),(i2,.cells 26 z26 0)]) k.tgt.frm.length (i8,[]) ⟨rfl,o.pm⟩ rfl ?_
 clear o
 rintro g ⟨i8,ms⟩ H hg ⟨hal,o⟩;dsimp only at hal o;refine tt ?_;apply bk <;> intro h2
 ·have h2p : g<k.tgt.frm.length:=of_decide h2
  have w:=wsucc (k:=g) (by omega)
  have hgA : k.tgt.ArR (g : Int):=⟨by omega,by omega⟩
  have hy1 : k.tgt.ObR (k.tgt.frm.getD g default):=hk.t.frm _ (mem_getD.mpr ⟨g,h2p,rfl⟩)
  have hz1 : k.tgt.ObR (k.tgt.to.getD g default):=hk.t.to _ (mem_getD.mpr ⟨g,by omega,rfl⟩)
  have u1:=hU _ hy1
  have u2:=hU _ hz1
  have x1:=hX _ hy1
  have x2:=hX _ hz1
  have q1:=l02Then_t B hk.t (homC_ar u1.me) hgA
  have q2:=l15Lifts_ok B hk (ix xs (k.tgt.frm.getD g default)) (ix xs (k.tgt.to.getD g default)) (ix es (k.tgt.to.getD g default)) (ix (ix k.tgt.comp (ix es (k.tgt.frm.getD g default))) g) (homC_ar u2.me)
  have l1:=UniAt.behind hk u1 u2 hgA rfl rfl
  generalize liftU k (ix xs (k.tgt.frm.getD g default)) (ix xs (k.tgt.to.getD g default)) (ix es (k.tgt.to.getD g default)) (ix (ix k.tgt.comp (ix es (k.tgt.frm.getD g default))) g)=L at q2 l1
  obtain ⟨u,rfl⟩:=List.length_eq_one_iff.mp l1;refine tt ?_;refine ⟨h2p,by omega,tt ?_⟩;refine ⟨x1.1,x2.1,x2.2,x1.2,_,q1.run,_,q2.run,⟨by decide,by simp; rfl⟩, ?_⟩
  have e0 : (List.map iI [u]).getD (Int.toNat 0) nv=iI u:=rfl;refine tw e0 ?_
  have e1 : ldE none (some (AV.ptr (iI u).cells))=some (True,iI u):=rfl;refine tw e1 ?_;refine app_own (u) o rfl rfl (by simp only [maxL]; omega) fun i8 H o=>?_;refine tw w ?_;exact for_next (i8,ms++[u]) h2p ⟨by simp [hal],o⟩ rfl
 have h2p:=of_ndecide h2;refine tt ?_;refine fz_own o rfl fun H o=>tt ?_
 refine awp_for [1,2,4,5,6,7,8] (G:=Nat × List Int) (fun x l=>[(9,some (.buf l.1 l.2.length)),(17,some (.int .i64 (x : Int)))])
  (fun x l H=>l.2.length=x∧Owns H0 H [(l.1,.cells 1 (l.2.map iI) 0),(i2,.cells 26 z26 0)]) k.src.objs.toNat (i9,[]) ⟨rfl,o⟩ rfl ?_
 clear o
 rintro x ⟨i9,us⟩ H hx2 ⟨hul,o⟩;dsimp only at hul o;refine tt ?_;apply bk <;> intro h3
 ·have h3p : (x : Int)<k.src.objs:=of_decide h3
  have w:=wsucc (k:=x) (by omega)
  have hb : x<k.ob.length:=by have:=hk.o.len; omega
  have hxO : k.src.ObR (x : Int):=⟨by omega,h3p⟩
  have hy1 : k.tgt.ObR (k.ob.getD x default):=hk.o.ob x hxO
  have u1:=hU _ hy1
  have x1:=hX _ hy1
  have q2:=l15Lifts_ok B hk x (ix xs (k.ob.getD x default)) (ix es (k.ob.getD x default)) (ix k.tgt.idn (k.ob.getD x default)) (homC_ar u1.me)
  have l1:=UniAt.unit hk hxO u1
  have hi : 0≤k.ob.getD x default∧(k.ob.getD x default).toNat<k.tgt.idn.length:=by have:=hk.t.il; have h1:=hy1.1; have h2:=hy1.2; exact ⟨h1,by omega⟩
  replace l1 : (liftU k x (ix xs (k.ob.getD x default)) (ix es (k.ob.getD x default)) (ix k.tgt.idn (k.ob.getD x default))).length=1:=l1
  generalize liftU k x (ix xs (k.ob.getD x default)) (ix es (k.ob.getD x default)) (ix k.tgt.idn (k.ob.getD x default))=L at q2 l1
  obtain ⟨u,rfl⟩:=List.length_eq_one_iff.mp l1;refine tt ?_;refine ⟨hb,tt ?_⟩;refine ⟨x1.1,x1.2,hi,_,q2.run,⟨by decide,by simp; rfl⟩, ?_⟩
  have e0 : (List.map iI [u]).getD (Int.toNat 0) nv=iI u:=rfl;refine tw e0 ?_
  have e1 : ldE none (some (AV.ptr (iI u).cells))=some (True,iI u):=rfl;refine tw e1 ?_;refine app_own (u) o rfl rfl (by simp only [maxL]; omega) fun i9 H o=>?_;refine tw w ?_;exact for_next (i9,us++[u]) (by omega) ⟨by simp [hul],o⟩ rfl
 have h3p:=of_ndecide h3;refine tt ?_;refine fz_own o rfl fun H o=>?_
 have q3:=l15Own_ok B k
 have q4:=l06MakeP B k.tgt k.src xs ms;refine tt ?_;refine ⟨_,q3.run,_,q4.run,tt ?_⟩;refine st_cells o (by simp [z26]) (by (try simp only [go_sem]); (try simp)) (by first | (simp only [go_sem]; done) | ((try simp only [go_sem]); simp [AV.one,one_mL])) fun H o=>?_;unfold z26 at o;simp only [wr_cons,wr_nil,List.set_cons_zero,List.set_cons_succ] at o;refine tt ?_;rw [o.rc 26 0 (by simp)];exact rets_ret (.inl ⟨⟨k,⟨k.tgt,k.src,xs,ms⟩,us,es⟩,hk.s,hk.t,rfl,rfl,⟨by show us.length≤8; omega,by show es.length≤8; omega⟩,rfl⟩) o.sub
end Go.Proofs.Shf
namespace Go.Shf
open Go.AW
section
variable {c : Cat} {ls : List Int}
def fatR (c : Cat) (ls : List Int) (i j : Nat) : List (List Int):=(homC c (ls.getD i default) (ls.getD j default)).map fun h=>[(i : Int),(j : Int),h]
def fatI (c : Cat) (ls : List Int) (i m : Nat) : List (List Int):=(List.range m).flatMap fun j=>fatR c ls i j
def fatA (c : Cat) (ls : List Int) (m : Nat) : List (List Int):=(List.range m).flatMap fun i=>fatI c ls i ls.length
def fatK (c : Cat) (ls : List Int) (i j k : Nat) : List (List Int):=((homC c (ls.getD i default) (ls.getD j default)).take k).map fun h=>[(i : Int),(j : Int),h]
theorem fatI_succ (i m : Nat) : fatI c ls i (m+1)=fatI c ls i m++fatR c ls i m:=by rw [fatI,List.range_succ,List.flatMap_append]; simp [fatI]
theorem fatA_succ (m : Nat) : fatA c ls (m+1)=fatA c ls m++fatI c ls m ls.length:=by rw [fatA,List.range_succ,List.flatMap_append]; simp [fatA]
theorem fatK_succ {i j k : Nat} (h : k<(homC c (ls.getD i default) (ls.getD j default)).length) :
  fatK c ls i j (k+1)=fatK c ls i j k++[[(i : Int),(j : Int),(homC c (ls.getD i default) (ls.getD j default)).getD k default]]:=by
 rw [fatK,take_succ' _ h,List.map_append]; rfl
theorem fatK_full {i j k : Nat} (h : (homC c (ls.getD i default) (ls.getD j default)).length≤k) : fatK c ls i j k=fatR c ls i j:=by
 rw [fatK,List.take_of_length_le h]; rfl
theorem fatK_le (hc : c.Shape) (i j k : Nat) : (fatK c ls i j k).length≤40:=by
 have:=homC_le hc (ls.getD i default) (ls.getD j default);rw [fatK,List.length_map,List.length_take]; omega
theorem fatR_le (hc : c.Shape) (i j : Nat) : (fatR c ls i j).length≤40:=by
 have:=homC_le hc (ls.getD i default) (ls.getD j default);rw [fatR,List.length_map]; omega
theorem fatI_le (hc : c.Shape) (i : Nat) : ∀ m,(fatI c ls i m).length≤40*m
 | 0=>by simp [fatI]
 | m+1=>by
  have:=fatI_le hc i m
  have:=fatR_le (ls:=ls) hc i m;rw [fatI_succ,List.length_append]; omega
theorem fatA_le (hc : c.Shape) (hl : ls.length≤20) : ∀ m,(fatA c ls m).length≤800*m
 | 0=>by simp [fatA]
 | m+1=>by
  have:=fatA_le hc hl m
  have:=fatI_le (ls:=ls) hc m ls.length;rw [fatA_succ,List.length_append]; omega
theorem mem_fat {a : List Int} : a∈fatA c ls ls.length↔∃ (i j : Nat) (h : Int),i<ls.length∧j<ls.length∧h∈homC c (ls.getD i default) (ls.getD j default)∧a=[(i : Int),(j : Int),h]:=by
 rw [fatA,List.mem_flatMap]
 constructor
 ·rintro ⟨i,hi,m⟩;rw [fatI,List.mem_flatMap] at m
  obtain ⟨j,hj,m⟩:=m;rw [fatR,List.mem_map] at m
  obtain ⟨h,hh,rfl⟩:=m;exact ⟨i,j,h,List.mem_range.mp hi,List.mem_range.mp hj,hh,rfl⟩
 ·rintro ⟨i,j,h,hi,hj,hh,rfl⟩;refine ⟨i,List.mem_range.mpr hi, ?_⟩;rw [fatI,List.mem_flatMap];refine ⟨j,List.mem_range.mpr hj, ?_⟩;rw [fatR,List.mem_map];exact ⟨h,hh,rfl⟩
structure FatOk (c : Cat) (ls : List Int) (a : List Int) : Prop where
 len : a.length=3
 i : 0≤a.getD 0 default∧(a.getD 0 default).toNat<ls.length
 j : 0≤a.getD 1 default∧(a.getD 1 default).toNat<ls.length
 h : a.getD 2 default∈homC c (ix ls (a.getD 0 default)) (ix ls (a.getD 1 default))
theorem fatOk {a : List Int} (h : a∈fatA c ls ls.length) : FatOk c ls a:=by
 obtain ⟨i,j,h,hi,hj,hh,rfl⟩:=mem_fat.mp h;exact ⟨rfl,⟨by show (0 : Int)≤i; omega,by show ((i : Int)).toNat<_; omega⟩,⟨by show (0 : Int)≤j; omega,by show ((j : Int)).toNat<_; omega⟩,hh⟩
theorem fat_mem {i j h : Int} (hi : 0≤i∧i.toNat<ls.length) (hj : 0≤j∧j.toNat<ls.length) (hh : h∈homC c (ix ls i) (ix ls j)) : [i,j,h]∈fatA c ls ls.length :=
 mem_fat.mpr ⟨i.toNat,j.toNat,h,hi.2,hj.2,hh,by rw [Int.toNat_of_nonneg hi.1,Int.toNat_of_nonneg hj.1]⟩
def fatE (A : List (List Int)) (x k : Nat) : Int:=(A.getD x default).getD k default
def fatH (c : Cat) (A : List (List Int)) (f g : Nat) : Int :=
 if fatE A f 1=fatE A g 0 then indexOf A [fatE A f 0,fatE A g 1,ix (ix c.comp (fatE A f 2)) (fatE A g 2)] else -1
def fatD (c : Cat) (A : List (List Int)) (ls : List Int) (i : Nat) : Int:=indexOf A [(i : Int),(i : Int),ix c.idn (ls.getD i default)]
def colA (A : List (List Int)) (k : Nat) : List Int:=A.map fun l=>l.getD k default
theorem colA_at {A : List (List Int)} {k x : Nat} (h : x<A.length) : (colA A k).getD x default=fatE A x k:=by rw [colA,map_getD _ h]; rfl
theorem colA_ix {A : List (List Int)} {k : Nat} {x : Int} (h : 0≤x∧x.toNat<A.length) : ix (colA A k) x=fatE A x.toNat k:=by rw [ix,colA_at h.2]
def fatC (c : Cat) (ls : List Int) : Cat :=
 ⟨ls.length,colA (fatA c ls ls.length) 0,colA (fatA c ls ls.length) 1,(List.range ls.length).map (fatD c (fatA c ls ls.length) ls),tabC (fatA c ls ls.length).length (fatH c (fatA c ls ls.length))⟩
theorem fatE_ix {A : List (List Int)} {l : List Int} (h : l∈A) (k : Nat) : fatE A (indexOf A l).toNat k=l.getD k default:=by
 have q:=(indexOf_in h).2.2;rw [ix] at q;rw [fatE,q]
theorem fatC_shape (hc : c.Shape) (hl : ∀ x,x∈ls→c.ObR x) (h8 : ls.length≤8) (h40 : (fatA c ls ls.length).length≤40) : (fatC c ls).Shape:=by
 have hA : ∀ x,x<(fatA c ls ls.length).length→FatOk c ls ((fatA c ls ls.length).getD x default):=fun x hx=>fatOk (mem_getD.mpr ⟨x,hx,rfl⟩)
 have hI : ∀ i : Nat,i<ls.length→[(i : Int),(i : Int),ix c.idn (ls.getD i default)]∈fatA c ls ls.length:=fun i hi=>by
  have ho : c.ObR (ls.getD i default):=hl _ (mem_getD.mpr ⟨i,hi,rfl⟩)
  have q:=hc.idArr ho;exact mem_fat.mpr ⟨i,i,_,hi,hi,homC_mem.mpr ⟨q.1,q.2.1,q.2.2⟩,rfl⟩
 have hE : (fatC c ls)=⟨ls.length,colA (fatA c ls ls.length) 0,colA (fatA c ls ls.length) 1,(List.range ls.length).map (fatD c (fatA c ls ls.length) ls),tabC (fatA c ls ls.length).length (fatH c (fatA c ls ls.length))⟩:=rfl
 have hM : ∀ i j h : Int,(0≤i∧i.toNat<ls.length)→(0≤j∧j.toNat<ls.length)→h∈homC c (ix ls i) (ix ls j)→[i,j,h]∈fatA c ls ls.length:=fun i j h hi hj hh=>fat_mem hi hj hh;rw [hE]
 generalize fatA c ls ls.length=A at *;clear hE
 have fl : (colA A 0).length=A.length:=by simp [colA]
 have tl : (colA A 1).length=A.length:=by simp [colA]
 have sh : Cat.Sh 40 (⟨ls.length,colA A 0,colA A 1,(List.range ls.length).map (fatD c A ls),tabC A.length (fatH c A)⟩ : Cat) :=
  ⟨⟨by show (0 : Int)≤ls.length; omega,by show (ls.length : Int)≤40; omega⟩,by simp,by show (colA A 0).length≤40; omega,by show (colA A 1).length=(colA A 0).length; omega,by show (tabC A.length (fatH c A)).length=(colA A 0).length; rw [tabC_len,fl],
   fun f hf=>by replace hf : f<(colA A 0).length:=hf; show ((tabC A.length (fatH c A)).getD f default).length=(colA A 0).length; rw [tabC_row (by omega),fl]⟩
 refine (Ty.mk' (m:=A.length) (φ:=fatH c A) fl rfl (fun f hf=>?_) (fun f hf=>?_) (fun x hx=>?_) (fun f g hf hg e=>?_) fun f g hf hg e=>?_).shape sh (by show (ls.length : Int)≤8; omega) (by show (colA A 0).length≤40; omega)
 ·show 0≤(colA A 0).getD f default∧(colA A 0).getD f default<(ls.length : Int)
  rw [colA_at hf]
  have q:=(hA f hf).i;exact ⟨q.1,by rw [fatE]; omega⟩
 ·show 0≤(colA A 1).getD f default∧(colA A 1).getD f default<(ls.length : Int)
  rw [colA_at hf]
  have q:=(hA f hf).j;exact ⟨q.1,by rw [fatE]; omega⟩
 ·replace hx : x<ls.length:=by simpa using hx
  have e : ((List.range ls.length).map (fatD c A ls)).getD x default=fatD c A ls x:=getD_map_range _ _ hx
  show (0≤((List.range ls.length).map (fatD c A ls)).getD x default∧((List.range ls.length).map (fatD c A ls)).getD x default<(A.length : Int))∧ix (colA A 0) (((List.range ls.length).map (fatD c A ls)).getD x default)=x∧ix (colA A 1) (((List.range ls.length).map (fatD c A ls)).getD x default)=x
  rw [e]
  have q:=indexOf_in (hI x hx);refine ⟨⟨q.1,by rw [fatD]; have:=q.2.1; omega⟩, ?_, ?_⟩
  ·rw [fatD,colA_ix ⟨q.1,q.2.1⟩,fatE_ix (hI x hx)]; rfl
  ·rw [fatD,colA_ix ⟨q.1,q.2.1⟩,fatE_ix (hI x hx)]; rfl
 ·dsimp only at e;rw [colA_at hf,colA_at hg] at e;rw [fatH,if_neg e]
 ·dsimp only at e;rw [colA_at hf,colA_at hg] at e
  have af:=hA f hf
  have ag:=hA g hg
  have m1:=homC_mem.mp af.h
  have m2:=homC_mem.mp ag.h
  have k:=hc.compEnds m1.1 m2.1 (by rw [m1.2.2,m2.2.1]; exact congrArg (ix ls) e)
  have hm : [fatE A f 0,fatE A g 1,ix (ix c.comp (fatE A f 2)) (fatE A g 2)]∈A:=hM _ _ _ af.i ag.j (homC_mem.mpr ⟨k.1,k.2.1.trans m1.2.1,k.2.2.trans m2.2.2⟩)
  have q:=indexOf_in hm
  show (0≤fatH c A f g∧fatH c A f g<(A.length : Int))∧ix (colA A 0) (fatH c A f g)=(colA A 0).getD f default∧ix (colA A 1) (fatH c A f g)=(colA A 1).getD g default
  rw [fatH,if_pos e];refine ⟨⟨q.1,by have:=q.2.1; omega⟩, ?_, ?_⟩
  ·rw [colA_ix ⟨q.1,q.2.1⟩,fatE_ix hm,colA_at hf]; rfl
  ·rw [colA_ix ⟨q.1,q.2.1⟩,fatE_ix hm,colA_at hg]; rfl
def fatF (c : Cat) (ls : List Int) : FU:=⟨fatC c ls,c,ls,colA (fatA c ls ls.length) 2⟩
theorem fatF_ok (hc : c.Shape) (hl : ∀ x,x∈ls→c.ObR x) (h8 : ls.length≤8) (h40 : (fatA c ls ls.length).length≤40) : FuOk (fatF c ls):=by
 have hA : ∀ x,x<(fatA c ls ls.length).length→FatOk c ls ((fatA c ls ls.length).getD x default):=fun x hx=>fatOk (mem_getD.mpr ⟨x,hx,rfl⟩)
 have fl : (colA (fatA c ls ls.length) 0).length=(fatA c ls ls.length).length:=by simp [colA]
 refine ⟨fatC_shape hc hl h8 h40,hc,⟨rfl,fun x hx=>hl _ (mem_getD.mpr ⟨x.toNat, ?_,rfl⟩)⟩,⟨by show (colA (fatA c ls ls.length) 2).length=(colA (fatA c ls ls.length) 0).length; simp [colA],fun a ha=>.inr ?_⟩,fun i hi=>?_⟩
 ·have h1:=hx.1
  have h2 : x<(ls.length : Int):=hx.2
  show x.toNat<ls.length
  omega
 ·have h1 : 0≤a:=ha.1
  have h2 : a.toNat<(colA (fatA c ls ls.length) 0).length:=ha.2
  have af:=hA a.toNat (by omega)
  have m1:=homC_mem.mp af.h
  show TyE (fatC c ls) c ls a (ix (colA (fatA c ls ls.length) 2) a)
  rw [colA_ix ⟨h1,by omega⟩];refine ⟨m1.1, ?_, ?_⟩
  ·show ix c.frm _=ix ls (ix (colA (fatA c ls ls.length) 0) a)
   rw [colA_ix ⟨h1,by omega⟩]; exact m1.2.1
  ·show ix c.to _=ix ls (ix (colA (fatA c ls ls.length) 1) a)
   rw [colA_ix ⟨h1,by omega⟩]; exact m1.2.2
 ·have h2 : i<(colA (fatA c ls ls.length) 0).length:=hi
  show 0≤(colA (fatA c ls ls.length) 2).getD i default
  rw [colA_at (by omega)];exact (homC_mem.mp (hA i (by omega)).h).1.1
end
end Go.Shf
namespace Go.Proofs.Shf
open Go.AW Go.Proofs Go.Shf
theorem l06Op_ok (B : Nat) {k : FU} (h1 : k.src.Shape) (h2 : k.tgt.Shape) : Pur Tryz.prog B 194 [.agg k.cells] (.agg (opF k).cells):=by
 refine ⟨fun H0=>c194 (by simp) fun _=>?_⟩;unfold s194
 have o : Owns H0 H0 []:=.nil _
 have q1:=l03OpP B 40 (by omega) k.src (shape_good40 h1)
 have q2:=l03OpP B 40 (by omega) k.tgt (shape_good40 h2)
 have q3:=l06MakeP B (opC k.src) (opC k.tgt) k.ob k.ar
 have e : (.agg (opF k).cells : AV)=.agg (FU.cells ⟨opC k.src,opC k.tgt,k.ob,k.ar⟩):=rfl;rw [e];clear e
 generalize opC k.src=c1 at q1 q3
 generalize opC k.tgt=c2 at q2 q3;refine tt ?_;refine nb o fun id H o=>tt ?_;refine ⟨_,q1.run,_,q2.run,tt ?_⟩;refine ⟨_,q3.run,tt ?_⟩;refine sw o fun H o=>tt ?_
 have hr:=o.rc 12 0 (by simp);simp only [List.drop_zero] at hr;rw [hr];exact pure_ret rfl o.sub
theorem l15Op_ok (B : Nat) (a : AJ) (h1 : a.l.src.Shape) (h2 : a.l.tgt.Shape) (h3 : a.r.src.Shape) (h4 : a.r.tgt.Shape) : Pur Tryz.prog B 195 [.agg a.cells] (.agg (AJ.cells ⟨opF a.r,opF a.l,a.v,a.u⟩)):=by
 refine ⟨fun H0=>c195 (by simp) fun _=>?_⟩;unfold s195
 have o : Owns H0 H0 []:=.nil _
 have q1:=l06Op_ok B h3 h4
 have q2:=l06Op_ok B h1 h2
 have q3:=l01Own_ok B a.v
 have q4:=l01Own_ok B a.u
 generalize opF a.r=r at q1
 generalize opF a.l=l at q2;refine tt ?_;refine nb o fun i2 H o=>tt ?_;refine ⟨_,q1.run,_,q2.run,_,q3.run,_,q4.run,tt ?_⟩;refine sw o fun H o=>tt ?_
 have hr:=o.rc 26 0 (by simp);simp only [List.drop_zero] at hr;rw [hr];exact pure_ret rfl o.sub
theorem l02FitsX_ok (B : Nat) (n : Int) (l : List Int) (x y z : AV) (hx : x.one=true) (hy : y.one=true) (hz : z.one=true) (H : Heap) : CallH Tryz.prog B 167 [.agg [iI n,iL l,x,y,z]] H fun r H'=>r=.bool (dec (n≤8∧l.length≤40))∧H'=H:=by
 refine c167 (by simp) fun hf=>?_;unfold s167;refine tt ?_;refine ⟨⟨hx,hy,hz⟩,tt ?_⟩;apply bk <;> intro h1
 ·refine tw h1 ?_
  have h1p:=of_decide h1
  exact pure_ret (by
   congr 1
   rw [decide_dec];exact dec_congr ⟨fun h=>⟨h1p,by omega⟩,fun h=>by have:=h.2; omega⟩) (.refl _)
 ·refine tw h1 ?_;exact pure_ret (by rw [dec_f (fun h=>of_ndecide h1 h.1)]) (.refl _)
def FatQ (r : AV) : Prop:=∃ (d : Cat) (k : FU),FuOk k∧r=.tup [.agg d.cells,.agg k.cells]
theorem self_fu {c : Cat} (h : c.Shape) : FuOk ⟨c,c,upL c.objs.toNat,upL c.frm.length⟩:=⟨h,h,(self_ty h).1,(self_ty h).2⟩
def z5 : List AV:=[.int .i64 0,.nilsl,.nilsl,.nilsl,.nilsl]
theorem l11Fat_ok (B : Nat) {c : Cat} (hc : c.Shape) : Rd B 192 [.agg c.cells] FatQ:=by
 intro id s H0 H hs o;refine c192p (by simp) fun _=>?_;unfold s192p
 have ho:=hc.o
 have hm:=hc.m;refine tt ?_;refine newRef_own o fun i4 H o=>tt ?_;refine nb o fun i5 H o=>tt ?_;refine new_list iI o fun i6 H o=>tt ?_
 have o : Owns H0 H [(i6,.cells 1 [] 0),(i5,.cells 12 z12 0),(i4,.cells 5 z5 0),(id,s.obj)]:=o
 refine awp_for [0,3,4,5] (G:=Nat × List Int) (fun x g=>[(6,some (.buf g.1 g.2.length)),(7,some (.int .i64 (x : Int)))])
  (fun x g H=>g.2=upL x∧Owns H0 H [(g.1,.cells 1 (g.2.map iI) 0),(id,s.obj),(i5,.cells 12 z12 0),(i4,.cells 5 z5 0)]) c.objs.toNat (i6,[]) ⟨rfl,o.pm⟩ rfl ?_
 clear o
 rintro x ⟨i6,ls⟩ H hx ⟨hls,o⟩;dsimp only at hls o
 have hll : ls.length=x:=by rw [hls,upL_len]
 refine tt ?_;apply bk <;> intro h1
 ·have h1p : (x : Int)<c.objs:=of_decide h1
  have w:=wsucc (k:=x) (by omega);refine tt ?_;refine app_own (x : Int) o rfl rfl (by simp only [maxL]; omega) fun i6 H o=>?_;refine tw w ?_;exact for_next (i6,ls++[(x : Int)]) (by omega) ⟨by rw [hls,upL_succ],o⟩ rfl
 have h1p:=of_ndecide h1
 have hob : ∀ y,y∈ls→c.ObR y:=fun y hy=>by
  rw [hls,upL,List.mem_map] at hy
  obtain ⟨i,hi,rfl⟩:=hy
  have hi:=List.mem_range.mp hi;exact ⟨by show (0 : Int)≤i; omega,by show (i : Int)<c.objs; omega⟩
 have hl8 : ls.length≤8:=by omega
 have o:=o.swap;refine tt ?_;refine cut_at (fun σ H=>∃ (i6 : Nat) (ls : List Int) (s : Src),σ=[(3,some (.ptr c.cells)),(4,some (.ref i4 0)),(5,some (.ref i5 0)),(6,some (.buf i6 ls.length))]∧((∀ y,y∈ls→c.ObR y)∧ls.length≤10∧s.Ok)∧Owns H0 H [(i6,.cells 1 (ls.map iI) 0),(id,s.obj),(i5,.cells 12 z12 0),(i4,.cells 5 z5 0)]) ?_ ?_
 ·refine tt ?_;refine (l01Next_ok B 3).go hs o fun r s H _ ⟨v,e,v0,v1,_⟩ hs o=>?_;subst e
  have v1:=v1 (by omega);refine tt ?_
  refine awp_for [0,3,4,5] (G:=(Nat × List Int) × Src) (fun x g=>[(6,some (.buf g.1.1 g.1.2.length)),(8,some (.int .i64 (v - (x : Int))))])
   (fun x g H=>((∀ y,y∈g.1.2→c.ObR y)∧g.1.2.length≤8+x∧g.2.Ok)∧Owns H0 H [(id,g.2.obj),(g.1.1,.cells 1 (g.1.2.map iI) 0),(i5,.cells 12 z12 0),(i4,.cells 5 z5 0)]) v.toNat ((i6,ls),s) ⟨⟨hob,by omega,hs⟩,o⟩ (by simp; rfl) ?_
  rintro n ⟨⟨i6,ls⟩,s⟩ H hn ⟨⟨hob,hl8,hs⟩,o⟩;dsimp only at hob hl8 hs o;refine tt ?_;apply bk <;> intro h2
  ·have h2p : 0<v - n:=of_decide h2;refine tw h2 ?_
   by_cases h3 : 0<c.objs
   ·rw [decide_eq_true h3];refine tt ?_;refine (l01Next_ok B c.objs).go hs o fun r s H _ ⟨u,e,u0,u1,_⟩ hs o=>?_;subst e
    have u1:=u1 (by omega);refine tt ?_;refine app_own u o.swap rfl rfl (by simp only [maxL]; omega) fun i6 H o=>?_
    have w : IntKind.i64.wrap (v - n - 1)=v - ((n+1 : Nat) : Int):=by rw [wrap_i64 (by omega) (by omega)]; omega
    refine tw w ?_
    exact for_next ((i6,ls++[u]),s) (by omega) ⟨⟨fun y hy=>by
     rcases List.mem_append.mp hy with q | q
     ·exact hob y q
     ·obtain rfl:=List.mem_singleton.mp q;exact ⟨u0,u1⟩,by simp; omega,hs⟩,o.swap⟩ rfl
   ·rw [decide_eq_false h3];refine tt ?_;exact wkW_done ⟨i6,ls,s,rfl,⟨hob,by omega,hs⟩,o.swap⟩
  ·have h2p:=of_ndecide h2;refine tw h2 ?_;exact wkW_done ⟨i6,ls,s,rfl,⟨hob,by omega,hs⟩,o.swap⟩
 clear o hs
 rintro σ H ⟨i6,ls,s,rfl,⟨hob,hl,hs⟩,o⟩;refine tt ?_;refine fz_own o rfl fun H o=>tt ?_;refine new_list (mL iI) o fun i9 H o=>tt ?_
 refine awp_for [3,4,5,6] (G:=Nat × List (List Int)) (fun i g=>[(9,some (.buf g.1 g.2.length)),(10,some (.int .i64 (i : Int)))])
  (fun i g H=>g.2=fatA c ls i∧Owns H0 H [(g.1,.cells 1 (g.2.map iL) 0),(id,s.obj),(i5,.cells 12 z12 0),(i4,.cells 5 z5 0)]) ls.length (i9,[]) ⟨rfl,o⟩ rfl ?_
 clear o
 rintro i ⟨i9,A⟩ H hi ⟨hA,o⟩;dsimp only at hA o;refine tt ?_;apply bk <;> intro h2
 ·have h2p : i<ls.length:=of_decide h2
  have w:=wsucc (k:=i) (by omega)
  have la : A.length≤800*i:=by rw [hA]; exact fatA_le hc (by omega) i
  refine tt ?_
  refine awp_for [3,4,5,6,10] (G:=Nat × List (List Int)) (fun j g=>[(9,some (.buf g.1 g.2.length)),(11,some (.int .i64 (j : Int)))])
   (fun j g H=>g.2=A++fatI c ls i j∧Owns H0 H [(g.1,.cells 1 (g.2.map iL) 0),(id,s.obj),(i5,.cells 12 z12 0),(i4,.cells 5 z5 0)]) ls.length (i9,A) ⟨by simp [fatI],o⟩ rfl ?_
  clear o
  rintro j ⟨i9,A2⟩ H hj ⟨hA2,o⟩;dsimp only at hA2 o;refine tt ?_;apply bk <;> intro h3
  ·have h3p : j<ls.length:=of_decide h3
   have w3:=wsucc (k:=j) (by omega)
   have lb : (fatI c ls i j).length≤40*j:=fatI_le hc i j
   have la2 : A2.length≤800*i+40*j:=by rw [hA2,List.length_append]; omega
   have hl2:=homC_le hc (ls.getD i default) (ls.getD j default)
   have q0:=l02Hom_ok B c hc (ls.getD i default) (ls.getD j default)
   have hS : ∀ k,k<(homC c (ls.getD i default) (ls.getD j default)).length→fatK c ls i j (k+1)=fatK c ls i j k++[[(i : Int),(j : Int),(homC c (ls.getD i default) (ls.getD j default)).getD k default]]:=fun k h=>fatK_succ h
   have hE:=fatK_full (c:=c) (ls:=ls) (i:=i) (j:=j) (k:=(homC c (ls.getD i default) (ls.getD j default)).length) (Nat.le_refl _)
   generalize homC c (ls.getD i default) (ls.getD j default)=L at hl2 q0 hS hE;refine tt ?_;refine ⟨h2p,h3p,_,q0.run,tt ?_⟩
   refine awp_for [3,4,5,6,10,11,12] (G:=Nat × List (List Int)) (fun k g=>[(9,some (.buf g.1 g.2.length)),(13,some (.int .i64 (k : Int)))])
    (fun k g H=>g.2=A2++fatK c ls i j k∧Owns H0 H [(g.1,.cells 1 (g.2.map iL) 0),(id,s.obj),(i5,.cells 12 z12 0),(i4,.cells 5 z5 0)]) L.length (i9,A2) ⟨by simp [fatK],o⟩ rfl ?_
   clear o
   rintro k ⟨i9,A3⟩ H hk ⟨hA3,o⟩;dsimp only at hA3 o;refine tt ?_;apply bk <;> intro h4
   ·have h4p : k<L.length:=of_decide h4
    have w4:=wsucc (k:=k) (by omega)
    have lc : (fatK c ls i j k).length≤40:=fatK_le hc i j k
    have la3 : A3.length≤800*i+40*j+40:=by rw [hA3,List.length_append]; omega
    refine tt ?_;refine ⟨h4p,tt ?_⟩;refine app_own [(i : Int),(j : Int),L.getD k default] o rfl rfl (by simp only [maxL]; omega) fun i9 H o=>?_;refine tw w4 ?_;exact for_next (i9,A3++[[(i : Int),(j : Int),L.getD k default]]) h4p ⟨by rw [hA3,hS k h4p,List.append_assoc],o⟩ rfl
   ·have h4p:=of_ndecide h4
    have : k=L.length:=by omega
    refine tw w3 ?_;exact for_next (i9,A3) h3p ⟨by rw [hA3,this,hE,hA2,List.append_assoc,fatI_succ],o⟩ rfl
  ·have h3p:=of_ndecide h3
   have : j=ls.length:=by omega
   refine tw w ?_;exact for_next (i9,A2) h2p ⟨by rw [hA2,this,hA,fatA_succ],o⟩ rfl
 have h2p:=of_ndecide h2
 have hi : i=ls.length:=by omega
 have hla : A.length≤8000:=by
  have:=fatA_le (ls:=ls) hc (by omega) i;rw [hA]; omega
 subst hi;refine tt ?_;refine fz_own o rfl fun H o=>?_
 have hmA : ∀ x,x<A.length→FatOk c ls (A.getD x default):=fun x hx=>fatOk (by rw [← hA]; exact mem_getD.mpr ⟨x,hx,rfl⟩)
 have hm3 : ∀ l,l∈A→3≤l.length:=fun l hl=>by
  obtain ⟨x,hx,rfl⟩:=mem_getD.mp hl
  have:=(hmA x hx).len;omega
 have qc : ∀ k : Nat,k<3→Pur Tryz.prog B 117 [iLL A,iI k] (iL (colA A k)):=fun k hk=>l09Column_ok B A k (fun l hl=>by have:=hm3 l hl; omega) (by omega)
 have q0:=qc 0 (by omega)
 have q1:=qc 1 (by omega)
 have q2:=qc 2 (by omega);clear qc;refine tt ?_;refine q0.go fun _=>tt ?_;refine q1.go fun _=>tt ?_;refine new_list iI o fun iI0 H o=>tt ?_;refine new_list (mL iI) o fun iC H o=>tt ?_;refine newRef_own o fun i14 H o=>tt ?_;refine sw o fun H o=>?_
 have o : Owns H0 H [(i14,.cells 5 [iI ls.length,iL (colA A 0),iL (colA A 1),.buf iI0 0,.buf iC 0] 0),(iC,.cells 1 [] 0),(iI0,.cells 1 [] 0),(id,s.obj),(i5,.cells 12 z12 0),(i4,.cells 5 z5 0)]:=o;refine tt ?_
 refine awp_for [3,4,5,6,9,14] (G:=Nat × List Int) (fun x g=>[(15,some (.int .i64 (x : Int)))])
  (fun x g H=>g.2=(List.range x).map (fatD c A ls)∧Owns H0 H [(i14,.cells 5 [iI ls.length,iL (colA A 0),iL (colA A 1),.buf g.1 g.2.length,.buf iC 0] 0),(g.1,.cells 1 (g.2.map iI) 0),(iC,.cells 1 [] 0),(id,s.obj),(i5,.cells 12 z12 0),(i4,.cells 5 z5 0)]) ls.length (iI0,[]) ⟨rfl,o.pm⟩ rfl ?_
 clear o
 rintro x ⟨iI0,ds⟩ H hx ⟨hds,o⟩;dsimp only at hds o
 have hdl : ds.length=x:=by rw [hds]; simp
 refine tt ?_;apply bk <;> intro h5
 ·have h5p : x<ls.length:=of_decide h5
  have w:=wsucc (k:=x) (by omega)
  have hy:=hob _ (mem_getD.mpr ⟨x,h5p,rfl⟩)
  have hi : 0≤ls.getD x default∧(ls.getD x default).toNat<c.idn.length:=by have:=hc.il; have h1:=hy.1; have h2:=hy.2; exact ⟨h1,by omega⟩
  have qf:=l09Find_ok B A [(x : Int),(x : Int),ix c.idn (ls.getD x default)]
  have g14:=o.get (i14,_) (.head _);refine tt ?_;refine ⟨⟨_,_,g14⟩,rd_get g14 (by simp) ?_⟩;refine tt ?_;refine ⟨h5p,hi,tt ?_⟩;refine ⟨_,qf.run,tt ?_⟩;refine app_own (fatD c A ls x) o.swap rfl rfl (by simp only [maxL]; omega) fun iI0 H o=>tt ?_;refine sw o.swap fun H o=>?_;refine tw w ?_;exact for_next (iI0,ds++[fatD c A ls x]) h5p ⟨by rw [hds,List.range_succ,List.map_append]; rfl,o⟩ rfl
 have h5p:=of_ndecide h5
 have hx2 : x=ls.length:=by omega
 subst hx2
 have hcl : (colA A 0).length=A.length:=by simp [colA]
 have tE : (List.range ls.length).map (fatD c A ls)=ds:=hds.symm;refine tt ?_
 refine cut_at (fun σ H=>∃ (iC : Nat) (rs : List (List Int)),σ=[(3,some (.ptr c.cells)),(4,some (.ref i4 0)),(5,some (.ref i5 0)),(6,some (iL ls)),(9,some (iLL A)),(14,some (.ref i14 0))] ∧
  ((ls.length≤8∧A.length≤40)→rs=tabC A.length (fatH c A)) ∧
  Owns H0 H [(i14,.cells 5 [iI ls.length,iL (colA A 0),iL (colA A 1),.buf iI0 ds.length,.buf iC rs.length] 0),(iI0,.cells 1 (ds.map iI) 0),(iC,.cells 1 (rs.map iL) 0),(id,s.obj),(i5,.cells 12 z12 0),(i4,.cells 5 z5 0)]) ?_ ?_
 ·refine tt ?_
  by_cases hF : (ls.length : Int)≤8∧(colA A 0).length≤40
  rotate_left
  ·refine awp_for [3,4,5,6,9,14] (G:=Unit) (fun x g=>[(16,some (.int .i64 (x : Int)))])
    (fun x g H=>Owns H0 H [(i14,.cells 5 [iI ls.length,iL (colA A 0),iL (colA A 1),.buf iI0 ds.length,.buf iC 0] 0),(iI0,.cells 1 (ds.map iI) 0),(iC,.cells 1 [] 0),(id,s.obj),(i5,.cells 12 z12 0),(i4,.cells 5 z5 0)]) 0 () o rfl ?_
   clear o
   rintro x _ H hx o
   obtain rfl : x=0:=by omega
   refine tt ?_;apply bk <;> intro h6
   ·refine tw h6 ?_;refine rd_celln o (by simp) ?_;refine tt ?_;refine (l02FitsX_ok B ls.length (colA A 0) _ _ _ rfl rfl rfl _).mono ?_
    rintro r H' ⟨rfl,rfl⟩;rw [dec_f hF];refine tt ?_;exact wkW_done ⟨iC,[],rfl,fun q=>absurd ⟨by omega,by omega⟩ hF,o⟩
   ·refine tw h6 ?_;exact wkW_done ⟨iC,[],rfl,fun q=>absurd ⟨by omega,by omega⟩ hF,o⟩
  refine awp_for [3,4,5,6,9,14] (G:=Nat × List (List Int)) (fun x g=>[(16,some (.int .i64 (x : Int)))])
   (fun x g H=>g.2=(List.range x).map (fun f=>(List.range A.length).map (fatH c A f))∧Owns H0 H [(i14,.cells 5 [iI ls.length,iL (colA A 0),iL (colA A 1),.buf iI0 ds.length,.buf g.1 g.2.length] 0),(iI0,.cells 1 (ds.map iI) 0),(g.1,.cells 1 (g.2.map iL) 0),(id,s.obj),(i5,.cells 12 z12 0),(i4,.cells 5 z5 0)]) A.length (iC,[]) ⟨rfl,o⟩ rfl ?_
  clear o
  rintro x ⟨iC,rs⟩ H hx ⟨hrs,o⟩;dsimp only at hrs o
  have hrl : rs.length=x:=by rw [hrs]; simp
  refine tt ?_;apply bk <;> intro h6
  ·have h6p : x<A.length:=of_decide h6
   have w:=wsucc (k:=x) (by omega);refine tw h6 ?_;refine rd_celln o (by simp) ?_;refine tt ?_;refine (l02FitsX_ok B ls.length (colA A 0) _ _ _ rfl rfl rfl _).mono ?_
   rintro r H' ⟨rfl,rfl⟩;rw [dec_t hF];refine tt ?_;refine new_list iI o fun iR H o=>tt ?_
   have fx:=hmA x h6p
   refine awp_for [3,4,5,6,9,14,16] (G:=Nat × List Int) (fun y g=>[(17,some (.buf g.1 g.2.length)),(18,some (.int .i64 (y : Int)))])
    (fun y g H=>g.2=(List.range y).map (fatH c A x)∧Owns H0 H [(g.1,.cells 1 (g.2.map iI) 0),(i14,.cells 5 [iI ls.length,iL (colA A 0),iL (colA A 1),.buf iI0 ds.length,.buf iC rs.length] 0),(iI0,.cells 1 (ds.map iI) 0),(iC,.cells 1 (rs.map iL) 0),(id,s.obj),(i5,.cells 12 z12 0),(i4,.cells 5 z5 0)]) A.length (iR,[]) ⟨rfl,o⟩ rfl ?_
   clear o
   rintro y ⟨iR,row⟩ H hy ⟨hrow,o⟩;dsimp only at hrow o
   have hrwl : row.length=y:=by rw [hrow]; simp
   refine tt ?_;apply bk <;> intro h7
   ·have h7p : y<A.length:=of_decide h7
    have w7:=wsucc (k:=y) (by omega)
    have fy:=hmA y h7p
    have ax:=(homC_mem.mp fx.h).1
    have ay:=(homC_mem.mp fy.h).1
    have x3:=fx.len
    have y3:=fy.len
    have hN : row++[fatH c A x y]=(List.range (y+1)).map (fatH c A x):=by rw [hrow,List.range_succ,List.map_append]; rfl
    refine tt ?_;refine ⟨h6p,by omega,h7p,by omega,tt ?_⟩
    by_cases e : fatE A x 1=fatE A y 0
    ·rw [show decide (ix (A.getD x default) 1=ix (A.getD y default) 0)=true from decide_eq_true e]
     have q1 : Pur Tryz.prog B 132 [.agg c.cells,iI (ix (A.getD x default) 2),iI (ix (A.getD y default) 2)] (iI (ix (ix c.comp (ix (A.getD x default) 2)) (ix (A.getD y default) 2))):=l02Then_t B hc ax ay
     have qf:=l09Find_ok B A [ix (A.getD x default) 0,ix (A.getD y default) 1,ix (ix c.comp (ix (A.getD x default) 2)) (ix (A.getD y default) 2)]
     have hH : indexOf A [ix (A.getD x default) 0,ix (A.getD y default) 1,ix (ix c.comp (ix (A.getD x default) 2)) (ix (A.getD y default) 2)]=fatH c A x y:=(if_pos e).symm;rw [hH] at qf;refine tt ?_;refine ⟨h6p,by omega,h7p,by omega,h6p,by omega,h7p,by omega,_,q1.run,tt ?_⟩;refine ⟨_,qf.run,tt ?_⟩;refine app_own (fatH c A x y) o rfl rfl (by simp only [maxL]; omega) fun iR H o=>?_;refine tw w7 ?_;exact for_next (iR,row++[fatH c A x y]) h7p ⟨hN,o⟩ rfl
    ·rw [show decide (ix (A.getD x default) 1=ix (A.getD y default) 0)=false from decide_eq_false e]
     have hH : fatH c A x y=-1:=if_neg e;rw [hH] at hN;refine tt ?_;refine app_own (-1) o rfl rfl (by simp only [maxL]; omega) fun iR H o=>?_;refine tw w7 ?_;exact for_next (iR,row++[-1]) h7p ⟨hN,o⟩ rfl
   ·have h7p:=of_ndecide h7
    have : y=A.length:=by omega
    refine tt ?_;refine fz_own o rfl fun H o=>tt ?_;refine rd_cells o (by simp) ?_;refine tt ?_
    have o : Owns H0 H [(iC,.cells 1 (rs.map iL) 0),(i14,.cells 5 [iI ls.length,iL (colA A 0),iL (colA A 1),.buf iI0 ds.length,.buf iC rs.length] 0),(iI0,.cells 1 (ds.map iI) 0),(id,s.obj),(i5,.cells 12 z12 0),(i4,.cells 5 z5 0)]:=o.pm;refine app_own row o rfl rfl (by simp only [maxL]; omega) fun iC H o=>tt ?_;refine sw o.swap fun H o=>?_;refine tw w ?_;exact for_next (iC,rs++[row]) h6p ⟨by rw [hrs,List.range_succ,List.map_append,hrow,this]; rfl,o.pm⟩ rfl
  ·have h6p:=of_ndecide h6
   have : x=A.length:=by omega
   refine tw h6 ?_;exact wkW_done ⟨iC,rs,rfl,fun q=>by rw [hrs,this]; rfl,o⟩
 clear o hdl hds
 rintro σ H ⟨iC,rs,rfl,hrs,o⟩;refine tt ?_;refine rd_celln o (by simp) ?_;refine tt ?_;refine (l02FitsX_ok B ls.length (colA A 0) _ _ _ rfl rfl rfl _).mono ?_
 rintro r H' ⟨rfl,rfl⟩
 by_cases hF : (ls.length : Int)≤8∧(colA A 0).length≤40
 rotate_left
 ·rw [dec_f hF]
  have q4:=l06SelfP B hc;refine tt ?_;refine ⟨_,q4.run,tt ?_⟩;refine st_cells (o.pull [_,_,_,_,_]) (by simp [z5]) (by (try simp only [go_sem]); (try simp)) (by first | (simp only [go_sem]; done) | ((try simp only [go_sem]); simp [AV.one,one_mL])) fun H o=>?_;unfold z5 at o;simp only [wr_cons,wr_nil,List.set_cons_zero,List.set_cons_succ] at o;refine tt ?_;refine st_cells (o.pull [_,_,_,_,_]) (by simp [z12]) (by (try simp only [go_sem]); (try simp)) (by first | (simp only [go_sem]; done) | ((try simp only [go_sem]); simp [AV.one,one_mL])) fun H o=>?_;unfold z12 at o;simp only [wr_cons,wr_nil,List.set_cons_zero,List.set_cons_succ] at o;refine tt ?_
  have r1:=o.rc 12 0 (by simp)
  have r2:=o.swap.rc 5 0 (by simp);simp only [List.drop_zero] at r1 r2;rw [r1,r2];exact src_ret ⟨c,⟨c,c,upL c.objs.toNat,upL c.frm.length⟩,self_fu hc,rfl⟩ hs (o.pull [_,_,_,_,_])
 rw [dec_t hF]
 have hF8 : ls.length≤8:=by omega
 have hF40 : A.length≤40:=by omega
 have eC : fatC c ls=⟨ls.length,colA A 0,colA A 1,ds,rs⟩:=by rw [fatC,← hA,tE,hrs ⟨hF8,hF40⟩]
 have hK:=fatF_ok hc hob hF8 (by rw [← hA]; exact hF40);rw [fatF,eC,← hA] at hK
 have q4:=l06MakeP B ⟨ls.length,colA A 0,colA A 1,ds,rs⟩ c ls (colA A 2);refine tt ?_;refine wk_cell (f:=iI) 3 o rfl rfl fun H o=>wk_cell (f:=mL iI) 4 o rfl rfl fun H o=>wk_ref 14 o rfl fun H o=>wkW_done ?_
 have eP : ((([iI ls.length,iL (colA A 0),iL (colA A 1),.buf iI0 ds.length,.buf iC rs.length] : List AV).set 3 (mL iI ds)).set 4 (mL (mL iI) rs))=(Cat.cells ⟨ls.length,colA A 0,colA A 1,ds,rs⟩):=rfl;rw [eP];clear eP;refine tt ?_;refine ⟨_,q2.run,_,q4.run,tt ?_⟩;refine st_cells (o.pull [_,_]) (by simp [z5]) (by (try simp only [go_sem]); (try simp)) (by first | (simp only [go_sem]; done) | ((try simp only [go_sem]); simp [AV.one,one_mL])) fun H o=>?_;unfold z5 at o;simp only [wr_cons,wr_nil,List.set_cons_zero,List.set_cons_succ] at o;refine tt ?_;refine st_cells (o.pull [_,_]) (by simp [z12]) (by (try simp only [go_sem]); (try simp)) (by first | (simp only [go_sem]; done) | ((try simp only [go_sem]); simp [AV.one,one_mL])) fun H o=>?_;unfold z12 at o;simp only [wr_cons,wr_nil,List.set_cons_zero,List.set_cons_succ] at o;refine tt ?_
 have r1:=o.rc 12 0 (by simp)
 have r2:=o.swap.rc 5 0 (by simp);simp only [List.drop_zero] at r1 r2;rw [r1,r2];exact src_ret ⟨⟨ls.length,colA A 0,colA A 1,ds,rs⟩,_,hK,rfl⟩ hs (o.pull [_,_])
theorem fn_fnT {c d : Cat} {ob ar : List Int} (h : Fn c d ob ar) : FnT c d ob ar:=h
def AjS (r : AV) : Prop:=∃ a : AJ,(a.u.length≤8∧a.v.length≤8)∧r=.agg a.cells
theorem l15Some_ok (B : Nat) : Rd B 124 [] AjS:=by
 intro id s H0 H hs o;refine c124p (by simp) fun _=>?_;unfold s124p;refine tt ?_;refine nb o fun i2 H o=>?_
 have o : Owns H0 H [(id,s.obj),(i2,.cells 26 z26 0)]:=o.swap;refine tt ?_;refine awp_for [0,2] (G:=Src) (fun n g=>[(3,some (.int .i64 (n : Int)))]) (fun n g H=>g.Ok∧Owns H0 H [(id,g.obj),(i2,.cells 26 z26 0)]) 10 s ⟨hs,o⟩ rfl ?_
 rintro n s H hn ⟨hs,o⟩;refine tt ?_;apply bk <;> intro h1
 ·have h1p : n<10:=by have:=of_decide h1; omega
  have w:=wsucc (k:=n) (by omega);refine tt ?_;refine (l02Some_ok B 4 10).go hs o fun r s H _ ⟨c,e,hcs,hc⟩ hs o=>?_;subst e;refine tt ?_;refine newRef_own o fun i4 H o=>tt ?_;refine sw o fun H o=>tt ?_;refine rd_celln o (by simp [Cat.cells]) ?_;refine tt ?_;refine (l06SomeT_ok B hcs hc 4 10 id s _ H0 H hs o.swap).mono ?_
  rintro r H ⟨d,s,p,⟨hds,hd⟩,⟨m,rfl,rfl,hty,hfn⟩,hs,o⟩;rw [inB_one] at o;refine tt ?_;refine nb o fun i5 H o=>tt ?_;refine sw o fun H o=>?_
  have o : Owns H0 H ((i5,.cells 12 (fuB c d m).cells 0)::(id,s.obj)::(m.1.1,.cells 1 (m.1.2.map iI) 0)::(m.2.1,.cells 1 (m.2.2.map iI) 0)::(i4,.cells 5 c.cells 0)::[(i2,.cells 26 z26 0)]):=o;refine tt ?_;refine cut_mp (fun σ H=>∃ (i5 : Nat) (k : FU) (s : Src),σ=[(0,some (.ref id 0)),(2,some (.ref i2 0)),(3,some (.int .i64 (n : Int))),(5,some (.ref i5 0))]∧(FuOk k∧s.Ok)∧Owns H0 H [(i5,.cells 12 k.cells 0),(id,s.obj),(i2,.cells 26 z26 0)]) ?_ ?_
  ·refine tt ?_;refine (l01Next_ok B 3).go hs o.swap fun r s H _ ⟨v,e,_⟩ hs o=>?_;subst e;refine tt ?_;apply bk <;> intro h2
   ·refine tt ?_;refine (l02Some_ok B 3 6).go hs o fun r s H _ ⟨c3,e,hcs3,hc3⟩ hs o=>?_;subst e;refine tt ?_;refine (l11Fat_ok B hc3).go hs o fun r s H _ ⟨d4,k,hk,e⟩ hs o=>?_;subst e;refine tt ?_;refine st_cells o.swap (by simp [fuB,AV.cells]) (by (try simp only [go_sem]); (try simp)) (by first | (simp only [go_sem]; done) | ((try simp only [go_sem]); simp [AV.one,one_mL])) fun H o=>tt ?_
    have ec : wr (fuB c d m).cells 0 k.cells=k.cells:=by simp [fuB,AV.cells,FU.cells,wr]
    have o : Owns H0 H ((i5,.cells 12 (wr (fuB c d m).cells 0 k.cells) 0)::(id,s.obj)::(m.1.1,.cells 1 (m.1.2.map iI) 0)::(m.2.1,.cells 1 (m.2.2.map iI) 0)::(i4,.cells 5 c.cells 0)::[(i2,.cells 26 z26 0)]):=o;rw [ec] at o;exact wkW_done ⟨i5,k,s,rfl,⟨hk,hs⟩,o.subl (.cons_cons _ (.cons_cons _ (.cons _ (.cons _ (.cons _ (.refl _))))))⟩
   ·refine tt ?_
    have o : Owns H0 H ((i5,.cells 12 (fuB c d m).cells 0)::(m.1.1,.cells 1 (m.1.2.map iI) 0)::(m.2.1,.cells 1 (m.2.2.map iI) 0)::[(i4,.cells 5 c.cells 0),(id,s.obj),(i2,.cells 26 z26 0)]):=o.pm;refine wk_fu o fun H o=>wkW_done ?_;exact ⟨i5,⟨c,d,m.1.2,m.2.2⟩,s,rfl,⟨⟨hc,hd,hty,fn_fnT hfn⟩,hs⟩,o.subl (.cons_cons _ (.cons _ (.refl _)))⟩
  rintro σ H ⟨i5,k,s,rfl,⟨hk,hs⟩,o⟩;refine tt ?_;refine rd_celln o (by simp [FU.cells]) ?_
  have q1:=l06Op_ok B hk.s hk.t
  have hkO:=opF_ok hk
  have q2:=l15Right_ok B hkO;refine tt ?_;refine (l15Right_ok B hk).go fun r _ q=>?_
  rcases q with ⟨a,a1,a2,a3,a4,a5,rfl⟩ | rfl
  ·refine tt ?_;refine nb o fun i6 H o=>tt ?_;refine sw o fun H o=>?_
   have o : Owns H0 H [(i6,.cells 26 a.cells 0),(i5,.cells 12 k.cells 0),(id,s.obj),(i2,.cells 26 z26 0)]:=o;refine tt ?_;refine rd_celln o (by simp [AJ.cells,FU.cells]) ?_
   have ea : (a.cells.drop 0).take 26=a.cells:=rfl;refine tt ?_;refine st_cells (o.pull [_,_,_]) (by simp [z26]) (by (try simp only [go_sem]); (try simp)) (by first | (simp only [go_sem]; done) | ((try simp only [go_sem]); simp [AV.one,one_mL])) fun H o=>?_;unfold z26 at o;simp only [wr_cons,wr_nil,List.set_cons_zero,List.set_cons_succ] at o;refine tt ?_;rw [o.rc 26 0 (by simp)];exact src_ret ⟨a,a5,rfl⟩ hs (o.pull [_,_,_])
  ·refine tt ?_;refine nb o fun i6 H o=>?_;try simp only [z26]
   refine tt ?_;refine sw o fun H o=>?_
   have o : Owns H0 H [(i6,.cells 26 z26 0),(i5,.cells 12 k.cells 0),(id,s.obj),(i2,.cells 26 z26 0)]:=o
   have o:=o.tl;refine tt ?_;refine rd_celln o (by simp [FU.cells]) ?_;refine tt ?_;refine q1.go fun _=>?_
   have eO : (FU.cells (opF k))=[iI (opF k).src.objs,iL (opF k).src.frm,iL (opF k).src.to,iL (opF k).src.idn,iLL (opF k).src.comp,iI (opF k).tgt.objs,iL (opF k).tgt.frm,iL (opF k).tgt.to,iL (opF k).tgt.idn,iLL (opF k).tgt.comp,iL (opF k).ob,iL (opF k).ar]:=rfl;refine tt ?_;refine q2.go fun r _ q=>?_
   rcases q with ⟨a,a1,a2,a3,a4,a5,rfl⟩ | rfl
   ·have q3:=l15Op_ok B a a1 a2 (by rw [a3]; exact a2) (by rw [a4]; exact a1)
    have a6 : (⟨opF a.r,opF a.l,a.v,a.u⟩ : AJ).u.length≤8∧(⟨opF a.r,opF a.l,a.v,a.u⟩ : AJ).v.length≤8:=⟨a5.2,a5.1⟩
    generalize (⟨opF a.r,opF a.l,a.v,a.u⟩ : AJ)=a9 at q3 a6;refine tt ?_;refine nb o fun i8 H o=>tt ?_;refine sw o fun H o=>?_
    have o : Owns H0 H [(i8,.cells 26 a.cells 0),(i5,.cells 12 k.cells 0),(id,s.obj),(i2,.cells 26 z26 0)]:=o;refine tt ?_;refine rd_celln o (by simp [AJ.cells,FU.cells]) ?_;refine tt ?_;refine q3.go fun _=>tt ?_;refine st_cells (o.pull [_,_,_]) (by simp [z26]) (by (try simp only [go_sem]); (try simp)) (by first | (simp only [go_sem]; done) | ((try simp only [go_sem]); simp [AV.one,one_mL])) fun H o=>?_;unfold z26 at o;simp only [wr_cons,wr_nil,List.set_cons_zero,List.set_cons_succ] at o;refine tt ?_;rw [o.rc 26 0 (by simp)];exact src_ret ⟨a9,a6,rfl⟩ hs (o.pull [_,_,_])
   ·refine tt ?_;refine nb o fun i8 H o=>?_;try simp only [z26]
    refine tt ?_;refine sw o fun H o=>?_
    have o:=o.tl;refine tw w ?_;exact for_next s h1p ⟨hs,o.tl⟩ rfl
 ·have h1p:=of_ndecide h1;refine tt ?_;refine (l02Some_ok B 4 10).go hs o fun r s H _ ⟨c,e,hcs,hc⟩ hs o=>?_;subst e;refine tt ?_;refine newRef_own o fun i4 H o=>tt ?_;refine sw o fun H o=>?_
  have o : Owns H0 H [(i4,.cells 5 c.cells 0),(id,s.obj),(i2,.cells 26 z26 0)]:=o
  have q4:=l06SelfP B hc;refine tt ?_;refine wk_ref 10 o rfl fun H o=>wkW_done ?_;refine tt ?_;refine ⟨_,q4.run,_,q4.run,tt ?_⟩;refine st_cells o.swap (by simp [z26]) (by (try simp only [go_sem]); (try simp)) (by first | (simp only [go_sem]; done) | ((try simp only [go_sem]); simp [AV.one,one_mL])) fun H o=>?_;unfold z26 at o;simp only [wr_cons,wr_nil,List.set_cons_zero,List.set_cons_succ] at o;refine tt ?_;rw [o.rc 26 0 (by simp)];exact src_ret ⟨⟨⟨c,c,upL c.objs.toNat,upL c.frm.length⟩,⟨c,c,upL c.objs.toNat,upL c.frm.length⟩,c.idn,c.idn⟩,⟨by show c.idn.length≤8; have:=hc.il; have:=hc.o; omega,by show c.idn.length≤8; have:=hc.il; have:=hc.o; omega⟩,rfl⟩ hs o.swap
def ajB (a : AJ) (u v : AV) : List AV:=a.l.cells++(a.r.cells++[u,v])
theorem l15Draw_ok (B : Nat) : Rd B 47 [] AjR:=by
 intro id s H0 H hs o;refine c47p (by simp) fun _=>?_;unfold s47p;refine tt ?_;refine nb o fun i2 H o=>?_
 have o : Owns H0 H [(id,s.obj),(i2,.cells 26 z26 0)]:=o.swap;refine tt ?_;refine (l15Some_ok B).go hs o fun r s H _ ⟨a,al,e⟩ hs o=>?_;subst e;refine tt ?_;refine nb o fun i3 H o=>tt ?_;refine sw o fun H o=>?_
 have o : Owns H0 H [(i3,.cells 26 a.cells 0),(id,s.obj),(i2,.cells 26 z26 0)]:=o;refine tt ?_;refine cut_mp (fun σ H=>∃ (a : AJ) (s : Src),σ=[(2,some (.ref i2 0)),(3,some (.ref i3 0))]∧s.Ok∧Owns H0 H [(i3,.cells 26 a.cells 0),(id,s.obj),(i2,.cells 26 z26 0)]) ?_ ?_
 ·refine tt ?_;refine (l01Next_ok B 30).go hs o.swap fun r s H _ ⟨v,e,_⟩ hs o=>?_;subst e;refine tt ?_;apply bk <;> intro h1
  ·refine tt ?_;refine rd_cells o.tl (by simp [AJ.cells,FU.cells]) ?_
   have eu : a.cells.getD 24 nv=iL a.u:=rfl;refine tw eu ?_;apply bk <;> intro h2
   ·have h2p : 0<a.u.length:=by have:=of_decide h2; omega
    refine tt ?_;refine rd_cells o.tl (by simp [AJ.cells,FU.cells]) ?_;refine tw eu ?_;refine ((l01OwnN B a.u).run H).mono ?_
    rintro r H ⟨p,⟨iu,rfl,rfl⟩,o2⟩
    have o:=o.trans o2
    have o : Owns H0 H [(i3,.cells 26 a.cells 0),(iu,.cells 1 (a.u.map iI) 0),(id,s.obj),(i2,.cells 26 z26 0)]:=o.pm;refine tt ?_;refine st_cells o (by simp [AJ.cells,FU.cells]) (by (try simp only [go_sem]); (try simp)) (by first | (simp only [go_sem]; done) | ((try simp only [go_sem]); simp [AV.one,one_mL])) fun H o=>?_
    have ec : wr a.cells 24 [.buf iu a.u.length]=ajB a (.buf iu a.u.length) (iL a.v):=by simp [AJ.cells,FU.cells,ajB,wr]
    rw [show wr _ 24 [AV.buf iu a.u.length]=ajB a (.buf iu a.u.length) (iL a.v) from ec] at o
    have g3:=o.get (i3,_) (.head _)
    have e24 : (ajB a (.buf iu a.u.length) (iL a.v)).getD 24 nv=.buf iu a.u.length:=rfl
    have e1 : (ajB a (.buf iu a.u.length) (iL a.v)).getD 1 nv=iL a.l.src.frm:=rfl;refine tt ?_;refine ⟨⟨_,_,g3⟩,rd_get g3 (by simp [ajB,FU.cells]) ?_⟩;refine tw e24 ?_;refine ⟨⟨_,_,g3⟩,rd_get g3 (by simp [ajB,FU.cells]) ?_⟩;refine tw e1 ?_
    have o : Owns H0 H [(id,s.obj),(iu,.cells 1 (a.u.map iI) 0),(i3,.cells 26 (ajB a (.buf iu a.u.length) (iL a.v)) 0),(i2,.cells 26 z26 0)]:=o.pm;refine (l02Number_ok B a.l.src.frm.length).goZ hs o fun r s H _ ⟨u,e⟩ hs o hz=>⟨hz, ?_⟩;subst e;refine tt ?_;refine ⟨⟨by omega,h2p⟩,set_own u o.swap rfl h2p fun H o=>?_⟩;refine tt ?_
    have o : Owns H0 H [(i3,.cells 26 (ajB a (.buf iu a.u.length) (iL a.v)) 0),(iu,.cells 1 ((a.u.set (Int.toNat 0) u).map iI) 0),(id,s.obj),(i2,.cells 26 z26 0)]:=o.pm;refine wk_cell (f:=iI) 24 o rfl (by simp) fun H o=>wkW_done ?_;exact ⟨⟨a.l,a.r,a.u.set (Int.toNat 0) u,a.v⟩,s,rfl,hs,o⟩
   ·refine tt ?_;exact wkW_done ⟨a,s,rfl,hs,o.swap⟩
  ·refine tt ?_;apply bk <;> intro h2
   ·refine tt ?_;refine rd_cells o.tl (by simp [AJ.cells,FU.cells]) ?_
    have eu : a.cells.getD 25 nv=iL a.v:=rfl;refine tw eu ?_;refine ((l01OwnN B a.v).run H).mono ?_
    rintro r H ⟨p,⟨iv,rfl,rfl⟩,o2⟩
    have o:=o.trans o2
    have hl : a.v.length+1≤maxL:=by have:=al.2; simp only [maxL]; omega
    have o : Owns H0 H [(iv,.cells 1 (a.v.map iI) 0),(i3,.cells 26 a.cells 0),(id,s.obj),(i2,.cells 26 z26 0)]:=o.pm;refine tt ?_;refine app_own (0 : Int) o rfl rfl hl fun iv H o=>tt ?_;refine st_cells o.swap (by simp [AJ.cells,FU.cells]) (by (try simp only [go_sem]); (try simp)) (by first | (simp only [go_sem]; done) | ((try simp only [go_sem]); simp [AV.one,one_mL])) fun H o=>?_
    have ec : wr a.cells 25 [.buf iv (a.v++[0]).length]=ajB a (iL a.u) (.buf iv (a.v++[0]).length):=by simp [AJ.cells,FU.cells,ajB,wr]
    have o : Owns H0 H [(i3,.cells 26 (wr a.cells 25 [.buf iv (a.v++[0]).length]) 0),(iv,.cells 1 ((a.v++[0]).map iI) 0),(id,s.obj),(i2,.cells 26 z26 0)]:=o;rw [ec] at o;refine tt ?_;refine wk_cell (f:=iI) 25 o rfl rfl fun H o=>wkW_done ?_;exact ⟨⟨a.l,a.r,a.u,a.v++[0]⟩,s,rfl,hs,o⟩
   ·refine tt ?_;apply bk <;> intro h3
    ·refine tt ?_;refine (l06Draw_ok B).go hs o fun r s H _ ⟨k,e⟩ hs o=>?_;subst e;refine tt ?_;refine st_cells o.swap (by simp [AJ.cells,FU.cells]) (by (try simp only [go_sem]); (try simp)) (by first | (simp only [go_sem]; done) | ((try simp only [go_sem]); simp [AV.one,one_mL])) fun H o=>?_
     have ec : wr a.cells 0 k.cells=AJ.cells ⟨k,a.r,a.u,a.v⟩:=by simp [AJ.cells,FU.cells,wr]
     have o : Owns H0 H [(i3,.cells 26 (wr a.cells 0 k.cells) 0),(id,s.obj),(i2,.cells 26 z26 0)]:=o;rw [ec] at o;exact wkW_done ⟨⟨k,a.r,a.u,a.v⟩,s,rfl,hs,o⟩
    ·refine tt ?_;exact wkW_done ⟨a,s,rfl,hs,o.swap⟩
 rintro σ H ⟨a,s,rfl,hs,o⟩;refine tt ?_;refine wkW_done ?_;refine tt ?_;refine rd_celln o (by simp [AJ.cells,FU.cells]) ?_;refine tt ?_;refine st_cells (o.pull [_,_]) (by simp [z26]) (by (try simp only [go_sem]); (try simp)) (by first | (simp only [go_sem]; done) | ((try simp only [go_sem]); simp [AV.one,one_mL])) fun H o=>?_;unfold z26 at o;simp only [wr_cons,wr_nil,List.set_cons_zero,List.set_cons_succ] at o;refine tt ?_;rw [o.rc 26 0 (by simp)];exact src_ret ⟨a,rfl⟩ hs (o.pull [_,_])
theorem drawFixed_ok (B : Nat) (code : List UInt8) : Rets B 9 [mL iB code] AjR:=by
 intro H0;refine c9 (by simp) fun _=>?_;unfold s9
 have o : Owns H0 H0 []:=.nil _;refine tt ?_;refine nb o fun i2 H o=>?_
 have o : Owns H0 H [(i2,.cells 26 z26 0)]:=o;refine tt ?_;refine (l01From_ok B code H).mono ?_
 rintro r H2 ⟨id,s,rfl,hs,o2⟩
 have o:=o.trans o2
 have o : Owns H0 H2 [(id,s.obj),(i2,.cells 26 z26 0)]:=o.pm;refine tt ?_;refine (l15Draw_ok B).go hs o fun r s H _ ⟨a,e⟩ hs o=>?_;subst e;refine tt ?_;refine st_cells o.swap (by simp [z26]) (by (try simp only [go_sem]); (try simp)) (by first | (simp only [go_sem]; done) | ((try simp only [go_sem]); simp [AV.one,one_mL])) fun H o=>?_;unfold z26 at o;simp only [wr_cons,wr_nil,List.set_cons_zero,List.set_cons_succ] at o;refine tt ?_;rw [o.rc 26 0 (by simp)];exact rets_ret ⟨a,rfl⟩ o.sub
theorem fnFixed_ok (B : Nat) (code : List UInt8) : Pur Tryz.prog B 3 [mL iB code] (.bool true):=fnFixed_of B code (drawFixed_ok B code)
end Go.Proofs.Shf
namespace Go.AW
def WN (P : AV→Prop) (a : AV) : Prop:=(∃ al : List AV,a=.sl al∧∀ x,x∈al→P x)∨∃ n,1048576<n∧n≤140737488355328∧a=.big n
def WB (a : AV) : Prop:=(∃ l : List UInt8,a=mL iB l)∨∃ n,1048576<n∧n≤140737488355328∧a=.big n
end Go.AW
namespace Go.Proofs.Shf
open Go.AW Go.Proofs Go.Shf
open Go.Deep
def gh0 (W : World) : Gh:=⟨fun b o=>W.cell? ⟨b,o,none⟩,fun _=>none,fun _=>none⟩
theorem wrel0 (W : World) : WRel (gh0 W) W.heap.size [] W where
 fz b o v h:=h
 fm b es h:=by cases h
 ob i o h:=by simp [Heap.get] at h
 inj i j b c c' n h:=by simp [Heap.get] at h
 injm i j b n h:=by simp [Heap.get] at h
 base:=Nat.le_refl _
 fin:=⟨0,fun i _=>rfl⟩
section
variable {H : Type} {enc : TypeId × Value→H} {W : World}
def RdV (enc : TypeId × Value→H) (W : World) (t : TypeId) (Q : AV→Prop) : Prop :=
 ∀ fuel v d ps,DataW.trod enc Tryz.prog W 0 (fun _=>true) true fuel t [v]=some (d,ps)→(∀ n,n∈d.weights Tryz.prog t→n≤reachBytes)→∃ a,Q a∧VRel (gh0 W) a v
theorem rd_byte : RdV enc W 5 fun a=>∃ b : UInt8,a=Go.AW.iB b:=by
 intro fuel v d ps h _
 cases fuel with
 | zero=>simp [DataW.trod] at h
 | succ fuel =>
  cases v <;> simp only [DataW.trod,Tryz.underlying5] at h <;> try (cases h; done)
  rename_i k n
  split at h
  ·rename_i hk
   obtain ⟨rfl,hf⟩:=hk
   have hr : 0≤n∧n≤255:=by
    simp only [Lit.wf,Bool.and_eq_true,decide_eq_true_eq] at hf;exact ⟨hf.1,hf.2⟩
   refine ⟨_,⟨UInt8.ofNat n.toNat,rfl⟩, ?_⟩
   have e : Go.AW.iB (UInt8.ofNat n.toNat)=.int .u8 n:=by
    have h1 : (UInt8.ofNat n.toNat).toNat=n.toNat:=by rw [UInt8.toNat_ofNat']; omega
    rw [Go.AW.iB,h1,Int.toNat_of_nonneg hr.1]
   rw [e];exact .int _ n
  ·cases h
theorem weightsAll_mem {P : Program} {e : TypeId} {l : List (DataW H)} {x : DataW H} (hx : x∈l) {n : Nat} (hn : n∈x.weights P e) : n∈DataW.weightsAll P e l:=by
 induction l with
 | nil=>simp at hx
 | cons y r ih =>
  simp only [DataW.weightsAll,List.mem_append]
  rcases List.mem_cons.mp hx with rfl | hx
  ·exact .inl hn
  ·exact .inr (ih hx)
theorem rd_slice {t e : TypeId} {Q : AV→Prop} (ht : Tryz.prog.underlying t=some (.slice e)) (hc : Tryz.prog.cellsOf e=1) (hb : 1≤Tryz.prog.bytesOf e) (hQ : ∀ a,Q a→a.cells=[a]) (h : RdV enc W e Q) : RdV enc W t (WN Q):=by
 intro fuel v d ps htr hw
 rcases open_slice1 ht hc htr with ⟨hv,hx⟩ | ⟨a,len,cap,m,n,V,D,Pl,hv,_,hl,hm,hmm,hx,hel⟩
 ·injection hv with hv
  subst hv;exact ⟨.sl [],.inl ⟨[],rfl,by simp⟩,.slnil none 0⟩
 ·injection hv with hv
  subst hv;simp only [if_true] at hmm;subst hmm;simp only [Prod.mk.injEq] at hx
  obtain ⟨rfl,rfl⟩:=hx
  have hw0 : (((List.range len).map D).length+((List.range (m - len)).map fun j=>D (len+j)).length)*Tryz.prog.bytesOf e≤reachBytes:=hw _ (by simp [DataW.weights,ht])
  have hlen : len≤140737488355328:=by
   simp only [List.length_map,List.length_range] at hw0
   have h1 : len*1≤(len+(m - len))*Tryz.prog.bytesOf e:=Nat.mul_le_mul (by omega) hb
   have h2 : reachBytes≤140737488355328:=by decide
   omega
  by_cases hbig : 1099511627776<len
  ·exact ⟨.big len,.inr ⟨len,by omega,hlen,rfl⟩,.big _ _ _ hlen⟩
  ·have hall : ∀ i,∃ x,i<len→Q x∧VRel (gh0 W) x (V i):=by
    intro i
    by_cases hi : i<len
    ·obtain ⟨x,q1,q2⟩:=h n (V i) (D i) (Pl i) (hel i (by omega)).2 fun k hk=>hw k (by
      simp only [DataW.weights,ht,List.mem_cons,List.mem_append];exact .inr (.inl (weightsAll_mem (List.mem_map.mpr ⟨i,List.mem_range.mpr hi,rfl⟩) hk)))
     exact ⟨x,fun _=>⟨q1,q2⟩⟩
    ·exact ⟨.nilp,fun h=>absurd h hi⟩
   obtain ⟨A,hA⟩:=Classical.axiomOfChoice hall
   have hget : ∀ i,i<len→((List.range len).map A).getD i nv=A i:=fun i hi=>getD_map_range A nv hi;refine ⟨.sl ((List.range len).map A),.inl ⟨_,rfl,fun x hx=>?_⟩, ?_⟩
   ·obtain ⟨i,hi,rfl⟩:=List.mem_map.mp hx;exact (hA i (List.mem_range.mp hi)).1
   ·by_cases h0 : len=0
    ·subst h0; exact .slnil _ _
    ·have hsp : a=⟨a.block,a.off,none⟩:=by
      have:=(hel 0 (by omega)).1
      obtain ⟨b,o,s⟩:=a
      cases s with
      | none=>rfl
      | some s=>exfalso; simp [Addr.add,World.cell?] at this; split at this <;> simp at this
     have hadd : ∀ i,a.add i=⟨a.block,a.off+i,none⟩:=by
      intro i;rw [hsp];unfold Addr.add
      split
      ·rename_i e; simp [e]
      ·rfl
     have key : VRel (gh0 W) (.sl ((List.range len).map A)) (.slice (some ⟨a.block,a.off,none⟩) ((List.range len).map A).length m):=by
      refine .sl _ a.block a.off 1 m V (by simp [maxL]; omega) (by simp; omega) (fun i hi=>?_) (fun i j hi hj=>?_) (fun i j hi hj=>?_)
      ·rw [hget i (by simpa using hi),hQ _ (hA i (by simpa using hi)).1]; rfl
      ·have hi' : i<len:=by simpa using hi
       have:=(hel i (by omega)).1;rw [hadd] at this
       have e : i*1+j=i:=by omega
       rw [e]; exact this
      ·have hi' : i<len:=by simpa using hi
       have e : i*1+j=i:=by omega
       obtain rfl : j=0:=by omega
       rw [e,hget i hi',hQ _ (hA i hi').1];exact (hA i hi').2
     rw [List.length_map,List.length_range,← hsp] at key;exact key
theorem WB.of {a : AV} (h : WN (fun a=>∃ b : UInt8,a=Go.AW.iB b) a) : WB a:=by
 rcases h with ⟨l,rfl,hl⟩ | h
 ·refine .inl ⟨l.map fun x=>match x with | .int _ n=>UInt8.ofNat n.toNat | _=>0, ?_⟩
  rw [mL,List.map_map]
  congr 1
  have : ∀ x,x∈l→(Go.AW.iB ∘ fun x : AV=>match x with | .int _ n=>UInt8.ofNat n.toNat | _=>0) x=x:=fun x hx=>by
   obtain ⟨n,rfl⟩:=hl x hx
   simp [Go.AW.iB]
  exact ((List.map_congr_left this).trans (by simp)).symm
 ·exact .inr h
theorem rd_bytes : ∀ fuel v d ps,DataW.trod enc Tryz.prog W 0 (fun _=>true) true fuel 22 [v]=some (d,ps)→(∀ n,n∈d.weights Tryz.prog 22→n≤reachBytes)→∃ a,WB a∧VRel (gh0 W) a v:=fun fuel v d ps k w=>by
 obtain ⟨a,q1,q2⟩:=rd_slice Tryz.underlying22 (by kernel_rfl) (of_decide_eq_true (by kernel_rfl)) (fun a ⟨n,e⟩=>by rw [e]; rfl) rd_byte fuel v d ps k w;exact ⟨a,WB.of q1,q2⟩
end
theorem big_big (B n : Nat) (hn : 1048576<n) : Pur Tryz.prog B 8 [.big n] (.bool true):=by
 refine ⟨fun H0=>c8 (by simp) fun hf=>?_⟩;unfold s8;refine tt ?_;exact pure_ret (by congr 1; simp; omega) (.refl _)
end Go.Proofs.Shf
namespace Go.Proofs.Shf
open Go.AW Go.Proofs Go.Shf
theorem fnFixed_all (B : Nat) (a : AV) (h : WB a) : Pur Tryz.prog B 3 [a] (.bool true):=by
 rcases h with ⟨l,rfl⟩ | ⟨n,hn,_,rfl⟩
 ·exact fnFixed_ok B l
 ·refine ⟨fun H0=>c3p (by simp) fun _=>?_⟩;unfold s3p;refine tt ?_;refine (big_big B n hn).go fun _=>tt ?_;exact pure_ret rfl (.refl _)
end Go.Proofs.Shf
