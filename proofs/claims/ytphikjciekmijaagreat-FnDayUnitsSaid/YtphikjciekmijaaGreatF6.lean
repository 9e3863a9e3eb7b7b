/- Contracts, part 6. -/
import Derived.Test.YtphikjciekmijaaGreatF5
set_option linter.unusedVariables false
set_option linter.unusedSimpArgs false
set_option linter.unusedSectionVars false
set_option maxRecDepth 100000
open Nat (reduceEqDiff reduceAdd reduceMul reduceLeDiff reduceLT)
namespace Go.Shf
open Go.AW
def movE (m : Mo) (t : List Int) (k : Int) : List Int:=[ix t 0,ix t 1,m.c (ix t 2) k,ix t 3,ix t 4]
structure DayA (m : Mo) (f g : SF) (z a b h e d : Int) : Prop where
 aA : m.on.ArR a
 bA : m.on.ArR b
 hA : m.on.ArR h
 hf : ix m.on.frm h=m.o (ix m.on.to a) (ix m.on.to b)
 ht : ix m.on.to h=z
 eR : 0≤e∧e<ix f.sizes (ix m.on.frm a)
 dR : 0≤d∧d<ix g.sizes (ix m.on.frm b)
def dayS (m : Mo) (a b h e d : Int) : List Int:=[ix m.on.frm a,ix m.on.frm b,m.c (m.a a b) h,e,d]
def dayT (m : Mo) (f g : SF) (a b h e d : Int) : List Int:=[ix m.on.to a,ix m.on.to b,h,ix (ix f.acts a) e,ix (ix g.acts b) d]
def DayG (m : Mo) (f g : SF) (z : Int) (s t : List Int) : Prop:=∃ a b h e d : Int,DayA m f g z a b h e d∧s=dayS m a b h e d∧t=dayT m f g a b h e d
inductive EqG {α : Type} (R : α→α→Prop) : α→α→Prop
 | gen (x y) : R x y→EqG R x y
 | refl (x) : EqG R x x
 | symm {x y} : EqG R x y→EqG R y x
 | trans {x y z} : EqG R x y→EqG R y z→EqG R x z
def posD (m : Mo) (f g : SF) (z : Int) (t : List Int) : Int:=indexOf (dayE m f g z) t
def psH (m : Mo) (f g : SF) (z : Int) (a b : Nat) (h : Int) : List (List Int):=catL (fun e=>(List.range (ix g.sizes (ix m.on.frm b)).toNat).map fun d : Nat=>[posD m f g z (dayS m a b h e d),posD m f g z (dayT m f g a b h e d)]) (ix f.sizes (ix m.on.frm a)).toNat
def psB (m : Mo) (f g : SF) (z : Int) (q : Nat→Nat→Bool) (a b : Nat) : List (List Int):=bif q a b then (homC m.on (m.o (ix m.on.to a) (ix m.on.to b)) z).flatMap (psH m f g z a b) else []
def psD (m : Mo) (f g : SF) (z : Int) (q : Nat→Nat→Bool) : List (List Int):=catL (fun a=>catL (psB m f g z q a) m.on.frm.length) m.on.frm.length
section
variable {m : Mo} {f g : SF} {z : Int} {s t : List Int} {a b h e d k : Int}
structure DayO (m : Mo) (f g : SF) : Prop where
 mI : m.Is
 fI : f.Is
 gI : g.Is
 fs : f.shape=m.on
 gs : g.shape=m.on
theorem DayO.fact (o : DayO m f g) (ha : m.on.ArR a) (he : 0≤e∧e<ix f.sizes (ix m.on.frm a)) : 0≤ix (ix f.acts a) e∧ix (ix f.acts a) e<ix f.sizes (ix m.on.to a):=by
 have:=(act_map (f:=f) o.fI.1 (a:=a) (by rw [o.fs]; exact ha)).at (i:=e) (by rw [o.fs]; exact he)
 rwa [o.fs] at this
theorem DayO.gact (o : DayO m f g) (ha : m.on.ArR a) (he : 0≤e∧e<ix g.sizes (ix m.on.frm a)) : 0≤ix (ix g.acts a) e∧ix (ix g.acts a) e<ix g.sizes (ix m.on.to a):=by
 have:=(act_map (f:=g) o.gI.1 (a:=a) (by rw [o.gs]; exact ha)).at (i:=e) (by rw [o.gs]; exact he)
 rwa [o.gs] at this
theorem DayA.entS (o : DayO m f g) (x : DayA m f g z a b h e d) : Ent m f g z (dayS m a b h e d):=by
 have q:=o.mI.pull x.aA x.bA x.hA x.hf;exact ⟨rfl,o.mI.toPre.fO x.aA,o.mI.toPre.fO x.bA,q.1,q.2.1,q.2.2.trans x.ht,x.eR,x.dR⟩
theorem DayA.entT (o : DayO m f g) (x : DayA m f g z a b h e d) : Ent m f g z (dayT m f g a b h e d) :=
 ⟨rfl,o.mI.toPre.tO x.aA,o.mI.toPre.tO x.bA,x.hA,x.hf,x.ht,o.fact x.aA x.eR,o.gact x.bA x.dR⟩
theorem pos_in (E : Ent m f g z t) : 0≤posD m f g z t∧(posD m f g z t).toNat<(dayE m f g z).length∧ix (dayE m f g z) (posD m f g z t)=t:=indexOf_in (mem_dayE.mpr E)
theorem pos_at {i : Nat} (hi : i<(dayE m f g z).length) : Ent m f g z ((dayE m f g z).getD i default)∧posD m f g z ((dayE m f g z).getD i default)=i :=
 ⟨mem_dayE.mp (mem_getD.mpr ⟨i,hi,rfl⟩),indexOf_nodup (dayE_nodup m f g z) hi⟩
theorem mem_psD {q : Nat→Nat→Bool} {p : List Int} : p∈psD m f g z q↔∃ a b h e d : Int,DayA m f g z a b h e d∧q a.toNat b.toNat=true∧p=[posD m f g z (dayS m a b h e d),posD m f g z (dayT m f g a b h e d)]:=by
 rw [psD,mem_catL]
 constructor
 ·rintro ⟨a,ha,hp⟩
  obtain ⟨b,hb,hp⟩:=mem_catL.mp hp;rw [psB] at hp
  cases hq : q a b
  ·rw [hq] at hp; simp at hp
  rw [hq,cond_true,List.mem_flatMap] at hp
  obtain ⟨h,hh,hp⟩:=hp;rw [psH,mem_catL] at hp
  obtain ⟨e,he,hp⟩:=hp
  obtain ⟨d,hd,rfl⟩:=List.mem_map.mp hp
  have hd:=List.mem_range.mp hd
  have hh:=homC_mem.mp hh;exact ⟨a,b,h,e,d,⟨⟨by omega,by simpa using ha⟩,⟨by omega,by simpa using hb⟩,hh.1,hh.2.1,hh.2.2,⟨by omega,by omega⟩,by omega,by omega⟩,by simpa using hq,rfl⟩
 ·rintro ⟨a,b,h,e,d,x,hq,rfl⟩
  have ea:=Int.toNat_of_nonneg x.aA.1
  have eb:=Int.toNat_of_nonneg x.bA.1
  have ee:=Int.toNat_of_nonneg x.eR.1
  have ed:=Int.toNat_of_nonneg x.dR.1;refine ⟨a.toNat,x.aA.2,mem_catL.mpr ⟨b.toNat,x.bA.2, ?_⟩⟩;rw [psB,hq,cond_true,List.mem_flatMap,ea,eb];refine ⟨h,homC_mem.mpr ⟨x.hA,x.hf,x.ht⟩, ?_⟩;rw [psH,mem_catL,ea,eb];refine ⟨e.toNat,by have:=x.eR; omega,List.mem_map.mpr ⟨d.toNat,List.mem_range.mpr (by have:=x.dR; omega), ?_⟩⟩;rw [ee,ed]
theorem psD_in (o : DayO m f g) (q : Nat→Nat→Bool) : ∀ p,p∈psD m f g z q→(0≤ix p 0∧(ix p 0).toNat<(dayE m f g z).length)∧0≤ix p 1∧(ix p 1).toNat<(dayE m f g z).length:=by
 intro p hp
 obtain ⟨a,b,h,e,d,x,_,rfl⟩:=mem_psD.mp hp
 have h1:=pos_in (x.entS o)
 have h2:=pos_in (x.entT o);exact ⟨⟨h1.1,h1.2.1⟩,h2.1,h2.2.1⟩
def QOk (m : Mo) (q : Nat→Nat→Bool) : Prop:=∀ a b : Int,m.on.ArR a→m.on.ArR b→(a=ix m.on.idn (ix m.on.frm a)∨b=ix m.on.idn (ix m.on.frm b))→q a.toNat b.toNat=true
theorem DayA.steps (o : DayO m f g) (x : DayA m f g z a b h e d) :
  (DayA m f g z a (ix m.on.idn (ix m.on.frm b)) (m.c (m.a (ix m.on.idn (ix m.on.to a)) b) h) e d∧dayS m a b h e d=dayS m a (ix m.on.idn (ix m.on.frm b)) (m.c (m.a (ix m.on.idn (ix m.on.to a)) b) h) e d) ∧
  (DayA m f g z (ix m.on.idn (ix m.on.to a)) b h (ix (ix f.acts a) e) d∧dayT m f g a b h e d=dayT m f g (ix m.on.idn (ix m.on.to a)) b h (ix (ix f.acts a) e) d) ∧
  dayT m f g a (ix m.on.idn (ix m.on.frm b)) (m.c (m.a (ix m.on.idn (ix m.on.to a)) b) h) e d=dayS m (ix m.on.idn (ix m.on.to a)) b h (ix (ix f.acts a) e) d:=by
 have P:=o.mI.toPre
 have fb:=P.fO x.bA
 have ta:=P.tO x.aA
 have i1:=P.idE fb
 have i2:=P.idE ta
 have hp:=o.mI.pull i2.1 x.bA x.hA (by rw [x.hf,i2.2.2]);rw [i2.2.1] at hp
 have af:=o.fact x.aA x.eR
 have ia : ix (ix g.acts (ix m.on.idn (ix m.on.frm b))) d=d:=by
  have:=o.gI.idAct (x:=ix m.on.frm b) (e:=d) (by rw [o.gs]; exact fb) x.dR
  rwa [o.gs] at this
 have ib : ix (ix f.acts (ix m.on.idn (ix m.on.to a))) (ix (ix f.acts a) e)=ix (ix f.acts a) e:=by
  have:=o.fI.idAct (x:=ix m.on.to a) (e:=ix (ix f.acts a) e) (by rw [o.fs]; exact ta) af
  rwa [o.fs] at this
 refine ⟨⟨⟨x.aA,i1.1,hp.1,by rw [hp.2.1,i1.2.2],hp.2.2.trans x.ht,x.eR,by rw [i1.2.1]; exact x.dR⟩, ?_⟩,⟨⟨i2.1,x.bA,x.hA,by rw [x.hf,i2.2.2],x.ht,by rw [i2.2.1]; exact af,x.dR⟩, ?_⟩, ?_⟩
 ·have e1 : m.c (m.a a (ix m.on.idn (ix m.on.frm b))) (m.c (m.a (ix m.on.idn (ix m.on.to a)) b) h)=m.c (m.a a b) h:=by
   have q1:=o.mI.ends a (ix m.on.idn (ix m.on.frm b)) x.aA i1.1
   have q2:=o.mI.ends (ix m.on.idn (ix m.on.to a)) b i2.1 x.bA
   rw [← P.cA (P.aA x.aA i1.1) (P.aA i2.1 x.bA) x.hA (by rw [q1.2,q2.1,i1.2.2,i2.2.1]) (by rw [q2.2,x.hf,i2.2.2]),
    ← o.mI.inter a (ix m.on.idn (ix m.on.to a)) (ix m.on.idn (ix m.on.frm b)) b x.aA i2.1 i1.1 x.bA i2.2.1.symm i1.2.2,P.cR x.aA,P.cL x.bA]
  rw [dayS,dayS,e1,i1.2.1]
 ·rw [dayT,dayT,ib,i2.2.2]
 ·rw [dayT,dayS,i1.2.2,ia,i2.2.1]
theorem eqN_eqG (o : DayO m f g) {q : Nat→Nat→Bool} {u v : Int} (e : EqN (prN (psD m f g z q)) u v) : EqG (DayG m f g z) (ix (dayE m f g z) u) (ix (dayE m f g z) v):=by
 induction e with
 | gen x y hm =>
  obtain ⟨p,hp,e⟩:=List.mem_map.mp hm
  obtain ⟨a,b,h,e',d,X,_,rfl⟩:=mem_psD.mp hp
  injection e with e1 e2
  rw [← e1,← e2]
  show EqG _ (ix _ (posD m f g z (dayS m a b h e' d))) (ix _ (posD m f g z (dayT m f g a b h e' d)))
  rw [(pos_in (X.entS o)).2.2,(pos_in (X.entT o)).2.2];exact .gen _ _ ⟨a,b,h,e',d,X,rfl,rfl⟩
 | refl x=>exact .refl _
 | symm _ ih=>exact ih.symm
 | trans _ _ h1 h2=>exact h1.trans h2
theorem eqG_eqN (o : DayO m f g) {q : Nat→Nat→Bool} (hq : QOk m q) {s t : List Int} (e : EqG (DayG m f g z) s t) : EqN (prN (psD m f g z q)) (posD m f g z s) (posD m f g z t):=by
 have one : ∀ {a b h e d : Int},DayA m f g z a b h e d→(a=ix m.on.idn (ix m.on.frm a)∨b=ix m.on.idn (ix m.on.frm b))→EqN (prN (psD m f g z q)) (posD m f g z (dayS m a b h e d)) (posD m f g z (dayT m f g a b h e d)):=fun {a b h e d} X c =>
  .gen _ _ (List.mem_map.mpr ⟨_,mem_psD.mpr ⟨a,b,h,e,d,X,hq a b X.aA X.bA c,rfl⟩,rfl⟩)
 induction e with
 | gen x y hm =>
  obtain ⟨a,b,h,e,d,X,rfl,rfl⟩:=hm
  obtain ⟨⟨X1,e1⟩,⟨X2,e2⟩,e3⟩:=X.steps o
  have i1:=o.mI.toPre.idE (o.mI.toPre.fO X.bA)
  have i2:=o.mI.toPre.idE (o.mI.toPre.tO X.aA)
  have k1:=one X1 (.inr (by rw [i1.2.1]))
  have k2:=one X2 (.inl (by rw [i2.2.1]));rw [e1,e2];rw [e3] at k1;exact k1.trans k2
 | refl x=>exact .refl _
 | symm _ ih=>exact ih.symm
 | trans _ _ h1 h2=>exact h1.trans h2
def clD (m : Mo) (f g : SF) (z : Int) : List Int:=joinL (dayE m f g z).length (psD m f g z fun _ _=>true)
theorem lab_iff (o : DayO m f g) {q : Nat→Nat→Bool} (hq : QOk m q) {i j : Nat} (hi : i<(dayE m f g z).length) (hj : j<(dayE m f g z).length) :
  (labs (dayE m f g z).length (psD m f g z q)).getD i default=(labs (dayE m f g z).length (psD m f g z q)).getD j default↔EqG (DayG m f g z) ((dayE m f g z).getD i default) ((dayE m f g z).getD j default):=by
 rw [labs_iff (psD_in o q) hi hj]
 constructor
 ·intro e
  have:=eqN_eqG o e
  rwa [ix_nat,ix_nat] at this
 ·intro e
  have:=eqG_eqN o hq e
  rwa [(pos_at hi).2,(pos_at hj).2] at this
theorem clD_q (o : DayO m f g) {q : Nat→Nat→Bool} (hq : QOk m q) : joinL (dayE m f g z).length (psD m f g z q)=clD m f g z:=by
 refine classL_congr (by rw [labs_len,labs_len]) fun i j hi hj=>?_;rw [labs_len] at hi hj;rw [lab_iff o hq hi hj,lab_iff o (fun _ _ _ _ _=>rfl) hi hj]
end
end Go.Shf
namespace Go.Shf
open Go.AW
def clE (m : Mo) (f g : SF) (z : Int) (t : List Int) : Int:=ix (clD m f g z) (posD m f g z t)
def szD (m : Mo) (f g : SF) (z : Int) : Int:=mxL (clD m f g z)
def repD (m : Mo) (f g : SF) (z c : Int) : List Int:=ix (dayE m f g z) (indexOf (clD m f g z) c)
def dayR (m : Mo) (f g : SF) (k : Int) : List Int:=(List.range (szD m f g (ix m.on.frm k)).toNat).map fun c : Nat=>clE m f g (ix m.on.to k) (movE m (repD m f g (ix m.on.frm k) c) k)
def dayF (m : Mo) (f g : SF) : SF:=⟨m.on,(List.range m.on.objs.toNat).map fun z : Nat=>szD m f g z,(List.range m.on.frm.length).map fun k : Nat=>dayR m f g k⟩
section
variable {m : Mo} {f g : SF} {z : Int} {s t : List Int} {a b h e d k : Int}
theorem clD_len (m : Mo) (f g : SF) (z : Int) : (clD m f g z).length=(dayE m f g z).length:=joinL_len _ _
theorem Ent.mv (o : DayO m f g) (ha : m.on.ArR k) (E : Ent m f g (ix m.on.frm k) t) : Ent m f g (ix m.on.to k) (movE m t k):=by
 have q:=o.mI.toPre.cE E.h ha E.ht;exact ⟨rfl,E.x,E.y,q.1,q.2.1.trans E.hf,q.2.2,E.e,E.d⟩
theorem DayG.mv (o : DayO m f g) (ha : m.on.ArR k) (h : DayG m f g (ix m.on.frm k) s t) : DayG m f g (ix m.on.to k) (movE m s k) (movE m t k):=by
 obtain ⟨a,b,h,e,d,X,rfl,rfl⟩:=h
 have P:=o.mI.toPre
 have q:=P.cE X.hA ha X.ht
 have r:=o.mI.ends a b X.aA X.bA;refine ⟨a,b,m.c h k,e,d,⟨X.aA,X.bA,q.1,q.2.1.trans X.hf,q.2.2,X.eR,X.dR⟩, ?_,rfl⟩
 have : m.c (m.c (m.a a b) h) k=m.c (m.a a b) (m.c h k):=P.cA (P.aA X.aA X.bA) X.hA ha (by rw [r.2,X.hf]) X.ht
 show [_,_,m.c (m.c (m.a a b) h) k,_,_]=_
 rw [this]; rfl
theorem EqG.mv (o : DayO m f g) (ha : m.on.ArR k) (h : EqG (DayG m f g (ix m.on.frm k)) s t) : EqG (DayG m f g (ix m.on.to k)) (movE m s k) (movE m t k):=by
 induction h with
 | gen x y h=>exact .gen _ _ (h.mv o ha)
 | refl x=>exact .refl _
 | symm _ ih=>exact ih.symm
 | trans _ _ h1 h2=>exact h1.trans h2
theorem cl_iff (o : DayO m f g) (S : Ent m f g z s) (T : Ent m f g z t) : clE m f g z s=clE m f g z t↔EqG (DayG m f g z) s t:=by
 have hs:=pos_in S
 have ht:=pos_in T
 have hl:=labs_len (dayE m f g z).length (psD m f g z fun _ _=>true)
 have k1:=class_ker (labs (dayE m f g z).length (psD m f g z fun _ _=>true)) (i:=(posD m f g z s).toNat) (j:=(posD m f g z t).toNat) (by rw [hl]; exact hs.2.1) (by rw [hl]; exact ht.2.1)
 have k2:=lab_iff o (q:=fun _ _=>true) (fun _ _ _ _ _=>rfl) hs.2.1 ht.2.1
 have e1 : (dayE m f g z).getD (posD m f g z s).toNat default=s:=hs.2.2
 have e2 : (dayE m f g z).getD (posD m f g z t).toNat default=t:=ht.2.2;rw [e1,e2] at k2;exact k1.trans k2
theorem cl_ran (S : Ent m f g z s) : 0≤clE m f g z s∧clE m f g z s<szD m f g z:=by
 have hs:=pos_in S
 have hm : clE m f g z s∈clD m f g z:=ix_mem (by rw [clD_len]; exact hs.2.1)
 have hr : ∀ v,v∈clD m f g z→0≤v∧v<((dayE m f g z).length : Int):=fun v hv=>joinL_ran hv;exact ⟨(hr _ hm).1,(mxL_bd (by omega) hr).2 _ hm⟩
theorem szD_nn (m : Mo) (f g : SF) (z : Int) : 0≤szD m f g z:=(mxL_bd (N:=((dayE m f g z).length : Int)) (by omega) fun v hv=>joinL_ran hv).1.1
theorem rep_cl {c : Int} (hc : 0≤c∧c<szD m f g z) : Ent m f g z (repD m f g z c)∧clE m f g z (repD m f g z c)=c:=by
 have hm : c∈clD m f g z:=joinL_cont _ _ c hc.1 hc.2
 have q:=indexOf_in hm;rw [clD_len] at q
 have p:=pos_at (m:=m) (f:=f) (g:=g) (z:=z) q.2.1;refine ⟨p.1, ?_⟩
 have e : posD m f g z (repD m f g z c)=indexOf (clD m f g z) c:=by
  have:=p.2;rw [Int.toNat_of_nonneg q.1] at this;exact this
 rw [clE,e]; exact q.2.2
theorem dayF_sz {y : Int} (hy : m.on.ObR y) : ix (dayF m f g).sizes y=szD m f g y:=by
 have h1:=hy.1
 have h2:=hy.2;rw [ix,dayF]
 show ((List.range m.on.objs.toNat).map fun z : Nat=>szD m f g z).getD y.toNat default=_
 rw [getD_map_range _ _ (by omega),Int.toNat_of_nonneg h1]
theorem dayF_act (hk : m.on.ArR k) : ix (dayF m f g).acts k=dayR m f g k:=by
 have h1:=hk.1
 have h2:=hk.2;rw [ix,dayF]
 show ((List.range m.on.frm.length).map fun k : Nat=>dayR m f g k).getD k.toNat default=_
 rw [getD_map_range _ _ h2,Int.toNat_of_nonneg h1]
theorem dayR_len (k : Int) : ((dayR m f g k).length : Int)=szD m f g (ix m.on.frm k):=by
 have:=szD_nn m f g (ix m.on.frm k)
 simp [dayR]; omega
theorem dayR_at (o : DayO m f g) (hk : m.on.ArR k) (E : Ent m f g (ix m.on.frm k) t) : ix (dayR m f g k) (clE m f g (ix m.on.frm k) t)=clE m f g (ix m.on.to k) (movE m t k):=by
 have r:=cl_ran E
 have q:=rep_cl r
 have e1 : ix (dayR m f g k) (clE m f g (ix m.on.frm k) t)=clE m f g (ix m.on.to k) (movE m (repD m f g (ix m.on.frm k) (clE m f g (ix m.on.frm k) t)) k):=by
  have h1:=r.1
  have h2:=r.2;rw [ix,dayR,getD_map_range _ _ (by omega),Int.toNat_of_nonneg h1]
 rw [e1,cl_iff o (q.1.mv o hk) (E.mv o hk)];exact ((cl_iff o q.1 E).mp q.2).mv o hk
theorem dayR_ran (o : DayO m f g) (hk : m.on.ArR k) {c : Int} (hc : 0≤c∧c<szD m f g (ix m.on.frm k)) : 0≤ix (dayR m f g k) c∧ix (dayR m f g k) c<szD m f g (ix m.on.to k):=by
 have q:=rep_cl hc
 have:=dayR_at o hk q.1;rw [q.2] at this;rw [this];exact cl_ran (q.1.mv o hk)
theorem dayF_is (o : DayO m f g) (h17 : ∀ z,m.on.ObR z→szD m f g z<17) : (dayF m f g).Is:=by
 have P:=o.mI.toPre
 have ho:=P.on.1.o;refine ⟨⟨P.on, ?_, ?_,fun y hy=>?_,fun a ha=>?_⟩,⟨fun x hx e he=>?_,fun a b ha hb e1 e he=>?_⟩⟩
 ·show ((((List.range m.on.objs.toNat).map fun z : Nat=>szD m f g z).length : Nat) : Int)=m.on.objs
  simp; omega
 ·show ((List.range m.on.frm.length).map fun k : Nat=>dayR m f g k).length=m.on.frm.length
  simp
 ·obtain ⟨z,hz,rfl⟩:=List.mem_map.mp hy
  have:=List.mem_range.mp hz;exact ⟨szD_nn _ _ _ _,h17 z ⟨by omega,by omega⟩⟩
 ·have ha' : a<m.on.frm.length:=by simpa [dayF] using ha
  have hA : m.on.ArR a:=⟨by omega,by simpa using ha'⟩
  have e1 : (dayF m f g).acts.getD a default=dayR m f g a:=by have:=dayF_act (f:=f) (g:=g) hA; rwa [ix_nat] at this
  have f1:=P.fO hA
  have t1:=P.tO hA;rw [ix_nat] at f1 t1;rw [e1];refine ⟨?_,fun y hy=>?_⟩
  ·rw [dayR_len]
   show _=ix (dayF m f g).sizes (m.on.frm.getD a default)
   rw [dayF_sz f1,ix_nat]
  ·obtain ⟨c,hc,rfl⟩:=mem_getD.mp hy
   have hl:=dayR_len (m:=m) (f:=f) (g:=g) (a : Int)
   have:=dayR_ran o hA (c:=(c : Int)) ⟨by omega,by omega⟩;rw [ix_nat,ix_nat] at this
   show _∧_<ix (dayF m f g).sizes (m.on.to.getD a default)
   rw [dayF_sz t1]; exact this
 ·have hxo : m.on.ObR x:=⟨by omega,by have:=P.on.1.il; have hx : x<m.on.idn.length:=hx; omega⟩
  have i1:=P.idE hxo;rw [ix_nat] at i1
  have e1 : ix (dayF m f g).acts (m.on.idn.getD x default)=dayR m f g (m.on.idn.getD x default):=dayF_act i1.1
  have he : e<(ix (dayF m f g).acts (m.on.idn.getD x default)).length:=he
  show (ix (dayF m f g).acts (m.on.idn.getD x default)).getD e default=e
  rw [e1] at he ⊢
  have hl:=dayR_len (m:=m) (f:=f) (g:=g) (m.on.idn.getD x default)
  have hc : 0≤(e : Int)∧(e : Int)<szD m f g (ix m.on.frm (m.on.idn.getD x default)):=⟨by omega,by omega⟩
  have q:=rep_cl hc
  have r:=dayR_at o i1.1 q.1;rw [q.2,ix_nat] at r;rw [r]
  have em : movE m (repD m f g (ix m.on.frm (m.on.idn.getD x default)) e) (m.on.idn.getD x default)=repD m f g (ix m.on.frm (m.on.idn.getD x default)) e:=by
   have q1:=q.1
   generalize repD m f g (ix m.on.frm (m.on.idn.getD x default)) e=t at q1
   have c1:=P.cR q1.h;rw [q1.ht,i1.2.1,ix_nat] at c1;rw [movE,c1]; exact q1.ex.symm
  rw [em,i1.2.2]
  have:=q.2
  rwa [i1.2.1] at this ⊢
 ·have ha : a<m.on.frm.length:=ha
  have hb : b<m.on.frm.length:=hb
  have hA : m.on.ArR a:=⟨by omega,by simpa using ha⟩
  have hB : m.on.ArR b:=⟨by omega,by simpa using hb⟩
  have eab : ix m.on.to (a : Int)=ix m.on.frm (b : Int):=by rw [ix_nat,ix_nat]; exact e1
  have C:=P.cE hA hB eab
  have hab : (m.on.comp.getD a default).getD b default=m.c a b:=by simp [Mo.c,ix]
  have ea : (dayF m f g).acts.getD a default=dayR m f g a:=by have:=dayF_act (f:=f) (g:=g) hA; rwa [ix_nat] at this
  have eb : (dayF m f g).acts.getD b default=dayR m f g b:=by have:=dayF_act (f:=f) (g:=g) hB; rwa [ix_nat] at this
  have ec : ix (dayF m f g).acts (m.c a b)=dayR m f g (m.c a b):=dayF_act C.1
  show (ix (dayF m f g).acts ((m.on.comp.getD a default).getD b default)).getD e default=ix ((dayF m f g).acts.getD b default) (((dayF m f g).acts.getD a default).getD e default)
  have he : e<((dayF m f g).acts.getD a default).length:=he;rw [ea] at he;rw [hab,ec,ea,eb]
  have hl:=dayR_len (m:=m) (f:=f) (g:=g) (a : Int)
  have hc : 0≤(e : Int)∧(e : Int)<szD m f g (ix m.on.frm (a : Int)):=⟨by omega,by omega⟩
  have q:=rep_cl hc
  have qa:=q.1.mv o hA
  have r1:=dayR_at o hA q.1;rw [q.2,ix_nat] at r1
  have r2:=dayR_at o hB (t:=movE m (repD m f g (ix m.on.frm (a : Int)) e) a) (by rw [← eab]; exact qa)
  have r3:=dayR_at o C.1 (t:=repD m f g (ix m.on.frm (a : Int)) e) (by rw [C.2.1]; exact q.1);rw [C.2.1,q.2,ix_nat] at r3;rw [r3,r1,eab,r2,C.2.2]
  have em : movE m (movE m (repD m f g (ix m.on.frm (a : Int)) e) a) b=movE m (repD m f g (ix m.on.frm (a : Int)) e) (m.c a b):=by
   have q1:=q.1
   generalize repD m f g (ix m.on.frm (a : Int)) e=t at q1
   show [_,_,m.c (m.c (ix t 2) a) b,_,_]=[_,_,m.c (ix t 2) (m.c a b),_,_]
   rw [P.cA q1.h hA hB q1.ht eab]; rfl
  rw [em]
end
end Go.Shf
namespace Go.Shf
open Go.AW
abbrev unF (m : Mo) : SF:=repF m.on m.unit
def arU (m : Mo) (x e : Int) : Int:=ix (hom m.on m.unit x) e
def kaU (m : Mo) (t : List Int) : Int:=m.c (m.a (arU m (ix t 0) (ix t 3)) (ix m.on.idn (ix t 1))) (ix t 2)
def vaU (m : Mo) (F : SF) (t : List Int) : Int:=ix (ix F.acts (kaU m t)) (ix t 4)
def ioU (m : Mo) : Int:=indexOf (hom m.on m.unit m.unit) (ix m.on.idn m.unit)
def enU (m : Mo) (z v : Int) : List Int:=[m.unit,z,ix m.on.idn z,ioU m,v]
section
variable {m : Mo} {F : SF} {z : Int} {s t : List Int} {a b h e d k x v : Int}
theorem repF_sz (hx : m.on.ObR x) : ix (unF m).sizes x=((hom m.on m.unit x).length : Int):=repSizes_ix hx
theorem arU_hom (hx : m.on.ObR x) (he : 0≤e∧e<ix (unF m).sizes x) : m.on.ArR (arU m x e)∧ix m.on.frm (arU m x e)=m.unit∧ix m.on.to (arU m x e)=x:=by
 rw [repF_sz hx] at he;exact mem_hom.mp (ix_mem (l:=hom m.on m.unit x) (i:=e) (by have:=he.1; have:=he.2; omega))
theorem arU_act (o : DayO m (unF m) F) (ha : m.on.ArR a) (he : 0≤e∧e<ix (unF m).sizes (ix m.on.frm a)) : arU m (ix m.on.to a) (ix (ix (unF m).acts a) e)=m.c (arU m (ix m.on.frm a) e) a:=by
 rw [repF_sz (o.mI.toPre.fO ha)] at he;exact (rep_act (c:=m.on) (x:=m.unit) o.mI.on.1 ha (k:=e) ⟨he.1,by have:=he.1; have:=he.2; omega⟩).2.2
theorem fComp (o : DayO m (unF m) F) (ha : m.on.ArR a) (hb : m.on.ArR b) (e1 : ix m.on.to a=ix m.on.frm b) (hd : 0≤d∧d<ix F.sizes (ix m.on.frm a)) : ix (ix F.acts (m.c a b)) d=ix (ix F.acts b) (ix (ix F.acts a) d):=by
 have sh:=o.gI.1.act a.toNat (by rw [o.gI.1.al,o.gs]; exact ha.2);rw [o.gs] at sh
 have hl : d.toNat<(F.acts.getD a.toNat default).length:=by
  have h1:=sh.1
  have h2 : ix F.sizes (m.on.frm.getD a.toNat default)=ix F.sizes (ix m.on.frm a):=rfl
  have:=hd.1; have:=hd.2; omega
 have:=o.gI.2.comp a.toNat b.toNat (by rw [o.gs]; exact ha.2) (by rw [o.gs]; exact hb.2) (by rw [o.gs]; exact e1) d.toNat hl;rw [o.gs] at this;exact this
theorem fId (o : DayO m (unF m) F) (hx : m.on.ObR x) (hd : 0≤d∧d<ix F.sizes x) : ix (ix F.acts (ix m.on.idn x)) d=d:=by
 have:=o.gI.idAct (x:=x) (e:=d) (by rw [o.gs]; exact hx) hd
 rwa [o.gs] at this
theorem kaU_ends (o : DayO m (unF m) F) (E : Ent m (unF m) F z t) : m.on.ArR (kaU m t)∧ix m.on.frm (kaU m t)=ix t 1∧ix m.on.to (kaU m t)=z:=by
 have P:=o.mI.toPre
 have u:=arU_hom E.x E.e
 have i:=P.idE E.y
 have q:=o.mI.pull u.1 i.1 E.h (by rw [E.hf,u.2.2,i.2.2]);refine ⟨q.1, ?_,q.2.2.trans E.ht⟩
 have e:=q.2.1;rw [u.2.1,i.2.1,o.mI.oU E.y] at e;exact e
theorem vaU_ran (o : DayO m (unF m) F) (E : Ent m (unF m) F z t) : 0≤vaU m F t∧vaU m F t<ix F.sizes z:=by
 have q:=kaU_ends o E
 have:=o.gact q.1 (e:=ix t 4) (by rw [q.2.1]; exact E.d)
 rwa [q.2.2] at this
theorem vaU_gen (o : DayO m (unF m) F) (h : DayG m (unF m) F z s t) : vaU m F s=vaU m F t:=by
 obtain ⟨a,b,h,e,d,X,rfl,rfl⟩:=h
 have P:=o.mI.toPre
 have u:=arU_hom (P.fO X.aA) X.eR
 have ub:=P.idE (P.fO X.bA)
 have tb:=P.idE (P.tO X.bA)
 have iu:=P.idE P.un
 have ua:=P.cE u.1 X.aA u.2.2
 have ET:=X.entT o
 have kt:=kaU_ends o ET
 have ku : kaU m (dayT m (unF m) F a b h e d)=m.c (m.a (m.c (arU m (ix m.on.frm a) e) a) (ix m.on.idn (ix m.on.to b))) h:=by
  show m.c (m.a (arU m (ix m.on.to a) (ix (ix (unF m).acts a) e)) (ix m.on.idn (ix m.on.to b))) h=_
  rw [arU_act o X.aA X.eR]
 have q1:=o.mI.ends _ _ u.1 ub.1
 have q2:=o.mI.ends a b X.aA X.bA
 have ks : kaU m (dayS m a b h e d)=m.c (m.a (m.c (arU m (ix m.on.frm a) e) a) b) h:=by
  show m.c (m.a (arU m (ix m.on.frm a) e) (ix m.on.idn (ix m.on.frm b))) (m.c (m.a a b) h)=_
  rw [← P.cA (P.aA u.1 ub.1) (P.aA X.aA X.bA) X.hA (by rw [q1.2,q2.1,u.2.2,ub.2.2]) (by rw [q2.2,X.hf]),← o.mI.inter _ a _ b u.1 X.aA ub.1 X.bA u.2.2 ub.2.2,P.cL X.bA]
 have kb : m.c b (kaU m (dayT m (unF m) F a b h e d))=kaU m (dayS m a b h e d):=by
  rw [ku,ks]
  have q3:=o.mI.ends _ _ ua.1 tb.1
  have e0 : m.a (ix m.on.idn m.unit) b=b:=o.mI.aU X.bA
  have e1 : m.c b (m.a (m.c (arU m (ix m.on.frm a) e) a) (ix m.on.idn (ix m.on.to b)))=m.a (m.c (arU m (ix m.on.frm a) e) a) b:=by
   have:=o.mI.inter (ix m.on.idn m.unit) (m.c (arU m (ix m.on.frm a) e) a) b (ix m.on.idn (ix m.on.to b)) iu.1 ua.1 X.bA tb.1 (by rw [iu.2.2,ua.2.1,u.2.1]) (by rw [tb.2.1]);rw [e0] at this;rw [← this,P.cR X.bA]
   have hl:=P.cL ua.1;rw [ua.2.1,u.2.1] at hl;rw [hl]
  rw [← P.cA X.bA (P.aA ua.1 tb.1) X.hA (by rw [q3.1,ua.2.1,u.2.1,tb.2.1,o.mI.oU (P.tO X.bA)]) (by rw [q3.2,X.hf,ua.2.2,tb.2.2]),e1]
 have:=fComp o X.bA kt.1 kt.2.1.symm X.dR;rw [kb] at this;exact this
theorem vaU_eq (o : DayO m (unF m) F) (h : EqG (DayG m (unF m) F z) s t) : vaU m F s=vaU m F t:=by
 induction h with
 | gen x y h=>exact vaU_gen o h
 | refl x=>rfl
 | symm _ ih=>exact ih.symm
 | trans _ _ h1 h2=>exact h1.trans h2
theorem ioU_in (o : DayO m (unF m) F) : (0≤ioU m∧ioU m<ix (unF m).sizes m.unit)∧arU m m.unit (ioU m)=ix m.on.idn m.unit:=by
 have P:=o.mI.toPre
 have i:=P.idE P.un
 have q:=indexOf_in (l:=hom m.on m.unit m.unit) (a:=ix m.on.idn m.unit) (mem_hom.mpr ⟨i.1,i.2⟩);refine ⟨⟨q.1, ?_⟩,q.2.2⟩;rw [repF_sz P.un]
 have h1:=q.1; have h2:=q.2.1
 show indexOf (hom m.on m.unit m.unit) (ix m.on.idn m.unit)<_
 omega
theorem enU_ent (o : DayO m (unF m) F) (hz : m.on.ObR z) (hv : 0≤v∧v<ix F.sizes z) : Ent m (unF m) F z (enU m z v):=by
 have P:=o.mI.toPre
 have i:=P.idE hz;exact ⟨rfl,P.un,hz,i.1,by show ix m.on.frm (ix m.on.idn z)=m.o m.unit z; rw [i.2.1,o.mI.oU hz],i.2.2,(ioU_in o).1,hv⟩
theorem enU_va (o : DayO m (unF m) F) (hz : m.on.ObR z) (hv : 0≤v∧v<ix F.sizes z) : vaU m F (enU m z v)=v:=by
 have P:=o.mI.toPre
 have i:=P.idE hz
 have hk : kaU m (enU m z v)=ix m.on.idn z:=by
  show m.c (m.a (arU m m.unit (ioU m)) (ix m.on.idn z)) (ix m.on.idn z)=_
  rw [(ioU_in o).2,o.mI.aU i.1]
  have:=P.cR i.1
  rwa [i.2.2] at this
 show ix (ix F.acts (kaU m (enU m z v))) v=v
 rw [hk]; exact fId o hz hv
theorem enU_eq (o : DayO m (unF m) F) (hz : m.on.ObR z) (E : Ent m (unF m) F z t) : EqG (DayG m (unF m) F z) t (enU m z (vaU m F t)):=by
 have P:=o.mI.toPre
 have u:=arU_hom E.x E.e
 have iy:=P.idE E.y
 have iz:=P.idE hz
 have iu:=P.idE P.un
 have io:=ioU_in o
 have kt:=kaU_ends o E
 have u0 : ix m.on.frm (arU m (ix t 0) (ix t 3))=m.unit:=u.2.1
 have X1 : DayA m (unF m) F z (arU m (ix t 0) (ix t 3)) (ix m.on.idn (ix t 1)) (ix t 2) (ioU m) (ix t 4) :=
  ⟨u.1,iy.1,E.h,by rw [E.hf,u.2.2,iy.2.2],E.ht,by rw [u0]; exact io.1,by rw [iy.2.1]; exact E.d⟩
 have e1 : dayT m (unF m) F (arU m (ix t 0) (ix t 3)) (ix m.on.idn (ix t 1)) (ix t 2) (ioU m) (ix t 4)=t:=by
  have a1 : ix (ix (unF m).acts (arU m (ix t 0) (ix t 3))) (ioU m)=ix t 3:=by
   have hs:=E.e;rw [repF_sz E.x] at hs
   have r:=rep_act (c:=m.on) (x:=m.unit) o.mI.on.1 u.1 (k:=ioU m) ⟨io.1.1,by
    have h1:=io.1.1; have h2:=io.1.2;rw [repF_sz P.un] at h2;rw [u0]; omega⟩
   have e0 : ix (hom m.on m.unit (ix m.on.frm (arU m (ix t 0) (ix t 3)))) (ioU m)=ix m.on.idn m.unit:=by rw [u0]; exact io.2
   have e2:=r.1;rw [e0,u.2.2] at e2
   have e3 : ix (ix m.on.comp (ix m.on.idn m.unit)) (arU m (ix t 0) (ix t 3))=arU m (ix t 0) (ix t 3):=by
    have:=P.cL u.1;rw [u0] at this;exact this
   rw [e3] at e2;exact e2.trans (indexOf_ix hom_nodup ⟨hs.1,by have:=hs.1; have:=hs.2; omega⟩)
  rw [dayT,a1,u.2.2,iy.2.2,fId o E.y E.d];exact E.ex.symm
 have e2 : dayS m (arU m (ix t 0) (ix t 3)) (ix m.on.idn (ix t 1)) (ix t 2) (ioU m) (ix t 4)=[m.unit,ix t 1,kaU m t,ioU m,ix t 4]:=by
  rw [dayS,u0,iy.2.1]; rfl
 have g1 : DayG m (unF m) F z [m.unit,ix t 1,kaU m t,ioU m,ix t 4] t:=⟨_,_,_,_,_,X1,e2.symm,e1.symm⟩
 have X2 : DayA m (unF m) F z (ix m.on.idn m.unit) (kaU m t) (ix m.on.idn z) (ioU m) (ix t 4) :=
  ⟨iu.1,kt.1,iz.1,by rw [iz.2.1,iu.2.2,kt.2.2,o.mI.oU hz],iz.2.2,by rw [iu.2.1]; exact io.1,by rw [kt.2.1]; exact E.d⟩
 have e3 : dayS m (ix m.on.idn m.unit) (kaU m t) (ix m.on.idn z) (ioU m) (ix t 4)=[m.unit,ix t 1,kaU m t,ioU m,ix t 4]:=by
  have c:=P.cR kt.1;rw [kt.2.2] at c;rw [dayS,o.mI.aU kt.1,c,iu.2.1,kt.2.1]
 have e4 : dayT m (unF m) F (ix m.on.idn m.unit) (kaU m t) (ix m.on.idn z) (ioU m) (ix t 4)=enU m z (vaU m F t):=by
  have a1 : ix (ix (unF m).acts (ix m.on.idn m.unit)) (ioU m)=ioU m:=by
   have:=o.fI.idAct (x:=m.unit) (e:=ioU m) (by rw [o.fs]; exact P.un) io.1
   rwa [o.fs] at this
  rw [dayT,a1,iu.2.2,kt.2.2]; rfl
 have g2 : DayG m (unF m) F z [m.unit,ix t 1,kaU m t,ioU m,ix t 4] (enU m z (vaU m F t)):=⟨_,_,_,_,_,X2,e3.symm,e4.symm⟩;exact (EqG.gen _ _ g1).symm.trans (.gen _ _ g2)
theorem cl_va (o : DayO m (unF m) F) (hz : m.on.ObR z) (S : Ent m (unF m) F z s) (T : Ent m (unF m) F z t) : clE m (unF m) F z s=clE m (unF m) F z t↔vaU m F s=vaU m F t:=by
 rw [cl_iff o S T];refine ⟨vaU_eq o,fun e=>?_⟩
 have h1:=enU_eq o hz S
 have h2:=enU_eq o hz T;rw [e] at h1;exact h1.trans h2.symm
def phU (m : Mo) (F : SF) (z c : Int) : Int:=vaU m F (repD m (unF m) F z c)
def mpU (m : Mo) (F : SF) : List (List Int):=(List.range m.on.objs.toNat).map fun z : Nat=>(List.range (szD m (unF m) F z).toNat).map fun c : Nat=>phU m F z c
theorem phU_cl (o : DayO m (unF m) F) (hz : m.on.ObR z) (T : Ent m (unF m) F z t) : phU m F z (clE m (unF m) F z t)=vaU m F t:=by
 have q:=rep_cl (cl_ran T);exact (cl_va o hz q.1 T).mp q.2
theorem phU_ran (o : DayO m (unF m) F) {c : Int} (hc : 0≤c∧c<szD m (unF m) F z) : 0≤phU m F z c∧phU m F z c<ix F.sizes z:=vaU_ran o (rep_cl hc).1
theorem phU_inj (o : DayO m (unF m) F) (hz : m.on.ObR z) {c c' : Int} (hc : 0≤c∧c<szD m (unF m) F z) (hc' : 0≤c'∧c'<szD m (unF m) F z) (e : phU m F z c=phU m F z c') : c=c':=by
 have q:=rep_cl hc
 have q':=rep_cl hc'
 have:=(cl_va o hz q.1 q'.1).mpr e
 rwa [q.2,q'.2] at this
theorem le_of_inj {n k : Nat} (φ : Nat→Int) (h : ∀ i,i<n→0≤φ i∧φ i<(k : Int)) (hi : ∀ i j,i<n→j<n→φ i=φ j→i=j) : n≤k:=by
 have:=List.Nodup.length_le_of_subset (l₁:=(List.range n).map φ) (l₂:=(List.range k).map Int.ofNat) (by
  rw [List.nodup_iff_pairwise_ne,List.pairwise_map]
  exact List.Pairwise.imp_of_mem (R:=fun a b=>a≠b) (fun {a b} ha hb hne e=>hne (hi a b (List.mem_range.mp ha) (List.mem_range.mp hb) e)) List.nodup_range) fun y hy=>by
   obtain ⟨i,hi',rfl⟩:=List.mem_map.mp hy
   have:=h i (List.mem_range.mp hi');exact List.mem_map.mpr ⟨(φ i).toNat,List.mem_range.mpr (by omega),Int.toNat_of_nonneg this.1⟩
 simpa using this
theorem szU (o : DayO m (unF m) F) (hz : m.on.ObR z) : szD m (unF m) F z=ix F.sizes z:=by
 have h0:=szD_nn m (unF m) F z
 have hF : 0≤ix F.sizes z:=(sz0 (f:=F) o.gI.1 (x:=z) (by rw [o.gs]; exact hz)).1
 have h1 : (szD m (unF m) F z).toNat≤(ix F.sizes z).toNat:=le_of_inj (fun c=>phU m F z c) (fun c hc=>by have:=phU_ran o (z:=z) (c:=(c : Int)) ⟨by omega,by omega⟩; exact ⟨this.1,by omega⟩) fun i j hi hj e=>by
  have:=phU_inj o hz (c:=(i : Int)) (c':=(j : Int)) ⟨by omega,by omega⟩ ⟨by omega,by omega⟩ e;omega
 have h2 : (ix F.sizes z).toNat≤(szD m (unF m) F z).toNat:=le_of_inj (fun v=>clE m (unF m) F z (enU m z v)) (fun v hv=>by have:=cl_ran (enU_ent o hz (v:=(v : Int)) ⟨by omega,by omega⟩); exact ⟨this.1,by omega⟩) fun i j hi hj e=>by
  have k1:=enU_ent o hz (v:=(i : Int)) ⟨by omega,by omega⟩
  have k2:=enU_ent o hz (v:=(j : Int)) ⟨by omega,by omega⟩
  have:=(cl_va o hz k1 k2).mp e;rw [enU_va o hz ⟨by omega,by omega⟩,enU_va o hz ⟨by omega,by omega⟩] at this;omega
 omega
theorem mpU_at (hz : m.on.ObR z) {c : Int} (hc : 0≤c∧c<szD m (unF m) F z) : ((ix (mpU m F) z).length : Int)=szD m (unF m) F z∧ix (ix (mpU m F) z) c=phU m F z c:=by
 have h1:=hz.1; have h2:=hz.2
 have e : ix (mpU m F) z=(List.range (szD m (unF m) F z).toNat).map fun c : Nat=>phU m F z c:=by
  rw [ix,mpU,getD_map_range _ _ (by omega),Int.toNat_of_nonneg h1]
 rw [e];refine ⟨by have:=szD_nn m (unF m) F z; simp; omega, ?_⟩;rw [ix,getD_map_range _ _ (by omega),Int.toNat_of_nonneg hc.1]
theorem mpU_len (hz : m.on.ObR z) : ((ix (mpU m F) z).length : Int)=szD m (unF m) F z:=by
 have h1:=hz.1; have h2:=hz.2
 have e : ix (mpU m F) z=(List.range (szD m (unF m) F z).toNat).map fun c : Nat=>phU m F z c:=by
  rw [ix,mpU,getD_map_range _ _ (by omega),Int.toNat_of_nonneg h1]
 rw [e]
 have:=szD_nn m (unF m) F z; simp; omega
theorem mpU_map (o : DayO m (unF m) F) : MapL (dayF m (unF m) F) F (mpU m F) where
 len:=by
  have:=o.mI.on.1.o
  show ((mpU m F).length : Int)=m.on.objs
  simp [mpU]; omega
 pl z hz:=by
  have hz : m.on.ObR z:=hz;rw [dayF_sz hz];exact ⟨mpU_len hz,fun c hc=>by rw [(mpU_at hz hc).2]; exact phU_ran o hc⟩
 nl k hk c hc:=by
  have hk : m.on.ArR k:=hk
  have P:=o.mI.toPre
  have f1:=P.fO hk
  have t1:=P.tO hk
  have hc : 0≤c∧c<ix (dayF m (unF m) F).sizes (ix m.on.frm k):=hc;rw [dayF_sz f1] at hc
  show ix (ix (mpU m F) (ix m.on.to k)) (ix (ix (dayF m (unF m) F).acts k) c)=ix (ix F.acts k) (ix (ix (mpU m F) (ix m.on.frm k)) c)
  rw [dayF_act hk,(mpU_at f1 hc).2,(mpU_at t1 (dayR_ran o hk hc)).2]
  have q:=rep_cl hc
  have r:=dayR_at o hk q.1;rw [q.2] at r;rw [r,phU_cl o t1 (q.1.mv o hk)]
  have kt:=kaU_ends o q.1
  have u:=arU_hom q.1.x q.1.e
  have iy:=P.idE q.1.y
  have qq:=o.mI.ends _ _ u.1 iy.1
  have ek : kaU m (movE m (repD m (unF m) F (ix m.on.frm k) c) k)=m.c (kaU m (repD m (unF m) F (ix m.on.frm k) c)) k :=
   (P.cA (P.aA u.1 iy.1) q.1.h hk (by rw [qq.2,q.1.hf,u.2.2,iy.2.2]) q.1.ht).symm
  show ix (ix F.acts (kaU m (movE m (repD m (unF m) F (ix m.on.frm k) c) k))) _=_
  rw [ek];exact fComp o kt.1 hk kt.2.2 (by rw [kt.2.1]; exact q.1.d)
theorem mpU_inj (o : DayO m (unF m) F) (hz : m.on.ObR z) {c c' : Int} (hc : 0≤c∧c<szD m (unF m) F z) (hc' : 0≤c'∧c'<szD m (unF m) F z) (e : ix (ix (mpU m F) z) c=ix (ix (mpU m F) z) c') : c=c':=by
 rw [(mpU_at hz hc).2,(mpU_at hz hc').2] at e;exact phU_inj o hz hc hc' e
end
end Go.Shf
namespace Go.Shf
open Go.AW
def SqB (T : List (List Int)) (n : Int) : Prop:=∀ r,r∈T→r.length=T.length∧∀ v,v∈r→0≤v∧v<n
theorem tabN_iff {n : Nat} {T : List (List Int)} : TabN n T↔T.length=n∧SqB T n :=
 ⟨fun h=>⟨h.1,fun r hr=>⟨by rw [(h.2 r hr).1,h.1],(h.2 r hr).2⟩⟩,fun h=>⟨h.1,fun r hr=>⟨by rw [(h.2 r hr).1,h.1],(h.2 r hr).2⟩⟩⟩
end Go.Shf
namespace Go.Proofs.Shf
open Go.AW Go.Proofs Go.Shf
theorem l03Square_ok (B : Nat) (T : List (List Int)) (n : Int) : Pur Tryz.prog B 264 [iLL T,iI n] (.bool (dec (SqB T n))):=by
 refine ⟨fun H0=>c264.go fun hf=>?_⟩
 have hl:=fine_mL_le hf.1;simp only [maxL] at hl;refine tt ?_;refine awp_for [0,1] (fun k _=>[(5,some (.int .i64 (k : Int)))]) (fun k _ H=>H=H0∧∀ i,i<k→(T.getD i default).length=T.length∧∀ v,v∈T.getD i default→0≤v∧v<n) T.length () ⟨rfl,by simp⟩ rfl ?_
 rintro k _ H hk ⟨rfl,hall⟩;refine tt ?_;apply bk <;> intro h1
 ·have h1p:=of_decide h1
  have w1:=wsucc (k:=k) (by omega)
  have hn : ¬ ((T.getD k default).length=T.length∧∀ v,v∈T.getD k default→0≤v∧v<n)→¬ SqB T n:=fun hc h=>hc (h _ (mem_getD.mpr ⟨k,h1p,rfl⟩));refine tt ?_;refine ⟨h1p, ?_⟩
  by_cases e : (T.getD k default).length=T.length
  ·rw [decide_eq_true e];refine tt ?_;refine ⟨h1p,(l01Map_ok B (T.getD k default) n).run.use ?_⟩
   by_cases e2 : ∀ v,v∈T.getD k default→0≤v∧v<n
   ·rw [dec_t e2];refine tw w1 ?_;exact for_next () h1p ⟨rfl,lt_succ_all hall ⟨e,e2⟩⟩ rfl
   ·rw [dec_f e2];refine tt ?_;exact pure_ret (by rw [dec_f (hn fun q=>e2 q.2)]) (.refl _)
  ·rw [decide_eq_false e];refine tt ?_;exact pure_ret (by rw [dec_f (hn fun q=>e q.1)]) (.refl _)
 ·have h1p:=of_ndecide h1;refine tt ?_;exact pure_ret (by rw [dec_t]; intro r hr; obtain ⟨i,hi,rfl⟩:=mem_getD.mp hr; exact hall i (by omega)) (.refl _)
theorem l35Table_ok (B : Nat) (T : List (List Int)) (n b : Int) : Pur Tryz.prog B 196 [iLL T,iI n,iI b] (.bool (dec ((T.length : Int)=n∧SqB T b))):=by
 refine ⟨fun H0=>c196.go fun hf=>?_⟩;refine tt ?_
 by_cases e : (T.length : Int)=n
 ·rw [decide_eq_true e];refine tt ?_;refine (l03Square_ok B T b).run.use ?_;refine tt ?_
  have e2 : dec (SqB T b)=dec ((T.length : Int)=n∧SqB T b):=by
   by_cases h : SqB T b
   ·rw [dec_t h,dec_t ⟨e,h⟩]
   ·rw [dec_f h,dec_f fun q=>h q.2]
  exact pure_ret (by rw [e2]) (.refl _)
 ·rw [decide_eq_false e];refine tt ?_;exact pure_ret (by rw [dec_f fun q=>e q.1]) (.refl _)
theorem tab_get {n : Nat} {T : List (List Int)} (h : TabN n T) {i j : Nat} (hi : i<T.length) (hj : j<T.length) : j<(T.getD i default).length∧0≤(T.getD i default).getD j default∧((T.getD i default).getD j default).toNat<T.length:=by
 have q:=h.at (i:=(i : Int)) (j:=(j : Int)) ⟨by omega,by rw [← h.1]; simpa using hi⟩ ⟨by omega,by rw [← h.1]; simpa using hj⟩;simp only [ix_nat,Int.toNat_natCast] at q
 have:=h.1;exact ⟨q.1.2,q.2.1,by have:=q.2; omega⟩
theorem l35Whole_ok (B : Nat) {n : Nat} {T : List (List Int)} (h : TabN n T) {u : Int} (hu : 0≤u∧u.toNat<T.length) (hl : T.length≤1000000) : Pur Tryz.prog B 198 [iLL T,iI u] (.bool (dec (Whole T u))):=by
 refine ⟨fun H0=>c198.go fun hf=>?_⟩
 have eu : ix T u=T.getD u.toNat default:=rfl;refine tt ?_;refine awp_for [0,1] (fun k _=>[(5,some (.int .i64 (k : Int)))]) (fun k _ H=>H=H0∧∀ i,i<k→WholeAt T u i) T.length () ⟨rfl,by simp⟩ rfl ?_
 rintro k _ H hk ⟨rfl,hall⟩;refine tt ?_;apply bk <;> intro h1
 rotate_left
 ·have h1p:=of_ndecide h1;refine tt ?_;exact pure_ret (by rw [dec_t]; intro i hi; exact hall i (by omega)) (.refl _)
 have h1p:=of_decide h1
 have w1:=wsucc (k:=k) (by omega)
 have hn : ¬ WholeAt T u k→¬ Whole T u:=fun hc h=>hc (h k h1p)
 have g1:=tab_get h hu.2 h1p
 have g2:=tab_get h h1p hu.2;refine tt ?_;refine ⟨hu,g1.1, ?_⟩
 by_cases e1 : (T.getD u.toNat default).getD k default=(k : Int)
 rotate_left
 ·rw [decide_eq_false (show ¬ (ix T u).getD k default=(k : Int) from e1)];refine tt ?_;exact pure_ret (by rw [dec_f (hn fun q=>e1 q.1.1)]) (.refl _)
 rw [decide_eq_true (show (ix T u).getD k default=(k : Int) from e1)];refine tt ?_;refine ⟨h1p,⟨hu.1,g2.1⟩, ?_⟩
 by_cases e2 : ix (T.getD k default) u=(k : Int)
 rotate_left
 ·rw [decide_eq_false e2];refine tt ?_;exact pure_ret (by rw [dec_f (hn fun q=>e2 (by have:=q.1.2; rwa [ix_nat] at this))]) (.refl _)
 rw [decide_eq_true e2]
 have e0 : (ix (ix T u) k=k∧ix (ix T k) u=k):=⟨by rw [ix_nat]; exact e1,by rw [ix_nat]; exact e2⟩;refine tt ?_;refine awp_for [0,1,5] (G:=Unit) (fun j _=>[(6,some (.int .i64 (j : Int)))]) (fun j _ H'=>H'=H∧∀ i : Nat,i<j→∀ l : Nat,l<T.length→ix (ix T (ix (ix T k) i)) l=ix (ix T k) (ix (ix T i) l)) T.length () ⟨rfl,by simp⟩ rfl ?_
 rintro j _ H hj ⟨rfl,hJ⟩;refine tt ?_;apply bk <;> intro h2
 rotate_left
 ·have h2p:=of_ndecide h2;refine tw w1 ?_;exact for_next () h1p ⟨rfl,lt_succ_all hall ⟨e0,fun i hi=>hJ i (by omega)⟩⟩ rfl
 have h2p:=of_decide h2
 have w2:=wsucc (k:=j) (by omega)
 have g3:=tab_get h h1p h2p;refine tt ?_;refine awp_for [0,1,5,6] (G:=Unit) (fun l _=>[(7,some (.int .i64 (l : Int)))]) (fun l _ H'=>H'=H∧∀ i : Nat,i<l→ix (ix T (ix (ix T k) j)) i=ix (ix T k) (ix (ix T j) i)) T.length () ⟨rfl,by simp⟩ rfl ?_
 rintro l _ H' hll ⟨rfl,hL⟩;refine tt ?_;apply bk <;> intro h3
 rotate_left
 ·have h3p:=of_ndecide h3;refine tw w2 ?_;exact for_next () h2p ⟨rfl,lt_succ_all hJ fun i hi=>hL i (by omega)⟩ rfl
 have h3p:=of_decide h3
 have w3:=wsucc (k:=l) (by omega)
 have g4:=tab_get h h2p h3p
 have g5:=tab_get h (i:=((T.getD k default).getD j default).toNat) g3.2.2 h3p
 have g6:=tab_get h h1p (j:=((T.getD j default).getD l default).toNat) g4.2.2;refine tt ?_;refine ⟨h1p,g3.1,⟨g3.2.1,g3.2.2⟩,g5.1,h1p,h2p,g4.1,⟨g4.2.1,g6.1⟩, ?_⟩
 have en : (ix (ix T (ix (ix T k) j)) l=ix (ix T k) (ix (ix T j) l))=((ix T ((T.getD k default).getD j default)).getD l default=ix (T.getD k default) ((T.getD j default).getD l default)):=by simp only [ix_nat]
 by_cases e3 : (ix T ((T.getD k default).getD j default)).getD l default=ix (T.getD k default) ((T.getD j default).getD l default)
 ·rw [decide_eq_true e3];refine tw w3 ?_;exact for_next () h3p ⟨rfl,lt_succ_all hL (Eq.mpr en e3)⟩ rfl
 ·rw [decide_eq_false e3];refine tt ?_;exact pure_ret (by rw [dec_f (hn fun q=>e3 (Eq.mp en (q.2 j h2p l h3p)))]) (.refl _)
theorem mo_oI {m : Mo} (p : m.Pre) {x y : Int} (hx : m.on.ObR x) (hy : m.on.ObR y) : (0≤x∧x.toNat<m.ob.length)∧0≤y∧y.toNat<(ix m.ob x).length:=by
 have q:=p.ot.at (i:=x) (j:=y) ⟨hx.1,by have:=hx.1; have:=hx.2; omega⟩ ⟨hy.1,by have:=hy.1; have:=hy.2; omega⟩;exact ⟨⟨hx.1,q.1.1⟩,hy.1,q.1.2⟩
theorem mo_aI {m : Mo} (p : m.Pre) {x y : Int} (hx : m.on.ArR x) (hy : m.on.ArR y) : (0≤x∧x.toNat<m.ar.length)∧0≤y∧y.toNat<(ix m.ar x).length:=by
 have q:=p.at'.at (i:=x) (j:=y) hx hy;exact ⟨⟨hx.1,q.1.1⟩,hy.1,q.1.2⟩
def EndsAt (m : Mo) (f g : Int) : Prop:=ix m.on.frm (m.a f g)=m.o (ix m.on.frm f) (ix m.on.frm g)∧ix m.on.to (m.a f g)=m.o (ix m.on.to f) (ix m.on.to g)
def EndsR (m : Mo) : Prop:=∀ f : Nat,f<m.on.frm.length→∀ g : Nat,g<m.on.frm.length→EndsAt m f g
theorem l35Ends_ok (B : Nat) {m : Mo} (p : m.Pre) : Pur Tryz.prog B 197 [.agg m.cells] (.bool (dec (EndsR m))):=by
 refine ⟨fun H0=>c197p.go fun hf=>?_⟩
 have hm:=p.on.1.m
 have tl:=p.on.1.tol
 have o : Owns H0 H0 []:=.nil _;refine tt ?_;refine newRef_own o fun id3 H o=>tt ?_;refine sw o fun H o=>?_
 have o : Owns H0 H [(id3,.cells 5 m.on.cells 0)]:=o;refine tt ?_;refine wk_ref 3 o rfl fun H o=>wkW_done ?_;refine tt ?_;refine awp_for [1,3] (G:=Unit) (fun k _=>[(4,some (.int .i64 (k : Int)))]) (fun k _ H'=>H'=H∧∀ f : Nat,f<k→∀ g : Nat,g<m.on.frm.length→EndsAt m f g) m.on.frm.length () ⟨rfl,by simp⟩ rfl ?_
 rintro k _ H' hk ⟨rfl,hall⟩;refine tt ?_;apply bk <;> intro h1
 rotate_left
 ·have h1p:=of_ndecide h1;refine tt ?_;exact pure_ret (by rw [dec_t]; exact fun f hf=>hall f (by omega)) o.sub
 have h1p:=of_decide h1
 have w1:=wsucc (k:=k) (by omega)
 have hkA : m.on.ArR k:=⟨by omega,by simpa using h1p⟩;refine tt ?_;refine awp_for [1,3,4] (G:=Unit) (fun j _=>[(5,some (.int .i64 (j : Int)))]) (fun j _ H=>H=H'∧∀ g : Nat,g<j→EndsAt m k g) m.on.frm.length () ⟨rfl,by simp⟩ rfl ?_
 rintro j _ H hj ⟨rfl,hJ⟩;refine tt ?_;apply bk <;> intro h2
 rotate_left
 ·have h2p:=of_ndecide h2;refine tw w1 ?_;exact for_next () h1p ⟨rfl,lt_succ_all hall fun g hg=>hJ g (by omega)⟩ rfl
 have h2p:=of_decide h2
 have w2:=wsucc (k:=j) (by omega)
 have hjA : m.on.ArR j:=⟨by omega,by simpa using h2p⟩
 have a1:=mo_aI p hkA hjA
 have a2:=p.aA hkA hjA
 have f1:=mo_oI p (p.fO hkA) (p.fO hjA)
 have t1:=mo_oI p (p.tO hkA) (p.tO hjA)
 have hn : ¬ EndsAt m k j→¬ EndsR m:=fun hc h=>hc (h k h1p j h2p)
 have ed : EndsAt m k j=(ix m.on.frm ((m.ar.getD k default).getD j default)=ix (ix m.ob (m.on.frm.getD k default)) (m.on.frm.getD j default)∧ix m.on.to ((m.ar.getD k default).getD j default)=ix (ix m.ob (m.on.to.getD k default)) (m.on.to.getD j default)):=by simp only [EndsAt,Mo.a,Mo.o,ix_nat]
 refine tt ?_;refine ⟨a1.1.2,a1.2.2, ?_⟩
 have kf:=p.fO hkA
 have kt:=p.tO hkA;refine ⟨⟨a2.1,a2.2⟩,h1p,f1.1,h2p,f1.2, ?_⟩
 by_cases e1 : ix m.on.frm ((m.ar.getD k default).getD j default)=ix (ix m.ob (m.on.frm.getD k default)) (m.on.frm.getD j default)
 rotate_left
 ·rw [decide_eq_false e1];refine tt ?_;exact pure_ret (by rw [dec_f (hn fun q=>e1 (Eq.mp ed q).1)]) o.sub
 rw [decide_eq_true e1];refine tt ?_;refine ⟨⟨a2.1,by rw [tl]; exact a2.2⟩,by rw [tl]; exact h1p,t1.1,by rw [tl]; exact h2p,t1.2, ?_⟩
 by_cases e2 : ix m.on.to ((m.ar.getD k default).getD j default)=ix (ix m.ob (m.on.to.getD k default)) (m.on.to.getD j default)
 rotate_left
 ·rw [decide_eq_false e2];refine tt ?_;exact pure_ret (by rw [dec_f (hn fun q=>e2 (Eq.mp ed q).2)]) o.sub
 rw [decide_eq_true e2];refine tw w2 ?_;exact for_next () h2p ⟨rfl,lt_succ_all hJ (Eq.mpr ed ⟨e1,e2⟩)⟩ rfl
theorem dT5 {p : Decidable True} : @decide True p=true:=@decide_eq_true True p trivial
theorem lkRows5_ok (B : Nat) (a : List (List Int)) : Pur Tryz.prog B 14 [iLL a,iLL a] (.bool true):=by
 refine ⟨fun H0=>c14.go fun ⟨hf,_⟩=>?_⟩
 have hl:=fine_mL_le hf;simp only [maxL] at hl;refine tt ?_;refine ⟨fun e=>(by simp at e),fun _=>At.mk ?_⟩;refine tt ?_;refine awp_for [0,1] (G:=Unit) (fun k _=>[(5,some (.int .i64 (k : Int)))]) (fun k _ H=>H=H0) a.length () rfl rfl ?_
 rintro k _ H hk rfl;refine tt ?_;apply bk <;> intro h1
 ·have h1p : k<a.length:=of_decide h1
  have w:=wsucc (k:=k) (by omega);refine tt ?_;refine ⟨h1p,h1p,tt ?_⟩;refine ⟨_,(likeInts_ok B _ _).run, ?_⟩;rw [dec_t rfl];refine tw w ?_;exact for_next () (by omega) rfl rfl
 ·refine tt ?_;exact pure_ret rfl (.refl _)
theorem likeCat5_ok (B : Nat) (c : Cat) : Pur Tryz.prog B 26 [.agg c.cells,.agg c.cells] (.bool true):=by
 refine ⟨fun H0=>c26.go fun _=>?_⟩;refine td ?_;refine (likeInts_ok B _ _).go fun _=>?_;rw [dec_t rfl];refine td ?_;refine (likeInts_ok B _ _).go fun _=>?_;rw [dec_t rfl];refine td ?_;refine (likeInts_ok B _ _).go fun _=>?_;rw [dec_t rfl];refine td ?_;refine (lkRows5_ok B _).go fun _=>?_;refine td ?_;exact pure_ret rfl (.refl _)
end Go.Proofs.Shf
namespace Go.Shf
open Go.AW
def MonO (T : List (List Int)) : Prop:=0<T.length∧SqB T T.length∧Whole T 0
def PreA (R : List (List Int)) (i : Nat) : Prop:=relE R i i=1∧∀ j,j<R.length→∀ k,k<R.length→relE R i j=1→relE R j k=1→relE R i k=1
def PreO (R : List (List Int)) : Prop:=SqB R 2∧∀ i,i<R.length→PreA R i
theorem SqB.row {T : List (List Int)} {n : Int} (h : SqB T n) {i : Nat} (hi : i<T.length) : (T.getD i default).length=T.length:=(h _ (mem_getD.mpr ⟨i,hi,rfl⟩)).1
theorem SqB.at {T : List (List Int)} {n : Int} (h : SqB T n) {i j : Nat} (hi : i<T.length) (hj : j<T.length) : 0≤(T.getD i default).getD j default∧(T.getD i default).getD j default<n :=
 (h _ (mem_getD.mpr ⟨i,hi,rfl⟩)).2 _ (mem_getD.mpr ⟨j,by rw [h.row hi]; exact hj,rfl⟩)
theorem PreO.po {R : List (List Int)} (h : PreO R) (l4 : R.length≤4) : PoR R :=
 .of l4 (fun i hi=>h.1.row hi) (fun i hi=>(h.2 i hi).1) fun i hi j hj k hk=>(h.2 i hi).2 j hj k hk
theorem MonO.mon {T : List (List Int)} (h : MonO T) (l4 : T.length≤4) : MonT T:=⟨h.1,l4,fun i hi=>h.2.1.row hi,fun i hi j hj=>h.2.1.at hi hj⟩
end Go.Shf
namespace Go.Proofs.Shf
open Go.AW Go.Proofs Go.Shf
theorem l35Monoid_ok (B : Nat) (T : List (List Int)) (hl : T.length≤1000000) : Pur Tryz.prog B 287 [iLL T] (.bool (dec (MonO T))):=by
 refine ⟨fun H0=>c287.go fun _=>?_⟩;refine tt ?_
 by_cases h0 : 0<T.length
 rotate_left
 ·rw [decide_eq_false (show ¬ (0 : Int)<(T.length : Int) by omega)];refine tt ?_;exact pure_ret (by rw [dec_f (p:=MonO T) fun h=>h0 h.1]) (.refl _)
 rw [decide_eq_true (show (0 : Int)<(T.length : Int) by omega)];refine tt ?_;refine (l03Square_ok B T (T.length : Int)).go fun _=>?_
 by_cases h1 : SqB T T.length
 rotate_left
 ·rw [dec_f h1];refine tt ?_;exact pure_ret (by rw [dec_f (p:=MonO T) fun h=>h1 h.2.1]) (.refl _)
 rw [dec_t h1];refine tt ?_;refine (l35Whole_ok B (n:=T.length) (tabN_iff.mpr ⟨rfl,h1⟩) (u:=0) ⟨by omega,h0⟩ hl).go fun _=>?_
 by_cases h2 : Whole T 0
 ·rw [dec_t h2];refine tt ?_;exact pure_ret (by rw [dec_t (p:=MonO T) ⟨h0,h1,h2⟩]) (.refl _)
 ·rw [dec_f h2];refine tt ?_;exact pure_ret (by rw [dec_f (p:=MonO T) fun h=>h2 h.2.2]) (.refl _)
theorem l03Preorder_ok (B : Nat) (R : List (List Int)) (hl : R.length≤1000000) : Pur Tryz.prog B 288 [iLL R] (.bool (dec (PreO R))):=by
 refine ⟨fun H0=>c288.go fun _=>?_⟩;refine tt ?_;refine (l03Square_ok B R 2).go fun _=>?_
 by_cases h1 : SqB R 2
 rotate_left
 ·rw [dec_f h1];refine tt ?_;exact pure_ret (by rw [dec_f (p:=PreO R) fun h=>h1 h.1]) (.refl _)
 rw [dec_t h1];refine tt ?_;refine awp_for [0] (G:=Unit) (fun i _=>[(3,some (.int .i64 (i : Int)))]) (fun i _ H=>H=H0∧∀ y,y<i→PreA R y) R.length () ⟨rfl,by simp⟩ rfl ?_
 rintro i _ H hi ⟨rfl,hA⟩
 replace hA : ∀ y,y<i→PreA R y:=hA;refine tt ?_;apply bk <;> intro g1
 rotate_left
 ·have g1p:=of_ndecide g1
  obtain rfl : i=R.length:=by omega
  refine tt ?_;exact pure_ret (by rw [dec_t (p:=PreO R) ⟨h1,hA⟩]) (.refl _)
 have g1p:=of_decide g1
 have hiR : i<R.length:=by omega
 have w1:=wsucc (k:=i) (by omega)
 have ri:=h1.row hiR;refine tt ?_;refine ⟨hiR,by rw [ri]; exact hiR, ?_⟩
 by_cases e0 : (R.getD i default).getD i default=1
 rotate_left
 ·rw [decide_eq_false e0];refine tt ?_;exact pure_ret (by rw [dec_f (p:=PreO R) fun h=>e0 (h.2 i hiR).1]) (.refl _)
 rw [decide_eq_true e0];refine tt ?_;refine awp_for [0,3] (G:=Unit) (fun j _=>[(4,some (.int .i64 (j : Int)))]) (fun j _ H'=>H'=H∧∀ y,y<j→∀ k,k<R.length→relE R i y=1→relE R y k=1→relE R i k=1) R.length () ⟨rfl,by simp⟩ rfl ?_
 rintro j _ H' hj ⟨rfl,hB⟩
 replace hB : ∀ y,y<j→∀ k,k<R.length→relE R i y=1→relE R y k=1→relE R i k=1:=hB;refine tt ?_;apply bk <;> intro g2
 rotate_left
 ·have g2p:=of_ndecide g2
  obtain rfl : j=R.length:=by omega
  refine tw w1 ?_;exact for_next () (by omega) ⟨rfl,lt_succ_all hA ⟨e0,hB⟩⟩ rfl
 have g2p:=of_decide g2
 have hjR : j<R.length:=by omega
 have w2:=wsucc (k:=j) (by omega)
 have rj:=h1.row hjR;refine tt ?_;refine awp_for [0,3,4] (G:=Unit) (fun k _=>[(5,some (.int .i64 (k : Int)))]) (fun k _ H=>H=H'∧∀ y,y<k→relE R i j=1→relE R j y=1→relE R i y=1) R.length () ⟨rfl,by simp⟩ rfl ?_
 rintro k _ H hk ⟨rfl,hC⟩
 replace hC : ∀ y,y<k→relE R i j=1→relE R j y=1→relE R i y=1:=hC;refine tt ?_;apply bk <;> intro g3
 rotate_left
 ·have g3p:=of_ndecide g3
  obtain rfl : k=R.length:=by omega
  refine tw w2 ?_;exact for_next () (by omega) ⟨rfl,lt_succ_all hB hC⟩ rfl
 have g3p:=of_decide g3
 have hkR : k<R.length:=by omega
 have w3:=wsucc (k:=k) (by omega)
 have next : (relE R i j=1→relE R j k=1→relE R i k=1)→∀ y,y<k+1→relE R i j=1→relE R j y=1→relE R i y=1:=fun h=>lt_succ_all hC h;refine tt ?_;refine ⟨hiR,by rw [ri]; exact hjR, ?_⟩
 by_cases e1 : (R.getD i default).getD j default=1
 rotate_left
 ·rw [decide_eq_false e1];refine tw w3 ?_;exact for_next () hkR ⟨rfl,next fun h=>absurd h e1⟩ rfl
 rw [decide_eq_true e1];refine tt ?_;refine ⟨hjR,by rw [rj]; exact hkR, ?_⟩
 by_cases e2 : (R.getD j default).getD k default=1
 rotate_left
 ·rw [decide_eq_false e2];refine tw w3 ?_;exact for_next () hkR ⟨rfl,next fun _ h=>absurd h e2⟩ rfl
 rw [decide_eq_true e2];refine tt ?_;refine ⟨hiR,by rw [ri]; exact hkR, ?_⟩
 by_cases e3 : (R.getD i default).getD k default=1
 rotate_left
 ·rw [decide_eq_false e3];refine tt ?_;exact pure_ret (by rw [dec_f (p:=PreO R) fun h=>e3 ((h.2 i hiR).2 j hjR k hkR e1 e2)]) (.refl _)
 rw [decide_eq_true e3];refine tw w3 ?_;exact for_next () hkR ⟨rfl,next fun _ _=>e3⟩ rfl
theorem obSz {f : SF} (hf : f.Shape) {x : Int} (hx : f.shape.ObR x) : 0≤x∧x.toNat<f.sizes.length:=by
 have h1:=hx.1
 have h2:=hx.2
 have h3:=hf.sl;exact ⟨h1,by omega⟩
theorem arAc {f : SF} (hf : f.Shape) {a : Int} (ha : f.shape.ArR a) : 0≤a∧a.toNat<f.acts.length:=⟨ha.1,by have:=hf.al; have:=ha.2; omega⟩
@[go_sem] def z13 : List AV:=[iI 0,.nilsl,.nilsl,.nilsl,.nilsl,iI 0,.nilsl,.nilsl,.nilsl,.nilsl,.nilsl,.nilsl,.nilsl]
@[go_sem] def pfC (c d : Cat) (X Y Z : AV) : List AV:=[iI c.objs,iL c.frm,iL c.to,iL c.idn,iLL c.comp,iI d.objs,iL d.frm,iL d.to,iL d.idn,iLL d.comp,X,Y,Z]
end Go.Proofs.Shf
namespace Go.AW
theorem cut_mp {P : Program} {B : Nat} {l : List Nat} {a b : SC} {Q : AQ} {σ : Env} {H : Heap} (M : Env→Heap→Prop) (h1 : awp P B a (ctQ l M Q) σ H) (h2 : ∀ σ' H',M σ' H'→awp P B b Q σ' H') : awp P B (.cut l a b) Q σ H:=⟨M,h1,h2⟩
end Go.AW
namespace Go.Proofs.Shf
open Go.AW Go.Proofs Go.Shf
end Go.Proofs.Shf
namespace Go.AW
open Go.Shf
theorem LsR.rdrow {α : Type} [Inhabited α] {f : α→AV} [One f] {Xs : List AV} {As : List (List α)} {ob : Ob} (h : LsR f Xs As ob) {i : Nat} (hi : i<Xs.length) (hp : 0<(As.getD i []).length) :
  ∃ idr,Xs.getD i nv=.buf idr (As.getD i []).length∧∀ {H0 H : Heap} {l : Ob},Owns H0 H l→(∀ x,x∈ob→x∈l)→H.get idr=some (.cells 1 ((As.getD i []).map f) 0):=by
 obtain ⟨p,r,h1,h2,h3⟩:=h.split i hi
 obtain ⟨idr,e1,e2⟩:=h2.sub hp;refine ⟨idr,e2,fun o hm=>?_⟩
 have hx : (idr,MObj.cells 1 ((As.getD i []).map f) 0)∈ob:=h1.mem_iff.mpr (by rw [e1]; simp);exact o.get _ (hm _ hx)
end Go.AW
namespace Go.Shf
open Go.AW
end Go.Shf
namespace Go.Proofs.Shf
open Go.AW Go.Proofs Go.Shf
theorem l02Hom_ok (B : Nat) (c : Cat) (s : c.Shape) (x y : Int) : Pur Tryz.prog B 201 [.agg c.cells,iI x,iI y] (iL (homC c x y)):=by
 refine ⟨fun H0=>c201.go fun _=>?_⟩
 have o : Owns H0 H0 []:=.nil _
 have hm:=s.m
 have htl:=s.tol;refine tt ?_;refine new_list iI o fun id H o=>tt ?_
 refine awp_for [1,2,3] (G:=Nat × List Int) (fun k g=>[(7,some (.buf g.1 g.2.length)),(8,some (.int .i64 (k : Int)))])
  (fun k g H=>g.2=homK c x y k∧Owns H0 H [(g.1,.cells 1 (g.2.map iI) 0)]) c.frm.length (id,[]) ⟨rfl,o⟩ rfl ?_
 clear o
 rintro k ⟨id,out⟩ H hk ⟨hout,o⟩;dsimp only at hout o
 have houl : out.length≤k:=by rw [hout]; exact homK_len _ _ _
 refine tt ?_;apply bk <;> intro h1
 ·have h1p : k<c.frm.length:=of_decide h1
  have w1:=wsucc (k:=k) (by omega);refine tt ?_;refine ⟨h1p, ?_⟩
  by_cases e1 : c.frm.getD k default=x
  ·rw [decide_eq_true e1];refine tt ?_;refine ⟨by omega, ?_⟩
   by_cases e2 : c.to.getD k default=y
   ·rw [decide_eq_true e2];refine tt ?_;refine app_own (k : Int) o rfl rfl (by simp only [maxL]; omega) fun z H o=>?_;refine tw w1 ?_;exact for_next (z,out++[(k : Int)]) h1p ⟨by rw [hout,homK_t e1 e2],o⟩ rfl
   ·rw [decide_eq_false e2];refine tw w1 ?_;exact for_next (id,out) h1p ⟨by rw [hout,homK_f fun h=>e2 h.2],o⟩ rfl
  ·rw [decide_eq_false e1];refine tw w1 ?_;exact for_next (id,out) h1p ⟨by rw [hout,homK_f fun h=>e1 h.1],o⟩ rfl
 ·have h1p:=of_ndecide h1
  have ek : k=c.frm.length:=by omega
  rw [ek,homK_full] at hout;refine tt ?_;refine fz_own o rfl fun H o=>tt ?_;exact pure_ret (by rw [hout]) o.sub
theorem l02Unit_ok (B : Nat) (c : Cat) (hs : c.Shape) (f : Int) (hf : 0≤f∧f.toNat<c.frm.length) : Pur Tryz.prog B 202 [.agg c.cells,iI f] (.bool (decide (ix c.idn (ix c.frm f)=f))):=by
 refine ⟨fun H0=>c202p.go fun _=>?_⟩
 have hx:=hs.frmObj hf.2
 have hil:=hs.il;refine tt ?_;exact ⟨hf,⟨hx.1,by omega⟩,pure_ret rfl (.refl _)⟩
end Go.Proofs.Shf
