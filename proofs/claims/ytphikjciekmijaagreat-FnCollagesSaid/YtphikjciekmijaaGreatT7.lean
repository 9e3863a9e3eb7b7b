/- A part of a proof. -/
import Derived.Test.YtphikjciekmijaaGreatT6
import Derived.Sort.Row
import Derived.Sort.Grow
import Derived.Deep.Draws
set_option linter.unusedVariables false
set_option linter.unusedSimpArgs false
set_option linter.unusedSectionVars false
set_option maxRecDepth 100000
open Nat (reduceEqDiff reduceAdd reduceMul reduceLeDiff reduceLT)
namespace Go.Proofs.Shf
open Go.AW Go.Proofs Go.Shf
theorem Vm {α : Type} (n x : Nat) : (List.replicate n ([] : List α)).getD x default=[]:=by
 rw [Go.AW.gE,List.getElem?_replicate]
 split <;> rfl
theorem Jp.add {sz : List Int} {PP : List (List (List Int))} (h : Jp sz PP) {x : Nat} (hx : x<sz.length) {a b : Int} (ha : 0≤a∧a<sz.getD x default) (hb : 0≤b∧b<sz.getD x default) :
  Jp sz (PP.set x (PP.getD x default++[[a,b]])):=by
 refine ⟨by rw [List.length_set]; exact h.1,fun y hy q hq=>?_⟩;rw [E5 _ _ (by rw [h.1]; exact hx)] at hq
 by_cases e : y=x
 ·rw [if_pos e] at hq;subst e
  rcases List.mem_append.mp hq with hq | hq
  ·exact h.2 y hy q hq
  ·rw [List.mem_singleton] at hq;subst hq;exact ⟨by simp,ha,hb⟩
 ·rw [if_neg e] at hq; exact h.2 y hy q hq
structure j0 (c : Ax) (n : Int) (f : SF) : Prop where
 sh : f.shape=c
 sl : (f.AK.length : Int)=c.AF
 al : f.AJ.length=c.AB.length
 sz : ∀ y,y∈f.AK→0≤y∧y≤max n 2
 act : ∀ a : Nat,a<c.AB.length→((f.AJ.getD a default).length : Int)=ix f.AK (c.AB.getD a default)
theorem iJ {f g : SF} {c : Ax} {CC : List (List Int)} {n : Int} (hc : c.Shape) (hf : f.gi c 120) (hK : Jx f.AK CC) (q : Vp f CC g) (hle : ∀ y,y∈g.AK→y≤n) : j0 c n g where
 sh:=q.sh.trans hf.sh
 sl:=by rw [q.sz,List.length_map,hK.len]; exact hf.sl
 al:=by rw [q.al]; exact hf.al
 sz y hy:=by
  have h1:=hle y hy;rw [q.sz] at hy
  obtain ⟨l,hl,rfl⟩:=List.mem_map.mp hy
  obtain ⟨x,hx,rfl⟩:=AE.mp hl
  have TM : x<f.AK.length:=by rw [← hK.len]; exact hx
  have h2:=hK.Nt x TM
  have h3:=hf.sz _ (AE.mpr ⟨x,TM,rfl⟩)
  have h4:=(Pm (N:=f.AK.getD x default) h3.1 h2).1.1;omega
 act a ha:=by
  have h1:=(q.row a (by rw [hf.al]; exact ha)).1;rw [hf.sh] at h1
  have Qy:=hc.C3 (f:=(a : Int)) (by simpa using ha);rw [AR] at Qy
  have RG:=hK.len
  have Im:=hf.sl;rw [h1,ix,ix,q.sz,BC _ (by omega)]
theorem XO {c : Ax} (hc : c.Shape) {w : Nat} {n : Int} (hw : (w : Int)≤max n 2) : j0 c n (CH c w) where
 sh:=rfl
 sl:=by have:=hc.o; simp [CH]; omega
 al:=by simp [CH]
 sz y hy:=by
  simp only [CH,List.mem_replicate] at hy
  obtain ⟨_,rfl⟩:=hy;omega
 act a ha:=by
  have hf:=hc.C3 (f:=(a : Int)) (by simpa using ha);rw [AR] at hf
  have e1 : ix (CH c w).AK (c.AB.getD a default)=w:=LS hc hf
  have e2 : (CH c w).AJ.getD a default=(List.range w).map Int.ofNat:=by
   have:=FO (c:=c) (n:=w) (a:=(a : Int)) (by simpa using ha)
   rwa [AR] at this
  rw [e1,e2]; simp
def ab (c : Ax) (size : Int) (r : AV) : Prop:=∃ f : SF,r=.agg f.cells∧j0 c size f
theorem DE (B : Nat) (c : Ax) (hc : c.Shape) (size : Int) (JC : 0≤size∧size≤1000) : Rd B 164 [.agg c.cells,iI size] (ab c size):=by
 intro id s H0 H hs o;refine sU.go fun _=>?_
 have hm:=hc.m
 have Ee:=hc.o;refine tt ?_;refine nb o fun Ba H o=>tt ?_;refine AD [0,2,4,6] (G:=Src) (fun k _=>[(7,some (.int .i64 (k : Int)))]) (fun k s H=>s.Ok∧A9 H0 H [(id,s.obj),(Ba,.cells 7 z7 0)]) 6 s ⟨hs,o.swap⟩ rfl ?_;clear o hs
 rintro k s H hk ⟨hs,o⟩;refine tt ?_;apply bk <;> intro h1
 ·have AU:=A6 h1
  have w1:=ws k;refine tt ?_;refine Az iI o fun Cm H o=>tt ?_;refine (AY B 4).go hs o.swap fun r s H _ ⟨v,e,v0,v1,_⟩ hs o=>?_;subst e
  have hv:=v1 (by omega)
  obtain ⟨n,rfl⟩ : ∃ n : Nat,v=n:=⟨_,(Int.toNat_of_nonneg v0).symm⟩;clear v0 v1;refine tt ?_
  refine E3 [0,2,4,6,7] (G:=Src × (Nat × List Int) × Nat) (fun g=>[(8,some (.buf g.2.1.1 g.2.1.2.length)),(9,some (.int .i64 (g.2.2 : Int)))])
   (fun m g H=>m=g.2.2∧g.1.Ok∧g.2.1.2.length+g.2.2≤3∧A9 H0 H [(id,g.1.obj),(g.2.1.1,.cells 1 (g.2.1.2.map iI) 0),(Ba,.cells 7 z7 0)]) n (s,(Cm,[]),n) ⟨rfl,hs,by simp; omega,o⟩ rfl ?_
  clear o hs
  rintro m ⟨s,⟨Cm,os⟩,n⟩ H ⟨zt,hs,yT,o⟩;dsimp only at zt hs yT o;refine tt ?_;apply bk <;> intro h2
  focus
   refine tw h2 ?_;apply bk <;> intro h3
   focus
    have Aq:=A6 h2
    have w2 : IntKind.i64.wrap ((n : Int) - 1)=((n - 1 : Nat) : Int):=by rw [wrap_i64 (by omega) (by omega)]; omega
    refine tw h3 ?_;refine (AY B c.AF).go hs o fun r s H _ ⟨v,e,_⟩ hs o=>?_;subst e;refine tt ?_;refine Ae v o.swap rfl rfl (by simp only [AN]; omega) fun Cm H o=>?_;refine tw w2 ?_;exact CJ (n - 1) (s,(Cm,os++[v]),n - 1) (by omega) ⟨rfl,hs,by simp; omega,o.swap⟩ rfl
   refine tw h3 ?_
  rotate_left 1
  focus
   refine tw h2 ?_
  all_goals
   refine Am o.swap rfl fun H o=>tt ?_;refine (QR B c hc os (by omega)).go fun r _ ⟨e,hf⟩=>?_
   obtain ⟨f,zm⟩ : ∃ f,f=Dy c os:=⟨_,rfl⟩;rw [← zm] at e hf;subst e;refine tt ?_;refine nb o fun HZ H o=>tt ?_;refine sw o fun H o=>tt ?_;refine ⟨⟨by omega,by simp only [AN]; omega⟩, ?_⟩;rw [IX];refine AP o fun IL H o=>tt ?_;refine (AY B 4).go hs (o.pull [_,_]) fun r s H _ ⟨v,e,v0,v1,_⟩ hs o=>?_;subst e
   have hv:=v1 (by omega)
   obtain ⟨n,rfl⟩ : ∃ n : Nat,v=n:=⟨_,(Int.toNat_of_nonneg v0).symm⟩;clear v0 v1;refine tt ?_
   have Im:=hf.sl
   have hzf : ∀ x,x<f.AK.length→0≤f.AK.getD x default∧f.AK.getD x default≤120:=fun x hx=>hf.sz _ (AE.mpr ⟨x,hx,rfl⟩)
   refine E3 [0,2,4,6,7,10,11] (G:=Src × (List AV × List (List (List Int)) × Ob) × Nat) (fun g=>[(12,some (.int .i64 (g.2.2 : Int)))])
    (fun m g H=>m=g.2.2∧g.1.Ok∧ED iL g.2.1.1 g.2.1.2.1 g.2.1.2.2∧Jp f.AK g.2.1.2.1∧(∀ x,(g.2.1.2.1.getD x default).length+g.2.2≤3) ∧
     A9 H0 H ((id,g.1.obj)::(IL,.cells 1 g.2.1.1 0)::(g.2.1.2.2++[(HZ,AG.cells 7 f.cells 0),(Ba,AG.cells 7 z7 0)]))) n (s,(List.replicate c.AF.toNat .A0,List.replicate c.AF.toNat [],[]),n)
    ⟨rfl,hs,ED.rep iL _,⟨by rw [List.length_replicate]; omega,fun x hx q hq=>by rw [show (List.replicate c.AF.toNat ([] : List (List Int))).getD x default=[] from Vm _ _] at hq; simp at hq⟩,fun x=>by
     rw [show (List.replicate c.AF.toNat ([] : List (List Int))).getD x default=[] from Vm _ _]; simp; omega,o⟩ rfl ?_
   clear o hs
   rintro m ⟨s,⟨Xs,PP,ob⟩,n⟩ H ⟨zt,hs,hR,yR,pA,o⟩;dsimp only at zt hs hR yR pA o
   have Iw:=hR.len
   have hPPl:=yR.1
   have hn3 : n≤3:=by have:=pA 0; omega
   refine tt ?_;apply bk <;> intro k2
   focus
    refine tw k2 ?_;apply bk <;> intro k3
    focus
     have k2p:=A6 k2
     have k3p:=A6 k3
     have w2 : IntKind.i64.wrap ((n : Int) - 1)=((n - 1 : Nat) : Int):=by rw [wrap_i64 (by omega) (by omega)]; omega
     refine tw k3 ?_;refine (AY B c.AF).go hs o fun r s H _ ⟨x,e,x0,x1,_⟩ hs o=>?_;subst e
     have oS:=x1 (by omega)
     obtain ⟨x,rfl⟩ : ∃ n : Nat,x=n:=⟨_,(Int.toNat_of_nonneg x0).symm⟩;clear x0 x1
     have Pd : x<f.AK.length:=by omega
     have jr:=hzf x Pd
     have Zu : H.get HZ=some (.cells 7 f.cells 0):=o.get (HZ,_) (by simp);refine tt ?_;refine Aj Zu (by simp [SF.cells]) (tt ?_);refine ⟨Pd, ?_⟩;apply bk <;> intro k4
     ·have k4p:=A6 k4;refine tt ?_;refine ⟨by omega,⟨_,_,o.tl.h0⟩,Aj o.tl.h0 (by omega) ?_⟩;refine tt ?_;refine ⟨⟨_,_,Zu⟩,Aj Zu (by simp [SF.cells]) ?_⟩;refine tt ?_;refine ⟨Pd,⟨_,_,Zu⟩,Aj Zu (by simp [SF.cells]) ?_⟩;refine tt ?_;refine ⟨Pd, ?_⟩;refine (AY B _).IE hs o fun r s H _ ⟨a,e,a0,a1,_⟩ hs o hz=>⟨hz, ?_⟩;subst e
      have Ow:=a1 (by omega);refine tt ?_;refine (AY B _).IE hs o fun r s H _ ⟨b,e,b0,b1,_⟩ hs o hz=>⟨hz, ?_⟩;subst e
      have RE:=b1 (by omega);refine tt ?_
      have o : A9 H0 H ((IL,.cells 1 Xs 0)::(ob++[(id,s.obj),(HZ,.cells 7 f.cells 0),(Ba,.cells 7 z7 0)])):=o.pm;refine Hv o hR (by omega) [a,b] rfl (by show (PP.getD _ default).length+1≤AN; have:=pA x; simp only [AN]; omega) fun X' o' H V1 hR o=>?_;try simp only [go_sem,↓reduceIte,reduceEqDiff,reduceAdd,reduceMul,reduceLeDiff,reduceLT,AV.DH V1]
      refine ⟨by omega,AS o (by omega) rfl (by simp only [Gk,JL]; exact ⟨V1,trivial⟩) fun H o=>?_⟩;simp only [Ej,Gv] at o;refine tw w2 ?_;refine CJ (n - 1) (s,(Xs.set x X',PP.set x (PP.getD x default++[[a,b]]),o'),n - 1) (by omega) ⟨rfl,hs,hR,yR.add Pd ⟨a0,Ow⟩ ⟨b0,RE⟩,fun y=>?_,(by simp only [SF.cells] at o; exact o.pm)⟩ rfl
      show ((PP.set x (PP.getD x default++[[a,b]])).getD y default).length+(n - 1)≤3
      rw [E5 _ _ (by omega)]
      have:=pA y
      split
      ·rename_i e; subst e; rw [List.length_append,List.length_singleton]; omega
      ·omega
     ·refine tw w2 ?_;exact CJ (n - 1) (s,(Xs,PP,ob),n - 1) (by omega) ⟨rfl,hs,hR,yR,fun x=>by have:=pA x; show (PP.getD x default).length+(n - 1)≤3; omega,o⟩ rfl
    refine tw k3 ?_
   rotate_left 1
   focus
    refine tw k2 ?_
   all_goals
    have o : A9 H0 H ((IL,.cells 1 Xs 0)::(ob++[(id,s.obj),(HZ,.cells 7 f.cells 0),(Ba,.cells 7 z7 0)])):=o.pm;refine EA hR [] H o fun H o=>AX ?_;rw [List.nil_append] at o
    have o : A9 H0 H ((IL,.cells 1 (PP.map B5) 0)::[(id,s.obj),(HZ,.cells 7 f.cells 0),(Ba,.cells 7 z7 0)]):=o;refine tt ?_;refine Am (f:=B5) o (by omega) fun H o=>tt ?_;refine AO o.tl (by simp [SF.cells]) (tt ?_);refine (S8 B f c hc hf PP yR).go fun r TT ⟨CC,f2,e,Zy,hQ⟩=>?_;subst e
    have HB:=AZ (TT.agg (c:=iL f2.AK) (by simp [SF.cells]));simp only [AN] at HB;clear TT;refine tt ?_;refine AS o.swap (by simp [SF.cells]) (by (try simp only [go_sem]); (try simp)) (by first | (simp only [go_sem]; done) | ((try simp only [go_sem]); simp [AV.one,Ay])) fun H o=>?_;have o:=s2 o;refine tt ?_;refine AD [0,2,4,6,7,10] (G:=Bool) (fun k b=>[(14,some (.bool b)),(15,some (.int .i64 (k : Int)))]) (fun k b H=>(b=true→∀ i : Nat,i<k→f2.AK.getD i default≤size)∧A9 H0 H [(HZ,AG.cells 7 f2.cells 0),(id,s.obj),(Ba,AG.cells 7 z7 0)]) f2.AK.length true ⟨fun _ i h=>absurd h (Nat.not_lt_zero i),o⟩ rfl ?_;clear o
    rintro q sm H hq ⟨yO,o⟩
    replace o : A9 H0 H [(HZ,.cells 7 f2.cells 0),(id,s.obj),(Ba,.cells 7 z7 0)]:=o;refine tt ?_;refine AH o (by simp [SF.cells]) (tt ?_);apply bk <;> intro j1
    ·have j1p:=A6 j1
     have w3:=ws q;refine tt ?_
     cases sm
     ·refine tw w3 ?_;exact A4 false (by omega) ⟨fun h=>absurd h (by simp),o⟩ rfl
     ·refine tt ?_;refine AH o (by simp [SF.cells]) (tt ?_);refine ⟨j1p, ?_⟩;refine tw w3 ?_;exact A4 _ (by omega) ⟨fun h=>AM (yO rfl) (by simpa using h),o⟩ rfl
    ·have j1p:=A7 j1;refine tt ?_
     cases sm
     ·refine tw w1 ?_;exact A4 s (by omega) ⟨hs,o.tl⟩ rfl
     ·refine tt ?_;refine AO o (by simp [SF.cells]) (tt ?_);refine sw (o.pull [_,_]) fun H o=>tt ?_
      have hr:=o.rc 7 0 (by simp);simp only [List.drop_zero] at hr;rw [hr]
      have hle : ∀ y,y∈f2.AK→y≤size:=fun y hy=>by
       obtain ⟨i,hi,rfl⟩:=AE.mp hy;exact yO rfl i (by omega)
      have Tc:=hQ.al
      have Nk:=hf.al;exact B4 ⟨f2,rfl,iJ hc hf Zy hQ hle⟩ hs (o.pull [_,_])
 ·have AU:=A7 h1;refine tt ?_
  have hw : IntKind.i64.wrap ((if false=true then if 2 > size then 2 else size else if 2<size then 2 else size)+1)=min size 2+1:=by
   rw [if_neg (by decide)]
   split <;> rw [wrap_i64 (by omega) (by omega)] <;> omega
  rw [hw];refine (AY B _).go hs o fun r s H _ ⟨v,e,v0,v1,_⟩ hs o=>?_;subst e
  have hv:=v1 (by omega);refine tt ?_;refine ⟨_,(Mk B c hc v ⟨v0,by omega⟩).run,tt ?_⟩;refine sw o.swap fun H o=>tt ?_
  have hr:=o.rc 7 0 (by simp);simp only [List.drop_zero] at hr;rw [hr]
  obtain ⟨w,rfl⟩ : ∃ w : Nat,v=w:=⟨_,(Int.toNat_of_nonneg v0).symm⟩;exact B4 ⟨CH c w,rfl,XO hc (by omega)⟩ hs o.swap
theorem Gq {c : Ax} (h : c.Shape) : c.Good 40:=by
 have ho:=h.o
 have hm:=h.m;refine ⟨⟨by omega,h.il,hm,h.L5,h.cl,h.row⟩, ?_, ?_, ?_,h.R6,h.yes⟩
 ·exact fun f hf=>h.AB _ (AE.mpr ⟨f,hf,rfl⟩)
 ·exact fun f hf=>h.to _ (AE.mpr ⟨f,by rw [h.L5]; exact hf,rfl⟩)
 ·exact fun x hx=>⟨h.Ac _ (AE.mpr ⟨x,hx,rfl⟩),h.O0 x hx⟩
theorem Ss {N : Nat} {c : Ax} (h : c.Good N) (h8 : c.AF≤8) (xg : c.AB.length≤40) : c.Shape:=h.2.shape h.1 h8 xg
theorem Ie {c : Ax} (h : c.Shape) : (bt c).Shape:=Ss (YE (Gq h)) h.o.2 (by show c.to.length≤40; rw [h.L5]; exact h.m)
theorem j0.at {c : Ax} {n : Int} {f : SF} (h : j0 c n f) {x : Int} (hx : c.ES x) : (0≤x∧x.toNat<f.AK.length)∧0≤ix f.AK x∧ix f.AK x≤max n 2:=by
 have h1 : 0≤x∧x<c.AF:=hx
 have h2:=h.sl
 have h3 : x.toNat<f.AK.length:=by omega
 exact ⟨⟨h1.1,h3⟩,h.sz _ (BL h3)⟩
theorem j0.ac {c : Ax} {n : Int} {f : SF} (hc : c.Shape) (h : j0 c n f) {a : Nat} (ha : a<c.AB.length) : a<f.AJ.length∧((f.AJ.getD a default).length : Int)≤max n 2:=by
 have h1:=h.act a ha
 have h2:=h.at (hc.pO (a:=(a : Int)) ⟨by omega,by simpa using ha⟩);rw [AR] at h2;exact ⟨by rw [h.al]; exact ha,by rw [h1]; exact h2.2.2⟩
theorem X7 (B : Nat) {c1 c2 : Ax} {f g : SF} (LF : c1.Shape) (Yj : c2.Shape) (hf : j0 c1 3 f) (hg : j0 c2 3 g) : ID Tryz.prog B 272 [.agg f.cells,.agg g.cells] fun p X=>TI (bt c1) c2 p X:=by
 refine ⟨fun H0=>vQ.go fun _=>?_⟩
 obtain rfl:=hf.sh
 obtain rfl:=hg.sh
 have o : A9 H0 H0 []:=.nil _;refine tt ?_;refine nb o fun B1 H o=>?_
 have o : A9 H0 H [(B1,.cells 13 Af 0)]:=o;refine tt ?_;refine Qd (fun σ H=>σ=[(2,some (.ptr f.cells)),(3,some (.ptr g.cells)),(4,some (.ref B1 0)),(5,some (.ptr (bt f.shape).cells)),(6,some (.ptr g.shape.cells))]∧A9 H0 H [(B1,.cells 13 Af 0)]) ?_ ?_
 ·refine tt ?_;refine ⟨_,(b7 B 40 (by omega) f.shape (Gq LF)).run,Ai o fun ik H o=>?_,Ai o fun ik H o=>?_⟩
  all_goals
   refine tt ?_;refine Ai o fun idb H o=>tt ?_
   first
    | refine kT o fun H o=>?_
    | refine sw o.swap fun H o=>?_
   refine tt ?_
   first
    | refine kT o fun H o=>?_
    | refine sw o.swap fun H o=>?_
   refine tt ?_;refine Ca 6 o rfl fun H o=>?_;refine Ca 5 o rfl fun H o=>?_;exact Vg [2,3,4,5,6] ⟨rfl,o⟩
 rintro σ H ⟨rfl,o⟩
 obtain ⟨c,hc⟩ : ∃ c,g.shape=c:=⟨_,rfl⟩
 obtain ⟨b,hb⟩ : ∃ b,bt f.shape=b:=⟨_,rfl⟩
 have bo : b.AF=f.shape.AF:=by rw [← hb]; rfl
 have bf : b.AB.length=f.shape.AB.length:=by rw [← hb]; exact LF.L5
 have co:=Yj.o
 have cm:=Yj.m
 have fo:=LF.o
 have fm:=LF.m
 have fS:=fun x (hx : f.shape.ES x)=>hf.at hx
 have gS:=fun x (hx : g.shape.ES x)=>hg.at hx
 have fA:=fun a (ha : a<f.shape.AB.length)=>hf.ac LF ha
 have gA:=fun a (ha : a<g.shape.AB.length)=>hg.ac Yj ha
 have gT:=fun a (ha : g.shape.DB a)=>hg.at (Yj.qR ha)
 have gI:=fun a (ha : g.shape.DB a)=>Yj.v9 ha;rw [hc] at co cm gS gA gT gI ⊢;rw [hb];refine tt ?_;refine ⟨_,(DI B c).run,tt ?_⟩;refine nb o fun Bc H o=>tt ?_;refine sw o fun H o=>?_
 have o : A9 H0 H [(Bc,.cells 13 (Bi b c .Dg .Dg .Dg) 0),(B1,.cells 13 Af 0)]:=o;refine tt ?_
 refine AD [2,3,4,5,6,7] (G:=AV × Ob × List (List Int)) (fun n _=>[(8,some (.int .i64 (n : Int)))])
  (fun n G H=>(TH G.2.1 G.1 G.2.2∧G.2.2.length=n)∧A9 H0 H ((Bc,.cells 13 (Bi b c G.1 .Dg .Dg) 0)::(G.2.1++[(B1,.cells 13 Af 0)]))) b.AF.toNat (.Dg,[],[]) ⟨⟨.inl ⟨rfl,rfl,rfl⟩,rfl⟩,o⟩ rfl ?_
 clear o
 rintro n ⟨X,q,S⟩ H hn ⟨⟨hX,hS⟩,o⟩
 replace hX : TH q X S:=hX
 replace hS : S.length=n:=hS
 replace o : A9 H0 H ((Bc,.cells 13 (Bi b c X .Dg .Dg) 0)::(q++[(B1,.cells 13 Af 0)])):=o;refine tt ?_;apply bk <;> intro h1
 ·have AU:=A6 h1
  have w:=ws n
  have vi : f.shape.ES n:=⟨by omega,by omega⟩;refine tt ?_;refine AP o fun Io H o=>tt ?_
  refine AD [2,3,4,5,6,7,8] (G:=Nat × List Int) (fun j G=>[(9,some (.buf G.1 G.2.length)),(10,some (.int .i64 (j : Int)))])
   (fun j G H=>G.2.length=j∧A9 H0 H ((G.1,.cells 1 (G.2.map iI) 0)::(Bc,.cells 13 (Bi b c X .Dg .Dg) 0)::(q++[(B1,.cells 13 Af 0)]))) c.AF.toNat (Io,[]) ⟨rfl,(show A9 H0 H ((Io,.cells 1 (([] : List Int).map iI) 0)::(Bc,.cells 13 (Bi b c X .Dg .Dg) 0)::(q++[(B1,.cells 13 Af 0)])) from o)⟩ rfl ?_
  clear o
  rintro j ⟨Io,row⟩ H hj ⟨Bf,o⟩
  replace Bf : row.length=j:=Bf
  replace o : A9 H0 H ((Io,.cells 1 (row.map iI) 0)::(Bc,.cells 13 (Bi b c X .Dg .Dg) 0)::(q++[(B1,.cells 13 Af 0)])):=o;refine tt ?_;apply bk <;> intro h2
  ·have Aq:=A6 h2
   have w2:=ws j
   have FG : c.ES j:=⟨by omega,Aq⟩;refine tt ?_;refine ⟨(fS _ vi).1.2,(gS _ FG).1.2, ?_⟩;refine Ae _ o rfl rfl (by rw [Bf]; simp only [AN]; omega) fun Io H o=>?_;refine tw w2 ?_;exact A4 (Io,row++[_]) (by omega) ⟨by simp [Bf],o⟩ rfl
  ·have Aq:=A7 h2;refine tt ?_;refine AH o.tl (by simp [Bi]) (tt ?_);refine hX.app (l:=[(Bc,.cells 13 (Bi b c X .Dg .Dg) 0),(B1,.cells 13 Af 0)]) (o.pm) rfl (by rw [hS]; simp only [AN]; omega) fun ids Xs ob H Uw o=>?_
   have o : A9 H0 H ((Bc,.cells 13 (Bi b c X .Dg .Dg) 0)::(((ids,.cells 1 Xs 0)::ob)++[(B1,.cells 13 Af 0)])):=o.pm;refine tt ?_;refine AS o (by simp [Bi]) (by (try simp only [go_sem]); (try simp)) (by first | (simp only [go_sem]; done) | ((try simp only [go_sem]); simp [AV.one,Ay])) fun H o=>?_;unfold Bi at o;have o:=s2 o;refine tw w ?_;exact A4 (.buf ids Xs.length,(ids,.cells 1 Xs 0)::ob,S++[row]) (by omega) ⟨⟨.inr ⟨ids,Xs,ob,rfl,rfl,Uw⟩,by simp [hS]⟩,o⟩ rfl
 clear h1;refine tt ?_
 refine AD [2,3,4,5,6,7] (G:=AV × Ob × List (List (List Int))) (fun n _=>[(11,some (.int .i64 (n : Int)))])
  (fun n G H=>(zU B5 G.2.1 G.1 G.2.2∧G.2.2.length=n)∧A9 H0 H ((Bc,.cells 13 (Bi b c X G.1 .Dg) 0)::(G.2.1++(q++[(B1,.cells 13 Af 0)])))) b.AB.length (.Dg,[],[]) ⟨⟨.inl ⟨rfl,rfl,rfl⟩,rfl⟩,o⟩ rfl ?_
 clear o
 rintro n ⟨Y,p,LY⟩ H hn ⟨⟨hY,hS⟩,o⟩
 replace hY : zU B5 p Y LY:=hY
 replace hS : LY.length=n:=hS
 replace o : A9 H0 H ((Bc,.cells 13 (Bi b c X Y .Dg) 0)::(p++(q++[(B1,.cells 13 Af 0)]))):=o;refine tt ?_;apply bk <;> intro h1
 ·have AU:=A6 h1
  have w:=ws n;refine tt ?_;refine AP o fun Io H o=>tt ?_
  refine AD [2,3,4,5,6,7,11] (G:=Nat × List (List Int)) (fun j G=>[(12,some (.buf G.1 G.2.length)),(13,some (.int .i64 (j : Int)))])
   (fun j G H=>G.2.length=j∧A9 H0 H ((G.1,.cells 1 (G.2.map iL) 0)::(Bc,.cells 13 (Bi b c X Y .Dg) 0)::(p++(q++[(B1,.cells 13 Af 0)])))) c.AF.toNat (Io,[])
   ⟨rfl,(show A9 H0 H ((Io,.cells 1 (([] : List (List Int)).map iL) 0)::(Bc,.cells 13 (Bi b c X Y .Dg) 0)::(p++(q++[(B1,.cells 13 Af 0)]))) from o)⟩ rfl ?_
  clear o
  rintro j ⟨Io,rows⟩ H hj ⟨Dm,o⟩
  replace Dm : rows.length=j:=Dm
  replace o : A9 H0 H ((Io,.cells 1 (rows.map iL) 0)::(Bc,.cells 13 (Bi b c X Y .Dg) 0)::(p++(q++[(B1,.cells 13 Af 0)]))):=o;refine tt ?_;apply bk <;> intro h2
  ·have Aq:=A6 h2
   have w2:=ws j
   have dM : n<f.shape.AB.length:=by omega
   have FG : c.ES j:=⟨by omega,Aq⟩
   have hA:=fA n dM
   have hG:=gS _ FG
   obtain ⟨E,hE⟩ : ∃ E,(f.AJ.getD n default).length=E:=⟨_,rfl⟩
   obtain ⟨D,hD⟩ : ∃ D : Nat,ix g.AK (j : Int)=D:=⟨_,(Int.toNat_of_nonneg hG.2.1).symm⟩
   have hE3 : E≤3:=by omega
   have hD3 : D≤3:=by omega
   have hD' : g.AK.getD j default=D:=by rw [← hD,AR]
   refine tt ?_;refine AP o fun E9 H o=>tt ?_
   refine AD [2,3,4,5,6,7,11,12,13] (G:=Nat × List Int) (fun i G=>[(14,some (.buf G.1 G.2.length)),(15,some (.int .i64 (i : Int)))])
    (fun i G H=>G.2.length≤4*i∧A9 H0 H ((G.1,.cells 1 (G.2.map iI) 0)::(Io,.cells 1 (rows.map iL) 0)::(Bc,.cells 13 (Bi b c X Y .Dg) 0)::(p++(q++[(B1,.cells 13 Af 0)])))) E (E9,[])
    ⟨by simp,(show A9 H0 H ((E9,.cells 1 (([] : List Int).map iI) 0)::(Io,.cells 1 (rows.map iL) 0)::(Bc,.cells 13 (Bi b c X Y .Dg) 0)::(p++(q++[(B1,.cells 13 Af 0)]))) from o)⟩ rfl ?_
   clear o
   rintro i ⟨E9,row⟩ H hi ⟨Bf,o⟩
   replace Bf : row.length≤4*i:=Bf
   replace o : A9 H0 H ((E9,.cells 1 (row.map iI) 0)::(Io,.cells 1 (rows.map iL) 0)::(Bc,.cells 13 (Bi b c X Y .Dg) 0)::(p++(q++[(B1,.cells 13 Af 0)]))):=o;refine tt ?_;refine ⟨hA.1, ?_⟩;apply bk <;> intro h3
   ·have BH:=A6 h3
    have MP : i<E:=by omega
    have w3:=ws i;refine tt ?_
    refine AD [2,3,4,5,6,7,11,12,13,15] (G:=Nat × List Int) (fun m G=>[(14,some (.buf G.1 G.2.length)),(16,some (.int .i64 (m : Int)))])
     (fun m G H=>G.2.length≤4*i+m∧A9 H0 H ((G.1,.cells 1 (G.2.map iI) 0)::(Io,.cells 1 (rows.map iL) 0)::(Bc,.cells 13 (Bi b c X Y .Dg) 0)::(p++(q++[(B1,.cells 13 Af 0)])))) D (E9,row) ⟨by simpa using Bf,o⟩ rfl ?_
    clear o Bf
    rintro m ⟨E9,row⟩ H hm ⟨Bf,o⟩
    replace Bf : row.length≤4*i+m:=Bf
    replace o : A9 H0 H ((E9,.cells 1 (row.map iI) 0)::(Io,.cells 1 (rows.map iL) 0)::(Bc,.cells 13 (Bi b c X Y .Dg) 0)::(p++(q++[(B1,.cells 13 Af 0)]))):=o;refine tt ?_;refine ⟨hG.1.2, ?_⟩;apply bk <;> intro h4
    ·have D9:=A6 h4
     have vD : m<D:=by omega
     have w4:=ws m;refine tt ?_;refine ⟨hA.1,by omega,hG.1.2, ?_⟩;refine Ae _ o rfl rfl (by simp only [AN]; omega) fun E9 H o=>?_;refine tw w4 ?_;exact A4 (E9,row++[_]) (by omega) ⟨by simp only [List.length_append,List.length_singleton]; omega,o⟩ rfl
    ·refine tw w3 ?_;exact A4 (E9,row) (by omega) ⟨by simp only; omega,o⟩ rfl
   ·have BH:=A7 h3;refine tt ?_;refine Am o rfl fun H o=>tt ?_;refine Ae (f:=iL) row o rfl rfl (by rw [Dm]; simp only [AN]; omega) fun Io H o=>?_;refine tw w2 ?_;exact A4 (Io,rows++[row]) (by omega) ⟨by simp [Dm],o⟩ rfl
  ·have Aq:=A7 h2;refine tt ?_;refine Am (f:=iL) o rfl fun H o=>tt ?_;refine AH o (by simp [Bi]) (tt ?_);refine (hY.o (l:=(Bc,.cells 13 (Bi b c X Y .Dg) 0)::(q++[(B1,.cells 13 Af 0)])) (o.pm)).app rows rfl (by rw [hS]; simp only [AN]; omega) fun ids H o=>tt ?_;refine AS o.swap (by simp [Bi]) (by (try simp only [go_sem]); (try simp)) (by first | (simp only [go_sem]; done) | ((try simp only [go_sem]); simp [AV.one,Ay])) fun H o=>?_;unfold Bi at o;have o:=s2 o;refine tw w ?_;exact A4 (.buf ids (LY++[rows]).length,[(ids,.cells 1 ((LY++[rows]).map B5) 0)],LY++[rows]) (by omega) ⟨⟨.inr ⟨ids,rfl,rfl⟩,by simp [hS]⟩,o⟩ rfl
 clear h1;refine tt ?_
 refine AD [2,3,4,5,6,7] (G:=AV × Ob × List (List (List Int))) (fun n _=>[(17,some (.int .i64 (n : Int)))])
  (fun n G H=>(zU B5 G.2.1 G.1 G.2.2∧G.2.2.length=n)∧A9 H0 H ((Bc,.cells 13 (Bi b c X Y G.1) 0)::(G.2.1++(p++(q++[(B1,.cells 13 Af 0)]))))) c.AB.length (.Dg,[],[]) ⟨⟨.inl ⟨rfl,rfl,rfl⟩,rfl⟩,o⟩ rfl ?_
 clear o
 rintro n ⟨Z,r,LZ⟩ H hn ⟨⟨hZ,hS⟩,o⟩
 replace hZ : zU B5 r Z LZ:=hZ
 replace hS : LZ.length=n:=hS
 replace o : A9 H0 H ((Bc,.cells 13 (Bi b c X Y Z) 0)::(r++(p++(q++[(B1,.cells 13 Af 0)])))):=o;refine tt ?_;apply bk <;> intro h1
 ·have AU:=A6 h1
  have w:=ws n;refine tt ?_;refine AP o fun Io H o=>tt ?_
  refine AD [2,3,4,5,6,7,17] (G:=Nat × List (List Int)) (fun j G=>[(18,some (.buf G.1 G.2.length)),(19,some (.int .i64 (j : Int)))])
   (fun j G H=>G.2.length=j∧A9 H0 H ((G.1,.cells 1 (G.2.map iL) 0)::(Bc,.cells 13 (Bi b c X Y Z) 0)::(r++(p++(q++[(B1,.cells 13 Af 0)]))))) b.AF.toNat (Io,[])
   ⟨rfl,(show A9 H0 H ((Io,.cells 1 (([] : List (List Int)).map iL) 0)::(Bc,.cells 13 (Bi b c X Y Z) 0)::(r++(p++(q++[(B1,.cells 13 Af 0)])))) from o)⟩ rfl ?_
  clear o
  rintro j ⟨Io,rows⟩ H hj ⟨Dm,o⟩
  replace Dm : rows.length=j:=Dm
  replace o : A9 H0 H ((Io,.cells 1 (rows.map iL) 0)::(Bc,.cells 13 (Bi b c X Y Z) 0)::(r++(p++(q++[(B1,.cells 13 Af 0)])))):=o;refine tt ?_;apply bk <;> intro h2
  ·have Aq:=A6 h2
   have w2:=ws j
   have ha : c.DB n:=⟨by omega,by simpa using AU⟩
   have FG : f.shape.ES j:=⟨by omega,by omega⟩
   have hA:=gA n AU
   have hG:=fS _ FG
   obtain ⟨D,hD⟩ : ∃ D,(g.AJ.getD n default).length=D:=⟨_,rfl⟩
   obtain ⟨E,hE⟩ : ∃ E : Nat,ix f.AK (j : Int)=E:=⟨_,(Int.toNat_of_nonneg hG.2.1).symm⟩
   have hE3 : E≤3:=by omega
   have hD3 : D≤3:=by omega
   have hE' : f.AK.getD j default=E:=by rw [← hE,AR]
   refine tt ?_;refine AP o fun E9 H o=>tt ?_
   refine AD [2,3,4,5,6,7,17,18,19] (G:=Nat × List Int) (fun i G=>[(20,some (.buf G.1 G.2.length)),(21,some (.int .i64 (i : Int)))])
    (fun i G H=>G.2.length≤4*i∧A9 H0 H ((G.1,.cells 1 (G.2.map iI) 0)::(Io,.cells 1 (rows.map iL) 0)::(Bc,.cells 13 (Bi b c X Y Z) 0)::(r++(p++(q++[(B1,.cells 13 Af 0)]))))) E (E9,[])
    ⟨by simp,(show A9 H0 H ((E9,.cells 1 (([] : List Int).map iI) 0)::(Io,.cells 1 (rows.map iL) 0)::(Bc,.cells 13 (Bi b c X Y Z) 0)::(r++(p++(q++[(B1,.cells 13 Af 0)])))) from o)⟩ rfl ?_
   clear o
   rintro i ⟨E9,row⟩ H hi ⟨Bf,o⟩
   replace Bf : row.length≤4*i:=Bf
   replace o : A9 H0 H ((E9,.cells 1 (row.map iI) 0)::(Io,.cells 1 (rows.map iL) 0)::(Bc,.cells 13 (Bi b c X Y Z) 0)::(r++(p++(q++[(B1,.cells 13 Af 0)])))):=o;refine tt ?_;refine ⟨hG.1.2, ?_⟩;apply bk <;> intro h3
   ·have BH:=A6 h3
    have MP : i<E:=by omega
    have w3:=ws i;refine tt ?_
    refine AD [2,3,4,5,6,7,17,18,19,21] (G:=Nat × List Int) (fun m G=>[(20,some (.buf G.1 G.2.length)),(22,some (.int .i64 (m : Int)))])
     (fun m G H=>G.2.length≤4*i+m∧A9 H0 H ((G.1,.cells 1 (G.2.map iI) 0)::(Io,.cells 1 (rows.map iL) 0)::(Bc,.cells 13 (Bi b c X Y Z) 0)::(r++(p++(q++[(B1,.cells 13 Af 0)]))))) D (E9,row) ⟨by simpa using Bf,o⟩ rfl ?_
    clear o Bf
    rintro m ⟨E9,row⟩ H hm ⟨Bf,o⟩
    replace Bf : row.length≤4*i+m:=Bf
    replace o : A9 H0 H ((E9,.cells 1 (row.map iI) 0)::(Io,.cells 1 (rows.map iL) 0)::(Bc,.cells 13 (Bi b c X Y Z) 0)::(r++(p++(q++[(B1,.cells 13 Af 0)])))):=o;refine tt ?_;refine ⟨hA.1, ?_⟩;apply bk <;> intro h4
    ·have D9:=A6 h4
     have vD : m<D:=by omega
     have w4:=ws m;refine tt ?_;refine ⟨(gI _ ha).2,(gT _ ha).1,hA.1,by omega, ?_⟩;refine Ae _ o rfl rfl (by simp only [AN]; omega) fun E9 H o=>?_;refine tw w4 ?_;exact A4 (E9,row++[_]) (by omega) ⟨by simp only [List.length_append,List.length_singleton]; omega,o⟩ rfl
    ·refine tw w3 ?_;exact A4 (E9,row) (by omega) ⟨by simp only; omega,o⟩ rfl
   ·have BH:=A7 h3;refine tt ?_;refine Am o rfl fun H o=>tt ?_;refine Ae (f:=iL) row o rfl rfl (by rw [Dm]; simp only [AN]; omega) fun Io H o=>?_;refine tw w2 ?_;exact A4 (Io,rows++[row]) (by omega) ⟨by simp [Dm],o⟩ rfl
  ·have Aq:=A7 h2;refine tt ?_;refine Am (f:=iL) o rfl fun H o=>tt ?_;refine AH o (by simp [Bi]) (tt ?_);refine (hZ.o (l:=(Bc,.cells 13 (Bi b c X Y Z) 0)::(p++(q++[(B1,.cells 13 Af 0)]))) (o.pm)).app rows rfl (by rw [hS]; simp only [AN]; omega) fun ids H o=>tt ?_;refine AS o.swap (by simp [Bi]) (by (try simp only [go_sem]); (try simp)) (by first | (simp only [go_sem]; done) | ((try simp only [go_sem]); simp [AV.one,Ay])) fun H o=>?_;unfold Bi at o;have o:=s2 o;refine tw w ?_;exact A4 (.buf ids (LZ++[rows]).length,[(ids,.cells 1 ((LZ++[rows]).map B5) 0)],LZ++[rows]) (by omega) ⟨⟨.inr ⟨ids,rfl,rfl⟩,by simp [hS]⟩,o⟩ rfl
 clear h1;refine tt ?_;refine rK (f:=B5) (id:=Bc) (sz:=13) (fr:=0) (cs:=Bi b c X Y Z) 11 hY (l:=r++(q++[(B1,.cells 13 Af 0)])) (o.pm) rfl fun H o=>?_
 replace o : A9 H0 H ((Bc,.cells 13 (Bi b c X (BE LY) Z) 0)::(r++(q++[(B1,.cells 13 Af 0)]))):=o;refine rK (f:=B5) (id:=Bc) (sz:=13) (fr:=0) (cs:=Bi b c X (BE LY) Z) 12 hZ (l:=q++[(B1,.cells 13 Af 0)]) (o.pm) rfl fun H o=>AX ?_
 replace o : A9 H0 H ((Bc,.cells 13 (Bi b c X (BE LY) (BE LZ)) 0)::(q++[(B1,.cells 13 Af 0)])):=o;refine tt ?_;refine AO o (by simp [Bi]) ?_
 have o : A9 H0 H ((B1,.cells 13 Af 0)::(Bc,.cells 13 (Bi b c X (BE LY) (BE LZ)) 0)::q):=o.pm;unfold Bi;refine tt ?_
 have HY:=hX.one;refine AS o (by simp [Af]) (by (try simp only [go_sem]); (try simp)) (by first | (simp only [go_sem,HY]; done) | ((try simp only [go_sem]); simp [HY,Ay])) fun H o=>?_;unfold Af at o;have o:=s2 o;refine tt ?_;rw [o.rc 13 0 (by simp)];refine tt ?_;exact ⟨H,.refl _,q,⟨X,S,LY,LZ,rfl,hX⟩,o.tl.tl⟩
def mq (c : Ax) (id : Nat) (H0 : AA) (l : Ob) : Ak:=fun r H'=>∃ (d : Ax) (s' : Src) (p : Ob),(d.Sh 20000∧d.Shape)∧iz c d r p∧s'.Ok∧A9 H0 H' ((id,s'.obj)::(p++l))
theorem Rp (B : Nat) {c : Ax} (Pe : c.Sh 20000) (hc : c.Shape) (mo ma : Int) (id : Nat) (s : Src) (l : Ob) (H0 H : AA) (hs : s.Ok) (o : A9 H0 H ((id,s.obj)::l)) :
  CB B 270 [.ref id 0,.agg c.cells,iI mo,iI ma] H (mq c id H0 l):=by
 refine wA.go fun _=>?_;refine tt ?_;refine nb o fun Cm H o=>tt ?_;refine (E1 B mo ma).go hs o.swap fun r s H _ ⟨d,e,ji,hd⟩ hs o=>?_;subst e;refine tt ?_;refine Ai o fun ON H o=>tt ?_;refine sw o fun H o=>?_
 have o : A9 H0 H ((ON,.cells 5 d.cells 0)::(id,s.obj)::(Cm,.cells 12 Ey 0)::l):=o;refine tt ?_
 have dO:=hd.o;refine Qd (fun σ H=>∃ s : Src,σ=[(0,some (.ref id 0)),(5,some (.ptr c.cells)),(8,some (.ref Cm 0)),(9,some (.ref ON 0))]∧s.Ok∧A9 H0 H ((id,s.obj)::(ON,.cells 5 d.cells 0)::(Cm,.cells 12 Ey 0)::l)) ?_ ?_
 ·refine tt ?_;refine AO o (by simp [Ax.cells]) (tt ?_);refine (Ro B c d hc).go fun r _ ⟨b,e⟩=>?_;subst e
  cases b
  ·refine tt ?_;exact AX ⟨s,rfl,hs,o.swap⟩
  ·refine tt ?_;refine AO o (by simp [Ax.cells]) (tt ?_);refine (UE B hc hd H).mono ?_
   rintro r H ⟨Eo,ms,rfl,⟨OQ,V0⟩,o2⟩
   have o:=o.trans o2
   have o : A9 H0 H ((id,s.obj)::(Eo,.cells 12 (flat (ms.map (EZ c d))) 0)::(ON,.cells 5 d.cells 0)::(Cm,.cells 12 Ey 0)::(Ic ms++l)):=o.pm;refine tt ?_;apply bk <;> intro h1
   ·have AU:=A6 h1;refine tt ?_;refine (AY B _).go hs o fun r s H _ ⟨v,e,v0,v1,_⟩ hs o=>?_;subst e
    have vl : v.toNat<ms.length:=by have:=v1 (by omega); omega
    have o : A9 H0 H ((Eo,.cells 12 (flat (ms.map (EZ c d))) 0)::(id,s.obj)::(ON,.cells 5 d.cells 0)::(Cm,.cells 12 Ey 0)::(Ic ms++l)):=o.swap;refine tt ?_;refine ⟨⟨v0,vl⟩, ?_⟩;refine Ky (f:=EZ c d) o vl ?_
    have hm : ms.getD v.toNat default∈ms:=AE.mpr ⟨_,vl,rfl⟩
    generalize ms.getD v.toNat default=m at hm;refine tt ?_
    have o : A9 H0 H ((Cm,.cells 12 Ey 0)::(id,s.obj)::(Eo,.cells 12 (flat (ms.map (EZ c d))) 0)::(ON,.cells 5 d.cells 0)::(Ic ms++l)):=o.pm;refine AS o (by simp [Ey]) (by (try simp only [go_sem]); (try simp)) (by first | (simp only [go_sem]; done) | ((try simp only [go_sem]); simp [AV.one,Ay])) fun H o=>?_;unfold Ey at o;have o:=s2 o;refine tt ?_;rw [o.rc 12 0 (by simp)];refine tt ?_;exact ⟨H,.refl _,d,s,Ic [m],⟨ji,hd⟩,⟨m,rfl,rfl,V0 m hm⟩,hs,o.FL (.cons _ (.cons_cons _ (.cons _ (.cons _ (List.Sublist.append_right (VG hm) l)))))⟩
   ·refine tt ?_;exact AX ⟨s,rfl,hs,o.FL (.cons_cons _ (.cons _ (.cons_cons _ (.cons_cons _ (List.sublist_append_right _ _)))))⟩
 clear o hs
 rintro σ H ⟨s,rfl,hs,o⟩
 have PY : ∀ (s : Src) (H : AA),s.Ok→A9 H0 H ((id,s.obj)::(ON,.cells 5 d.cells 0)::(Cm,.cells 12 Ey 0)::l)→CB B 273 [.agg c.cells] H fun r H'=>∃ m : FB,r=EZ c c m∧(iG c c m.1.2∧Fn c c m.1.2 m.2.2)∧A9 H0 H' ((Cm,.cells 12 Ey 0)::(id,s.obj)::(ON,.cells 5 d.cells 0)::(Ic [m]++l)):=fun s H hs o=>by
  refine ((bQ B hc).run H).mono ?_
  rintro r H' ⟨p,⟨m,rfl,rfl,hm⟩,o2⟩;exact ⟨m,rfl,hm,(o.trans o2).pm⟩
 refine tt ?_;refine AH o.tl (by simp [Ax.cells]) (tt ?_)
 by_cases h1 : 0<d.AF
 ·rw [decide_eq_true h1];refine tt ?_;refine (AY B 2).go hs o fun r s H _ ⟨v,e,_⟩ hs o=>?_;subst e;refine tt ?_;apply bk <;> intro h2
  ·refine tt ?_
   have g9:=o.get (ON,_) (.tail _ (.head _));refine ⟨⟨_,_,g9⟩,VZ g9 (by simp [Ax.cells]) ?_⟩;refine tt ?_;refine ⟨⟨_,_,g9⟩,Aj g9 (by simp [Ax.cells]) ?_⟩;refine tt ?_;refine (AY B d.AF).IE hs o fun r s H _ ⟨y,e,y0,y1,_⟩ hs o hz=>⟨hz, ?_⟩;subst e
   have hy : d.ES y:=⟨y0,y1 (by omega)⟩;refine tt ?_;refine ((PE B hc hd hy).run H).mono ?_
   rintro r H' ⟨p,⟨m,rfl,rfl,hm⟩,o2⟩;refine ⟨o2.sub, ?_⟩
   have o : A9 H0 H' ((Cm,.cells 12 Ey 0)::(id,s.obj)::(ON,.cells 5 d.cells 0)::(Ic [m]++l)):=(o.trans o2).pm;refine tt ?_;refine AS o (by simp [Ey]) (by (try simp only [go_sem]); (try simp)) (by first | (simp only [go_sem]; done) | ((try simp only [go_sem]); simp [AV.one,Ay])) fun H o=>?_;unfold Ey at o;have o:=s2 o;refine tt ?_;rw [o.rc 12 0 (by simp)];refine tt ?_;exact ⟨H,.refl _,d,s,Ic [m],⟨ji,hd⟩,⟨m,rfl,rfl,hm⟩,hs,o.FL (.cons _ (.cons_cons _ (.cons _ (.refl _))))⟩
  ·refine tt ?_;refine (PY s H hs o).mono ?_;clear o
   rintro r H ⟨m,rfl,hm,o⟩;refine tt ?_;refine AS o (by simp [Ey]) (by (try simp only [go_sem]); (try simp)) (by first | (simp only [go_sem]; done) | ((try simp only [go_sem]); simp [AV.one,Ay])) fun H o=>?_;unfold Ey at o;have o:=s2 o;refine tt ?_;rw [o.rc 12 0 (by simp)];refine tt ?_;exact ⟨H,.refl _,c,s,Ic [m],⟨Pe,hc⟩,⟨m,rfl,rfl,hm⟩,hs,o.FL (.cons _ (.cons_cons _ (.cons _ (.refl _))))⟩
 ·rw [decide_eq_false h1];refine tt ?_;refine (PY s H hs o).mono ?_;clear o
  rintro r H ⟨m,rfl,hm,o⟩;refine tt ?_;refine AS o (by simp [Ey]) (by (try simp only [go_sem]); (try simp)) (by first | (simp only [go_sem]; done) | ((try simp only [go_sem]); simp [AV.one,Ay])) fun H o=>?_;unfold Ey at o;have o:=s2 o;refine tt ?_;rw [o.rc 12 0 (by simp)];refine tt ?_;exact ⟨H,.refl _,c,s,Ic [m],⟨Pe,hc⟩,⟨m,rfl,rfl,hm⟩,hs,o.FL (.cons _ (.cons_cons _ (.cons _ (.refl _))))⟩
def ou (B : Nat) (fn : FuncId) (args : List AV) (Q : Ob→AV→Prop) : Prop :=
 ∀ (id : Nat) (s : Src) (H0 H : AA),s.Ok→A9 H0 H [(id,s.obj)]→CB B fn (.ref id 0::args) H fun r H'=>∃ (s' : Src) (p : Ob),s'.Ok∧Q p r∧A9 H0 H' ((id,s'.obj)::p)
theorem ou.IE {B : Nat} {fn : FuncId} {args : List AV} {Q : Ob→AV→Prop} {id : Nat} {s : Src} {H0 H : AA} {l : List (Nat × AG)} {K : Ak} (h : ou B fn args Q) (hs : s.Ok) (o : A9 H0 H ((id,s.obj)::l))
  (hk : ∀ (r : AV) (s' : Src) (p : Ob) (H' : AA),r.Dn→Q p r→s'.Ok→A9 H0 H' ((id,s'.obj)::(p++l))→(∀ z,z≠3→H.N9 z H')→K r H') : CB B fn (.ref id 0::args) H K :=
 (h id s _ H hs o.self).IG fun r H' hf ⟨s',p,J9,q,o'⟩=>hk r s' p H' hf q J9 (o.del.trans o') fun z hz i cs f e=>by
  have h0:=o.h0;refine o'.sub i _ ?_;rw [AA.Bd]
  ·exact e
  ·rintro rfl;simp only at h0;rw [h0] at e;simp only [Src.obj] at e
   cases e;exact hz rfl
theorem Bu (B : Nat) {c : Ax} (Pe : c.Sh 20000) (hc : c.Shape) (mo ma : Int) : ou B 270 [.agg c.cells,iI mo,iI ma] fun p X=>∃ d : Ax,(d.Sh 20000∧d.Shape)∧iz c d X p :=
 fun id s H0 H hs o=>(Rp B Pe hc mo ma id s [] H0 H hs o).mono fun r H' ⟨d,s',p,hd,hf,J9,o'⟩=>⟨s',p,J9,⟨d,hd,hf⟩,by rw [List.append_nil] at o'; exact o'⟩
theorem TI.mk' {b c : Ax} {p : Ob} {X : AV} (h : TI b c p X) : ∃ cs : List AV,X=.agg cs∧cs.length=13∧∀ c,c∈cs→c.one=true:=by
 obtain ⟨XS,S,Y,Z,rfl,hE⟩:=h
 have:=hE.one;exact ⟨_,rfl,rfl,by simp [Bi,Ay,this]; exact ⟨rfl,rfl⟩⟩
theorem Yx : ∀ (cs z pre : List AV),cs.length=z.length→wr (pre++z) pre.length cs=pre++cs
 | [],z,pre,h=>by
  have : z=[]:=List.eq_nil_of_length_eq_zero (by simpa using h.symm);subst this; rfl
 | v::r,[],pre,h=>by simp at h
 | v::r,a::z,pre,h=>by
  have ih:=Yx r z (pre++[v]) (by simpa using h);rw [List.length_append,List.length_singleton,List.append_assoc,List.append_assoc] at ih
  have e : (pre++a::z).set pre.length v=pre++([v]++z):=by simp [List.set_append]
  show wr ((pre++a::z).set pre.length v) (pre.length+1) r=pre++v::r
  rw [e]; exact ih
theorem G8 {z cs : List AV} (h : cs.length=z.length) : wr z 0 cs=cs:=Yx cs z [] h
theorem P7 {f g : SF} {c d : Ax} {p : Ob} {X : AV} {cd : Int} (hf : f.shape=c) (hg : g.shape=d) (h : (cd=0∧TI f.shape g.shape p X)∨(cd≠0∧(∃ cs : List AV,X=.agg cs∧cs.length=13∧∀ c,c∈cs→c.one=true)∧p=[])) :
  ∃ cs : List AV,X=.agg cs∧cs.length=13∧(∀ c,c∈cs→c.one=true)∧(cd=0→TI c d p (.agg cs)):=by
 rcases h with ⟨h0,hP⟩ | ⟨h0,⟨cs,rfl,h1,h2⟩,_⟩
 ·obtain ⟨cs,rfl,h1,h2⟩:=TI.mk' hP;exact ⟨cs,rfl,h1,h2,fun _=>by rw [← hf,← hg]; exact hP⟩
 ·exact ⟨cs,rfl,h1,h2,fun h=>absurd h h0⟩
def SmK (id : Nat) (H0 : AA) (l : Ob) : Ak:=fun r H'=>∃ (b c : Ax) (s' : Src) (p : Ob),b.Sh 20000∧s'.Ok∧TI b c p r∧A9 H0 H' ((id,s'.obj)::(p++l))
theorem dL {c : Ax} (h : c.Shape) : c.Sh 20000:=(Gq h).1.mono (by omega)
theorem Pk {c : Ax} (h : c.Shape) : NV ⟨c,c,OL c.AF.toNat,OL c.AB.length⟩:=⟨h,h,(Pv h).1,(Pv h).2⟩
set_option maxHeartbeats 2000000 in
theorem U1 (B : Nat) (id : Nat) (s : Src) (l : Ob) (H0 H : AA) (hs : s.Ok) (o : A9 H0 H ((id,s.obj)::l)) :
  CB B 212 [.ref id 0,.bool false] H (SmK id H0 l):=by
 refine vT.go fun _=>?_;refine tt ?_;refine nb o fun B1 H o=>tt ?_;refine (E1 B 3 6).go hs o.swap fun r s H _ ⟨c,e,Pe,hc⟩ hs o=>?_;subst e;refine tt ?_;refine Ai o fun Bv H o=>tt ?_;refine sw o fun H o=>?_
 have o : A9 H0 H ((Bv,.cells 5 c.cells 0)::(id,s.obj)::(B1,.cells 13 Af 0)::l):=o;refine tt ?_;refine Ca 5 o rfl fun H o=>AX ?_;refine tt ?_;refine Qd (fun σ H=>∃ s : Src,σ=[(0,some (.ref id 0)),(1,some (.bool false)),(4,some (.ref B1 0)),(5,some (.ptr c.cells))]∧s.Ok∧A9 H0 H ((id,s.obj)::(B1,.cells 13 Af 0)::l)) ?_ ?_
 ·refine tt ?_;refine (AY B 4).go hs o fun r s H _ ⟨v,e,_⟩ hs o=>?_;subst e;refine tt ?_;apply bk <;> intro h0
  ·refine tt ?_
   refine Qd (fun σ H=>∃ (s : Src) (Ba CT : Nat) (d1 d2 : Ax) (m1 m2 : FB),σ=[(4,some (.ref B1 0)),(6,some (.ref Ba 0)),(7,some (.ref CT 0))]∧s.Ok∧(d1.Shape∧iG c d1 m1.1.2∧Fn c d1 m1.1.2 m1.2.2)∧(d2.Shape∧iG c d2 m2.1.2∧Fn c d2 m2.1.2 m2.2.2) ∧
    A9 H0 H (WZ Ba c d1 m1 (WZ CT c d2 m2 ((id,s.obj)::(B1,.cells 13 Af 0)::l)))) ?_ ?_
   ·refine tt ?_;refine ⟨?_, ?_, ?_⟩
    ·
     refine (Bu B Pe hc 3 8).IE hs o fun r s p H _ ⟨d1,⟨oD,QN⟩,m1,e,e2,HW,Ow⟩ hs o hz=>⟨hz, ?_⟩;subst e e2;rw [VH] at o
     have o : A9 H0 H ((id,s.obj)::(m1.1.1,.cells 1 (m1.1.2.map iI) 0)::(m1.2.1,.cells 1 (m1.2.2.map iI) 0)::(B1,.cells 13 Af 0)::l):=o.pm;refine tt ?_;refine ⟨?_, ?_, ?_⟩
     ·
      refine (Bu B Pe hc 3 8).IE hs o fun r s p H _ ⟨d2,⟨O5,MQ⟩,m2,e,e2,ib,aX⟩ hs o hz=>⟨hz, ?_⟩;subst e e2;rw [VH] at o
      have o : A9 H0 H ((id,s.obj)::(m1.1.1,.cells 1 (m1.1.2.map iI) 0)::(m1.2.1,.cells 1 (m1.2.2.map iI) 0)::(m2.1.1,.cells 1 (m2.1.2.map iI) 0)::(m2.2.1,.cells 1 (m2.2.2.map iI) 0)::(B1,.cells 13 Af 0)::l):=o.pm;refine tt ?_;refine ⟨?_, ?_⟩
      ·
       refine nb o fun Ba H o=>?_
       have o : A9 H0 H ((Ba,.cells 12 Ey 0)::(id,s.obj)::(m1.1.1,.cells 1 (m1.1.2.map iI) 0)::(m1.2.1,.cells 1 (m1.2.2.map iI) 0)::(m2.1.1,.cells 1 (m2.1.2.map iI) 0)::(m2.2.1,.cells 1 (m2.2.2.map iI) 0)::(B1,.cells 13 Af 0)::l):=o
       have o : A9 H0 H ((id,s.obj)::(Ba,.cells 12 Ey 0)::(m1.1.1,.cells 1 (m1.1.2.map iI) 0)::(m1.2.1,.cells 1 (m1.2.2.map iI) 0)::(m2.1.1,.cells 1 (m2.1.2.map iI) 0)::(m2.2.1,.cells 1 (m2.2.2.map iI) 0)::(B1,.cells 13 Af 0)::l):=o.pm;refine tt ?_;refine nb o fun CT H o=>?_
       have o : A9 H0 H ((CT,.cells 12 Ey 0)::(id,s.obj)::(Ba,.cells 12 Ey 0)::(m1.1.1,.cells 1 (m1.1.2.map iI) 0)::(m1.2.1,.cells 1 (m1.2.2.map iI) 0)::(m2.1.1,.cells 1 (m2.1.2.map iI) 0)::(m2.2.1,.cells 1 (m2.2.2.map iI) 0)::(B1,.cells 13 Af 0)::l):=o
       have o : A9 H0 H ((id,s.obj)::(CT,.cells 12 Ey 0)::(Ba,.cells 12 Ey 0)::(m1.1.1,.cells 1 (m1.1.2.map iI) 0)::(m1.2.1,.cells 1 (m1.2.2.map iI) 0)::(m2.1.1,.cells 1 (m2.1.2.map iI) 0)::(m2.2.1,.cells 1 (m2.2.2.map iI) 0)::(B1,.cells 13 Af 0)::l):=o.pm;refine tt ?_
       have o : A9 H0 H ((Ba,.cells 12 Ey 0)::(id,s.obj)::(CT,.cells 12 Ey 0)::(m1.1.1,.cells 1 (m1.1.2.map iI) 0)::(m1.2.1,.cells 1 (m1.2.2.map iI) 0)::(m2.1.1,.cells 1 (m2.1.2.map iI) 0)::(m2.2.1,.cells 1 (m2.2.2.map iI) 0)::(B1,.cells 13 Af 0)::l):=o.pm;refine AS o (by simp [Ey]) (by (try simp only [go_sem]); (try simp)) (by first | (simp only [go_sem]; done) | ((try simp only [go_sem]); simp [AV.one,Ay])) fun H o=>?_
       have o : A9 H0 H ((Ba,.cells 12 (EZ c d1 m1).cells 0)::(id,s.obj)::(CT,.cells 12 Ey 0)::(m1.1.1,.cells 1 (m1.1.2.map iI) 0)::(m1.2.1,.cells 1 (m1.2.2.map iI) 0)::(m2.1.1,.cells 1 (m2.1.2.map iI) 0)::(m2.2.1,.cells 1 (m2.2.2.map iI) 0)::(B1,.cells 13 Af 0)::l):=o;refine tt ?_
       have o : A9 H0 H ((CT,.cells 12 Ey 0)::(Ba,.cells 12 (EZ c d1 m1).cells 0)::(id,s.obj)::(m1.1.1,.cells 1 (m1.1.2.map iI) 0)::(m1.2.1,.cells 1 (m1.2.2.map iI) 0)::(m2.1.1,.cells 1 (m2.1.2.map iI) 0)::(m2.2.1,.cells 1 (m2.2.2.map iI) 0)::(B1,.cells 13 Af 0)::l):=o.pm;refine AS o (by simp [Ey]) (by (try simp only [go_sem]); (try simp)) (by first | (simp only [go_sem]; done) | ((try simp only [go_sem]); simp [AV.one,Ay])) fun H o=>?_
       have o : A9 H0 H ((CT,.cells 12 (EZ c d2 m2).cells 0)::(Ba,.cells 12 (EZ c d1 m1).cells 0)::(id,s.obj)::(m1.1.1,.cells 1 (m1.1.2.map iI) 0)::(m1.2.1,.cells 1 (m1.2.2.map iI) 0)::(m2.1.1,.cells 1 (m2.1.2.map iI) 0)::(m2.2.1,.cells 1 (m2.2.2.map iI) 0)::(B1,.cells 13 Af 0)::l):=o;refine tt ?_;exact AX ⟨s,Ba,CT,d1,d2,m1,m2,rfl,hs,⟨QN,HW,Ow⟩,⟨MQ,ib,aX⟩,(show A9 H0 H ((Ba,.cells 12 (EZ c d1 m1).cells 0)::(m1.1.1,.cells 1 (m1.1.2.map iI) 0)::(m1.2.1,.cells 1 (m1.2.2.map iI) 0)::(CT,.cells 12 (EZ c d2 m2).cells 0)::(m2.1.1,.cells 1 (m2.1.2.map iI) 0)::(m2.2.1,.cells 1 (m2.2.2.map iI) 0)::(id,s.obj)::(B1,.cells 13 Af 0)::l) from o.pm)⟩
      ·
       refine nb o fun CT H o=>?_
       have o : A9 H0 H ((CT,.cells 12 Ey 0)::(id,s.obj)::(m1.1.1,.cells 1 (m1.1.2.map iI) 0)::(m1.2.1,.cells 1 (m1.2.2.map iI) 0)::(m2.1.1,.cells 1 (m2.1.2.map iI) 0)::(m2.2.1,.cells 1 (m2.2.2.map iI) 0)::(B1,.cells 13 Af 0)::l):=o
       have o : A9 H0 H ((id,s.obj)::(CT,.cells 12 Ey 0)::(m1.1.1,.cells 1 (m1.1.2.map iI) 0)::(m1.2.1,.cells 1 (m1.2.2.map iI) 0)::(m2.1.1,.cells 1 (m2.1.2.map iI) 0)::(m2.2.1,.cells 1 (m2.2.2.map iI) 0)::(B1,.cells 13 Af 0)::l):=o.pm;refine tt ?_;refine nb o fun Ba H o=>?_
       have o : A9 H0 H ((Ba,.cells 12 Ey 0)::(id,s.obj)::(CT,.cells 12 Ey 0)::(m1.1.1,.cells 1 (m1.1.2.map iI) 0)::(m1.2.1,.cells 1 (m1.2.2.map iI) 0)::(m2.1.1,.cells 1 (m2.1.2.map iI) 0)::(m2.2.1,.cells 1 (m2.2.2.map iI) 0)::(B1,.cells 13 Af 0)::l):=o
       have o : A9 H0 H ((id,s.obj)::(Ba,.cells 12 Ey 0)::(CT,.cells 12 Ey 0)::(m1.1.1,.cells 1 (m1.1.2.map iI) 0)::(m1.2.1,.cells 1 (m1.2.2.map iI) 0)::(m2.1.1,.cells 1 (m2.1.2.map iI) 0)::(m2.2.1,.cells 1 (m2.2.2.map iI) 0)::(B1,.cells 13 Af 0)::l):=o.pm;refine tt ?_
       have o : A9 H0 H ((Ba,.cells 12 Ey 0)::(id,s.obj)::(CT,.cells 12 Ey 0)::(m1.1.1,.cells 1 (m1.1.2.map iI) 0)::(m1.2.1,.cells 1 (m1.2.2.map iI) 0)::(m2.1.1,.cells 1 (m2.1.2.map iI) 0)::(m2.2.1,.cells 1 (m2.2.2.map iI) 0)::(B1,.cells 13 Af 0)::l):=o.pm;refine AS o (by simp [Ey]) (by (try simp only [go_sem]); (try simp)) (by first | (simp only [go_sem]; done) | ((try simp only [go_sem]); simp [AV.one,Ay])) fun H o=>?_
       have o : A9 H0 H ((Ba,.cells 12 (EZ c d1 m1).cells 0)::(id,s.obj)::(CT,.cells 12 Ey 0)::(m1.1.1,.cells 1 (m1.1.2.map iI) 0)::(m1.2.1,.cells 1 (m1.2.2.map iI) 0)::(m2.1.1,.cells 1 (m2.1.2.map iI) 0)::(m2.2.1,.cells 1 (m2.2.2.map iI) 0)::(B1,.cells 13 Af 0)::l):=o;refine tt ?_
       have o : A9 H0 H ((CT,.cells 12 Ey 0)::(Ba,.cells 12 (EZ c d1 m1).cells 0)::(id,s.obj)::(m1.1.1,.cells 1 (m1.1.2.map iI) 0)::(m1.2.1,.cells 1 (m1.2.2.map iI) 0)::(m2.1.1,.cells 1 (m2.1.2.map iI) 0)::(m2.2.1,.cells 1 (m2.2.2.map iI) 0)::(B1,.cells 13 Af 0)::l):=o.pm;refine AS o (by simp [Ey]) (by (try simp only [go_sem]); (try simp)) (by first | (simp only [go_sem]; done) | ((try simp only [go_sem]); simp [AV.one,Ay])) fun H o=>?_
       have o : A9 H0 H ((CT,.cells 12 (EZ c d2 m2).cells 0)::(Ba,.cells 12 (EZ c d1 m1).cells 0)::(id,s.obj)::(m1.1.1,.cells 1 (m1.1.2.map iI) 0)::(m1.2.1,.cells 1 (m1.2.2.map iI) 0)::(m2.1.1,.cells 1 (m2.1.2.map iI) 0)::(m2.2.1,.cells 1 (m2.2.2.map iI) 0)::(B1,.cells 13 Af 0)::l):=o;refine tt ?_;exact AX ⟨s,Ba,CT,d1,d2,m1,m2,rfl,hs,⟨QN,HW,Ow⟩,⟨MQ,ib,aX⟩,(show A9 H0 H ((Ba,.cells 12 (EZ c d1 m1).cells 0)::(m1.1.1,.cells 1 (m1.1.2.map iI) 0)::(m1.2.1,.cells 1 (m1.2.2.map iI) 0)::(CT,.cells 12 (EZ c d2 m2).cells 0)::(m2.1.1,.cells 1 (m2.1.2.map iI) 0)::(m2.2.1,.cells 1 (m2.2.2.map iI) 0)::(id,s.obj)::(B1,.cells 13 Af 0)::l) from o.pm)⟩
     ·
      refine nb o fun Ba H o=>?_
      have o : A9 H0 H ((Ba,.cells 12 Ey 0)::(id,s.obj)::(m1.1.1,.cells 1 (m1.1.2.map iI) 0)::(m1.2.1,.cells 1 (m1.2.2.map iI) 0)::(B1,.cells 13 Af 0)::l):=o
      have o : A9 H0 H ((id,s.obj)::(Ba,.cells 12 Ey 0)::(m1.1.1,.cells 1 (m1.1.2.map iI) 0)::(m1.2.1,.cells 1 (m1.2.2.map iI) 0)::(B1,.cells 13 Af 0)::l):=o.pm;refine tt ?_;refine ⟨?_, ?_⟩
      ·
       refine (Bu B Pe hc 3 8).IE hs o fun r s p H _ ⟨d2,⟨O5,MQ⟩,m2,e,e2,ib,aX⟩ hs o hz=>⟨hz, ?_⟩;subst e e2;rw [VH] at o
       have o : A9 H0 H ((id,s.obj)::(Ba,.cells 12 Ey 0)::(m1.1.1,.cells 1 (m1.1.2.map iI) 0)::(m1.2.1,.cells 1 (m1.2.2.map iI) 0)::(m2.1.1,.cells 1 (m2.1.2.map iI) 0)::(m2.2.1,.cells 1 (m2.2.2.map iI) 0)::(B1,.cells 13 Af 0)::l):=o.pm;refine tt ?_;refine nb o fun CT H o=>?_
       have o : A9 H0 H ((CT,.cells 12 Ey 0)::(id,s.obj)::(Ba,.cells 12 Ey 0)::(m1.1.1,.cells 1 (m1.1.2.map iI) 0)::(m1.2.1,.cells 1 (m1.2.2.map iI) 0)::(m2.1.1,.cells 1 (m2.1.2.map iI) 0)::(m2.2.1,.cells 1 (m2.2.2.map iI) 0)::(B1,.cells 13 Af 0)::l):=o
       have o : A9 H0 H ((id,s.obj)::(CT,.cells 12 Ey 0)::(Ba,.cells 12 Ey 0)::(m1.1.1,.cells 1 (m1.1.2.map iI) 0)::(m1.2.1,.cells 1 (m1.2.2.map iI) 0)::(m2.1.1,.cells 1 (m2.1.2.map iI) 0)::(m2.2.1,.cells 1 (m2.2.2.map iI) 0)::(B1,.cells 13 Af 0)::l):=o.pm;refine tt ?_
       have o : A9 H0 H ((Ba,.cells 12 Ey 0)::(id,s.obj)::(CT,.cells 12 Ey 0)::(m1.1.1,.cells 1 (m1.1.2.map iI) 0)::(m1.2.1,.cells 1 (m1.2.2.map iI) 0)::(m2.1.1,.cells 1 (m2.1.2.map iI) 0)::(m2.2.1,.cells 1 (m2.2.2.map iI) 0)::(B1,.cells 13 Af 0)::l):=o.pm;refine AS o (by simp [Ey]) (by (try simp only [go_sem]); (try simp)) (by first | (simp only [go_sem]; done) | ((try simp only [go_sem]); simp [AV.one,Ay])) fun H o=>?_
       have o : A9 H0 H ((Ba,.cells 12 (EZ c d1 m1).cells 0)::(id,s.obj)::(CT,.cells 12 Ey 0)::(m1.1.1,.cells 1 (m1.1.2.map iI) 0)::(m1.2.1,.cells 1 (m1.2.2.map iI) 0)::(m2.1.1,.cells 1 (m2.1.2.map iI) 0)::(m2.2.1,.cells 1 (m2.2.2.map iI) 0)::(B1,.cells 13 Af 0)::l):=o;refine tt ?_
       have o : A9 H0 H ((CT,.cells 12 Ey 0)::(Ba,.cells 12 (EZ c d1 m1).cells 0)::(id,s.obj)::(m1.1.1,.cells 1 (m1.1.2.map iI) 0)::(m1.2.1,.cells 1 (m1.2.2.map iI) 0)::(m2.1.1,.cells 1 (m2.1.2.map iI) 0)::(m2.2.1,.cells 1 (m2.2.2.map iI) 0)::(B1,.cells 13 Af 0)::l):=o.pm;refine AS o (by simp [Ey]) (by (try simp only [go_sem]); (try simp)) (by first | (simp only [go_sem]; done) | ((try simp only [go_sem]); simp [AV.one,Ay])) fun H o=>?_
       have o : A9 H0 H ((CT,.cells 12 (EZ c d2 m2).cells 0)::(Ba,.cells 12 (EZ c d1 m1).cells 0)::(id,s.obj)::(m1.1.1,.cells 1 (m1.1.2.map iI) 0)::(m1.2.1,.cells 1 (m1.2.2.map iI) 0)::(m2.1.1,.cells 1 (m2.1.2.map iI) 0)::(m2.2.1,.cells 1 (m2.2.2.map iI) 0)::(B1,.cells 13 Af 0)::l):=o;refine tt ?_;exact AX ⟨s,Ba,CT,d1,d2,m1,m2,rfl,hs,⟨QN,HW,Ow⟩,⟨MQ,ib,aX⟩,(show A9 H0 H ((Ba,.cells 12 (EZ c d1 m1).cells 0)::(m1.1.1,.cells 1 (m1.1.2.map iI) 0)::(m1.2.1,.cells 1 (m1.2.2.map iI) 0)::(CT,.cells 12 (EZ c d2 m2).cells 0)::(m2.1.1,.cells 1 (m2.1.2.map iI) 0)::(m2.2.1,.cells 1 (m2.2.2.map iI) 0)::(id,s.obj)::(B1,.cells 13 Af 0)::l) from o.pm)⟩
      ·
       refine nb o fun CT H o=>?_
       have o : A9 H0 H ((CT,.cells 12 Ey 0)::(id,s.obj)::(Ba,.cells 12 Ey 0)::(m1.1.1,.cells 1 (m1.1.2.map iI) 0)::(m1.2.1,.cells 1 (m1.2.2.map iI) 0)::(B1,.cells 13 Af 0)::l):=o
       have o : A9 H0 H ((id,s.obj)::(CT,.cells 12 Ey 0)::(Ba,.cells 12 Ey 0)::(m1.1.1,.cells 1 (m1.1.2.map iI) 0)::(m1.2.1,.cells 1 (m1.2.2.map iI) 0)::(B1,.cells 13 Af 0)::l):=o.pm;refine tt ?_;refine (Bu B Pe hc 3 8).IE hs o fun r s p H _ ⟨d2,⟨O5,MQ⟩,m2,e,e2,ib,aX⟩ hs o hz=>⟨hz, ?_⟩;subst e e2;rw [VH] at o
       have o : A9 H0 H ((id,s.obj)::(CT,.cells 12 Ey 0)::(Ba,.cells 12 Ey 0)::(m1.1.1,.cells 1 (m1.1.2.map iI) 0)::(m1.2.1,.cells 1 (m1.2.2.map iI) 0)::(m2.1.1,.cells 1 (m2.1.2.map iI) 0)::(m2.2.1,.cells 1 (m2.2.2.map iI) 0)::(B1,.cells 13 Af 0)::l):=o.pm;refine tt ?_
       have o : A9 H0 H ((Ba,.cells 12 Ey 0)::(id,s.obj)::(CT,.cells 12 Ey 0)::(m1.1.1,.cells 1 (m1.1.2.map iI) 0)::(m1.2.1,.cells 1 (m1.2.2.map iI) 0)::(m2.1.1,.cells 1 (m2.1.2.map iI) 0)::(m2.2.1,.cells 1 (m2.2.2.map iI) 0)::(B1,.cells 13 Af 0)::l):=o.pm;refine AS o (by simp [Ey]) (by (try simp only [go_sem]); (try simp)) (by first | (simp only [go_sem]; done) | ((try simp only [go_sem]); simp [AV.one,Ay])) fun H o=>?_
       have o : A9 H0 H ((Ba,.cells 12 (EZ c d1 m1).cells 0)::(id,s.obj)::(CT,.cells 12 Ey 0)::(m1.1.1,.cells 1 (m1.1.2.map iI) 0)::(m1.2.1,.cells 1 (m1.2.2.map iI) 0)::(m2.1.1,.cells 1 (m2.1.2.map iI) 0)::(m2.2.1,.cells 1 (m2.2.2.map iI) 0)::(B1,.cells 13 Af 0)::l):=o;refine tt ?_
       have o : A9 H0 H ((CT,.cells 12 Ey 0)::(Ba,.cells 12 (EZ c d1 m1).cells 0)::(id,s.obj)::(m1.1.1,.cells 1 (m1.1.2.map iI) 0)::(m1.2.1,.cells 1 (m1.2.2.map iI) 0)::(m2.1.1,.cells 1 (m2.1.2.map iI) 0)::(m2.2.1,.cells 1 (m2.2.2.map iI) 0)::(B1,.cells 13 Af 0)::l):=o.pm;refine AS o (by simp [Ey]) (by (try simp only [go_sem]); (try simp)) (by first | (simp only [go_sem]; done) | ((try simp only [go_sem]); simp [AV.one,Ay])) fun H o=>?_
       have o : A9 H0 H ((CT,.cells 12 (EZ c d2 m2).cells 0)::(Ba,.cells 12 (EZ c d1 m1).cells 0)::(id,s.obj)::(m1.1.1,.cells 1 (m1.1.2.map iI) 0)::(m1.2.1,.cells 1 (m1.2.2.map iI) 0)::(m2.1.1,.cells 1 (m2.1.2.map iI) 0)::(m2.2.1,.cells 1 (m2.2.2.map iI) 0)::(B1,.cells 13 Af 0)::l):=o;refine tt ?_;exact AX ⟨s,Ba,CT,d1,d2,m1,m2,rfl,hs,⟨QN,HW,Ow⟩,⟨MQ,ib,aX⟩,(show A9 H0 H ((Ba,.cells 12 (EZ c d1 m1).cells 0)::(m1.1.1,.cells 1 (m1.1.2.map iI) 0)::(m1.2.1,.cells 1 (m1.2.2.map iI) 0)::(CT,.cells 12 (EZ c d2 m2).cells 0)::(m2.1.1,.cells 1 (m2.1.2.map iI) 0)::(m2.2.1,.cells 1 (m2.2.2.map iI) 0)::(id,s.obj)::(B1,.cells 13 Af 0)::l) from o.pm)⟩
     ·
      refine nb o fun CT H o=>?_
      have o : A9 H0 H ((CT,.cells 12 Ey 0)::(id,s.obj)::(m1.1.1,.cells 1 (m1.1.2.map iI) 0)::(m1.2.1,.cells 1 (m1.2.2.map iI) 0)::(B1,.cells 13 Af 0)::l):=o
      have o : A9 H0 H ((id,s.obj)::(CT,.cells 12 Ey 0)::(m1.1.1,.cells 1 (m1.1.2.map iI) 0)::(m1.2.1,.cells 1 (m1.2.2.map iI) 0)::(B1,.cells 13 Af 0)::l):=o.pm;refine tt ?_;refine ⟨?_, ?_⟩
      ·
       refine (Bu B Pe hc 3 8).IE hs o fun r s p H _ ⟨d2,⟨O5,MQ⟩,m2,e,e2,ib,aX⟩ hs o hz=>⟨hz, ?_⟩;subst e e2;rw [VH] at o
       have o : A9 H0 H ((id,s.obj)::(CT,.cells 12 Ey 0)::(m1.1.1,.cells 1 (m1.1.2.map iI) 0)::(m1.2.1,.cells 1 (m1.2.2.map iI) 0)::(m2.1.1,.cells 1 (m2.1.2.map iI) 0)::(m2.2.1,.cells 1 (m2.2.2.map iI) 0)::(B1,.cells 13 Af 0)::l):=o.pm;refine tt ?_;refine nb o fun Ba H o=>?_
       have o : A9 H0 H ((Ba,.cells 12 Ey 0)::(id,s.obj)::(CT,.cells 12 Ey 0)::(m1.1.1,.cells 1 (m1.1.2.map iI) 0)::(m1.2.1,.cells 1 (m1.2.2.map iI) 0)::(m2.1.1,.cells 1 (m2.1.2.map iI) 0)::(m2.2.1,.cells 1 (m2.2.2.map iI) 0)::(B1,.cells 13 Af 0)::l):=o
       have o : A9 H0 H ((id,s.obj)::(Ba,.cells 12 Ey 0)::(CT,.cells 12 Ey 0)::(m1.1.1,.cells 1 (m1.1.2.map iI) 0)::(m1.2.1,.cells 1 (m1.2.2.map iI) 0)::(m2.1.1,.cells 1 (m2.1.2.map iI) 0)::(m2.2.1,.cells 1 (m2.2.2.map iI) 0)::(B1,.cells 13 Af 0)::l):=o.pm;refine tt ?_
       have o : A9 H0 H ((Ba,.cells 12 Ey 0)::(id,s.obj)::(CT,.cells 12 Ey 0)::(m1.1.1,.cells 1 (m1.1.2.map iI) 0)::(m1.2.1,.cells 1 (m1.2.2.map iI) 0)::(m2.1.1,.cells 1 (m2.1.2.map iI) 0)::(m2.2.1,.cells 1 (m2.2.2.map iI) 0)::(B1,.cells 13 Af 0)::l):=o.pm;refine AS o (by simp [Ey]) (by (try simp only [go_sem]); (try simp)) (by first | (simp only [go_sem]; done) | ((try simp only [go_sem]); simp [AV.one,Ay])) fun H o=>?_
       have o : A9 H0 H ((Ba,.cells 12 (EZ c d1 m1).cells 0)::(id,s.obj)::(CT,.cells 12 Ey 0)::(m1.1.1,.cells 1 (m1.1.2.map iI) 0)::(m1.2.1,.cells 1 (m1.2.2.map iI) 0)::(m2.1.1,.cells 1 (m2.1.2.map iI) 0)::(m2.2.1,.cells 1 (m2.2.2.map iI) 0)::(B1,.cells 13 Af 0)::l):=o;refine tt ?_
       have o : A9 H0 H ((CT,.cells 12 Ey 0)::(Ba,.cells 12 (EZ c d1 m1).cells 0)::(id,s.obj)::(m1.1.1,.cells 1 (m1.1.2.map iI) 0)::(m1.2.1,.cells 1 (m1.2.2.map iI) 0)::(m2.1.1,.cells 1 (m2.1.2.map iI) 0)::(m2.2.1,.cells 1 (m2.2.2.map iI) 0)::(B1,.cells 13 Af 0)::l):=o.pm;refine AS o (by simp [Ey]) (by (try simp only [go_sem]); (try simp)) (by first | (simp only [go_sem]; done) | ((try simp only [go_sem]); simp [AV.one,Ay])) fun H o=>?_
       have o : A9 H0 H ((CT,.cells 12 (EZ c d2 m2).cells 0)::(Ba,.cells 12 (EZ c d1 m1).cells 0)::(id,s.obj)::(m1.1.1,.cells 1 (m1.1.2.map iI) 0)::(m1.2.1,.cells 1 (m1.2.2.map iI) 0)::(m2.1.1,.cells 1 (m2.1.2.map iI) 0)::(m2.2.1,.cells 1 (m2.2.2.map iI) 0)::(B1,.cells 13 Af 0)::l):=o;refine tt ?_;exact AX ⟨s,Ba,CT,d1,d2,m1,m2,rfl,hs,⟨QN,HW,Ow⟩,⟨MQ,ib,aX⟩,(show A9 H0 H ((Ba,.cells 12 (EZ c d1 m1).cells 0)::(m1.1.1,.cells 1 (m1.1.2.map iI) 0)::(m1.2.1,.cells 1 (m1.2.2.map iI) 0)::(CT,.cells 12 (EZ c d2 m2).cells 0)::(m2.1.1,.cells 1 (m2.1.2.map iI) 0)::(m2.2.1,.cells 1 (m2.2.2.map iI) 0)::(id,s.obj)::(B1,.cells 13 Af 0)::l) from o.pm)⟩
      ·
       refine nb o fun Ba H o=>?_
       have o : A9 H0 H ((Ba,.cells 12 Ey 0)::(id,s.obj)::(CT,.cells 12 Ey 0)::(m1.1.1,.cells 1 (m1.1.2.map iI) 0)::(m1.2.1,.cells 1 (m1.2.2.map iI) 0)::(B1,.cells 13 Af 0)::l):=o
       have o : A9 H0 H ((id,s.obj)::(Ba,.cells 12 Ey 0)::(CT,.cells 12 Ey 0)::(m1.1.1,.cells 1 (m1.1.2.map iI) 0)::(m1.2.1,.cells 1 (m1.2.2.map iI) 0)::(B1,.cells 13 Af 0)::l):=o.pm;refine tt ?_;refine (Bu B Pe hc 3 8).IE hs o fun r s p H _ ⟨d2,⟨O5,MQ⟩,m2,e,e2,ib,aX⟩ hs o hz=>⟨hz, ?_⟩;subst e e2;rw [VH] at o
       have o : A9 H0 H ((id,s.obj)::(Ba,.cells 12 Ey 0)::(CT,.cells 12 Ey 0)::(m1.1.1,.cells 1 (m1.1.2.map iI) 0)::(m1.2.1,.cells 1 (m1.2.2.map iI) 0)::(m2.1.1,.cells 1 (m2.1.2.map iI) 0)::(m2.2.1,.cells 1 (m2.2.2.map iI) 0)::(B1,.cells 13 Af 0)::l):=o.pm;refine tt ?_
       have o : A9 H0 H ((Ba,.cells 12 Ey 0)::(id,s.obj)::(CT,.cells 12 Ey 0)::(m1.1.1,.cells 1 (m1.1.2.map iI) 0)::(m1.2.1,.cells 1 (m1.2.2.map iI) 0)::(m2.1.1,.cells 1 (m2.1.2.map iI) 0)::(m2.2.1,.cells 1 (m2.2.2.map iI) 0)::(B1,.cells 13 Af 0)::l):=o.pm;refine AS o (by simp [Ey]) (by (try simp only [go_sem]); (try simp)) (by first | (simp only [go_sem]; done) | ((try simp only [go_sem]); simp [AV.one,Ay])) fun H o=>?_
       have o : A9 H0 H ((Ba,.cells 12 (EZ c d1 m1).cells 0)::(id,s.obj)::(CT,.cells 12 Ey 0)::(m1.1.1,.cells 1 (m1.1.2.map iI) 0)::(m1.2.1,.cells 1 (m1.2.2.map iI) 0)::(m2.1.1,.cells 1 (m2.1.2.map iI) 0)::(m2.2.1,.cells 1 (m2.2.2.map iI) 0)::(B1,.cells 13 Af 0)::l):=o;refine tt ?_
       have o : A9 H0 H ((CT,.cells 12 Ey 0)::(Ba,.cells 12 (EZ c d1 m1).cells 0)::(id,s.obj)::(m1.1.1,.cells 1 (m1.1.2.map iI) 0)::(m1.2.1,.cells 1 (m1.2.2.map iI) 0)::(m2.1.1,.cells 1 (m2.1.2.map iI) 0)::(m2.2.1,.cells 1 (m2.2.2.map iI) 0)::(B1,.cells 13 Af 0)::l):=o.pm;refine AS o (by simp [Ey]) (by (try simp only [go_sem]); (try simp)) (by first | (simp only [go_sem]; done) | ((try simp only [go_sem]); simp [AV.one,Ay])) fun H o=>?_
       have o : A9 H0 H ((CT,.cells 12 (EZ c d2 m2).cells 0)::(Ba,.cells 12 (EZ c d1 m1).cells 0)::(id,s.obj)::(m1.1.1,.cells 1 (m1.1.2.map iI) 0)::(m1.2.1,.cells 1 (m1.2.2.map iI) 0)::(m2.1.1,.cells 1 (m2.1.2.map iI) 0)::(m2.2.1,.cells 1 (m2.2.2.map iI) 0)::(B1,.cells 13 Af 0)::l):=o;refine tt ?_;exact AX ⟨s,Ba,CT,d1,d2,m1,m2,rfl,hs,⟨QN,HW,Ow⟩,⟨MQ,ib,aX⟩,(show A9 H0 H ((Ba,.cells 12 (EZ c d1 m1).cells 0)::(m1.1.1,.cells 1 (m1.1.2.map iI) 0)::(m1.2.1,.cells 1 (m1.2.2.map iI) 0)::(CT,.cells 12 (EZ c d2 m2).cells 0)::(m2.1.1,.cells 1 (m2.1.2.map iI) 0)::(m2.2.1,.cells 1 (m2.2.2.map iI) 0)::(id,s.obj)::(B1,.cells 13 Af 0)::l) from o.pm)⟩
    ·
     refine nb o fun Ba H o=>?_
     have o : A9 H0 H ((Ba,.cells 12 Ey 0)::(id,s.obj)::(B1,.cells 13 Af 0)::l):=o
     have o : A9 H0 H ((id,s.obj)::(Ba,.cells 12 Ey 0)::(B1,.cells 13 Af 0)::l):=o.pm;refine tt ?_;refine ⟨?_, ?_⟩
     ·
      refine (Bu B Pe hc 3 8).IE hs o fun r s p H _ ⟨d1,⟨oD,QN⟩,m1,e,e2,HW,Ow⟩ hs o hz=>⟨hz, ?_⟩;subst e e2;rw [VH] at o
      have o : A9 H0 H ((id,s.obj)::(Ba,.cells 12 Ey 0)::(m1.1.1,.cells 1 (m1.1.2.map iI) 0)::(m1.2.1,.cells 1 (m1.2.2.map iI) 0)::(B1,.cells 13 Af 0)::l):=o.pm;refine tt ?_;refine ⟨?_, ?_⟩
      ·
       refine (Bu B Pe hc 3 8).IE hs o fun r s p H _ ⟨d2,⟨O5,MQ⟩,m2,e,e2,ib,aX⟩ hs o hz=>⟨hz, ?_⟩;subst e e2;rw [VH] at o
       have o : A9 H0 H ((id,s.obj)::(Ba,.cells 12 Ey 0)::(m1.1.1,.cells 1 (m1.1.2.map iI) 0)::(m1.2.1,.cells 1 (m1.2.2.map iI) 0)::(m2.1.1,.cells 1 (m2.1.2.map iI) 0)::(m2.2.1,.cells 1 (m2.2.2.map iI) 0)::(B1,.cells 13 Af 0)::l):=o.pm;refine tt ?_;refine nb o fun CT H o=>?_
       have o : A9 H0 H ((CT,.cells 12 Ey 0)::(id,s.obj)::(Ba,.cells 12 Ey 0)::(m1.1.1,.cells 1 (m1.1.2.map iI) 0)::(m1.2.1,.cells 1 (m1.2.2.map iI) 0)::(m2.1.1,.cells 1 (m2.1.2.map iI) 0)::(m2.2.1,.cells 1 (m2.2.2.map iI) 0)::(B1,.cells 13 Af 0)::l):=o
       have o : A9 H0 H ((id,s.obj)::(CT,.cells 12 Ey 0)::(Ba,.cells 12 Ey 0)::(m1.1.1,.cells 1 (m1.1.2.map iI) 0)::(m1.2.1,.cells 1 (m1.2.2.map iI) 0)::(m2.1.1,.cells 1 (m2.1.2.map iI) 0)::(m2.2.1,.cells 1 (m2.2.2.map iI) 0)::(B1,.cells 13 Af 0)::l):=o.pm;refine tt ?_
       have o : A9 H0 H ((Ba,.cells 12 Ey 0)::(id,s.obj)::(CT,.cells 12 Ey 0)::(m1.1.1,.cells 1 (m1.1.2.map iI) 0)::(m1.2.1,.cells 1 (m1.2.2.map iI) 0)::(m2.1.1,.cells 1 (m2.1.2.map iI) 0)::(m2.2.1,.cells 1 (m2.2.2.map iI) 0)::(B1,.cells 13 Af 0)::l):=o.pm;refine AS o (by simp [Ey]) (by (try simp only [go_sem]); (try simp)) (by first | (simp only [go_sem]; done) | ((try simp only [go_sem]); simp [AV.one,Ay])) fun H o=>?_
       have o : A9 H0 H ((Ba,.cells 12 (EZ c d1 m1).cells 0)::(id,s.obj)::(CT,.cells 12 Ey 0)::(m1.1.1,.cells 1 (m1.1.2.map iI) 0)::(m1.2.1,.cells 1 (m1.2.2.map iI) 0)::(m2.1.1,.cells 1 (m2.1.2.map iI) 0)::(m2.2.1,.cells 1 (m2.2.2.map iI) 0)::(B1,.cells 13 Af 0)::l):=o;refine tt ?_
       have o : A9 H0 H ((CT,.cells 12 Ey 0)::(Ba,.cells 12 (EZ c d1 m1).cells 0)::(id,s.obj)::(m1.1.1,.cells 1 (m1.1.2.map iI) 0)::(m1.2.1,.cells 1 (m1.2.2.map iI) 0)::(m2.1.1,.cells 1 (m2.1.2.map iI) 0)::(m2.2.1,.cells 1 (m2.2.2.map iI) 0)::(B1,.cells 13 Af 0)::l):=o.pm;refine AS o (by simp [Ey]) (by (try simp only [go_sem]); (try simp)) (by first | (simp only [go_sem]; done) | ((try simp only [go_sem]); simp [AV.one,Ay])) fun H o=>?_
       have o : A9 H0 H ((CT,.cells 12 (EZ c d2 m2).cells 0)::(Ba,.cells 12 (EZ c d1 m1).cells 0)::(id,s.obj)::(m1.1.1,.cells 1 (m1.1.2.map iI) 0)::(m1.2.1,.cells 1 (m1.2.2.map iI) 0)::(m2.1.1,.cells 1 (m2.1.2.map iI) 0)::(m2.2.1,.cells 1 (m2.2.2.map iI) 0)::(B1,.cells 13 Af 0)::l):=o;refine tt ?_;exact AX ⟨s,Ba,CT,d1,d2,m1,m2,rfl,hs,⟨QN,HW,Ow⟩,⟨MQ,ib,aX⟩,(show A9 H0 H ((Ba,.cells 12 (EZ c d1 m1).cells 0)::(m1.1.1,.cells 1 (m1.1.2.map iI) 0)::(m1.2.1,.cells 1 (m1.2.2.map iI) 0)::(CT,.cells 12 (EZ c d2 m2).cells 0)::(m2.1.1,.cells 1 (m2.1.2.map iI) 0)::(m2.2.1,.cells 1 (m2.2.2.map iI) 0)::(id,s.obj)::(B1,.cells 13 Af 0)::l) from o.pm)⟩
      ·
       refine nb o fun CT H o=>?_
       have o : A9 H0 H ((CT,.cells 12 Ey 0)::(id,s.obj)::(Ba,.cells 12 Ey 0)::(m1.1.1,.cells 1 (m1.1.2.map iI) 0)::(m1.2.1,.cells 1 (m1.2.2.map iI) 0)::(B1,.cells 13 Af 0)::l):=o
       have o : A9 H0 H ((id,s.obj)::(CT,.cells 12 Ey 0)::(Ba,.cells 12 Ey 0)::(m1.1.1,.cells 1 (m1.1.2.map iI) 0)::(m1.2.1,.cells 1 (m1.2.2.map iI) 0)::(B1,.cells 13 Af 0)::l):=o.pm;refine tt ?_;refine (Bu B Pe hc 3 8).IE hs o fun r s p H _ ⟨d2,⟨O5,MQ⟩,m2,e,e2,ib,aX⟩ hs o hz=>⟨hz, ?_⟩;subst e e2;rw [VH] at o
       have o : A9 H0 H ((id,s.obj)::(CT,.cells 12 Ey 0)::(Ba,.cells 12 Ey 0)::(m1.1.1,.cells 1 (m1.1.2.map iI) 0)::(m1.2.1,.cells 1 (m1.2.2.map iI) 0)::(m2.1.1,.cells 1 (m2.1.2.map iI) 0)::(m2.2.1,.cells 1 (m2.2.2.map iI) 0)::(B1,.cells 13 Af 0)::l):=o.pm;refine tt ?_
       have o : A9 H0 H ((Ba,.cells 12 Ey 0)::(id,s.obj)::(CT,.cells 12 Ey 0)::(m1.1.1,.cells 1 (m1.1.2.map iI) 0)::(m1.2.1,.cells 1 (m1.2.2.map iI) 0)::(m2.1.1,.cells 1 (m2.1.2.map iI) 0)::(m2.2.1,.cells 1 (m2.2.2.map iI) 0)::(B1,.cells 13 Af 0)::l):=o.pm;refine AS o (by simp [Ey]) (by (try simp only [go_sem]); (try simp)) (by first | (simp only [go_sem]; done) | ((try simp only [go_sem]); simp [AV.one,Ay])) fun H o=>?_
       have o : A9 H0 H ((Ba,.cells 12 (EZ c d1 m1).cells 0)::(id,s.obj)::(CT,.cells 12 Ey 0)::(m1.1.1,.cells 1 (m1.1.2.map iI) 0)::(m1.2.1,.cells 1 (m1.2.2.map iI) 0)::(m2.1.1,.cells 1 (m2.1.2.map iI) 0)::(m2.2.1,.cells 1 (m2.2.2.map iI) 0)::(B1,.cells 13 Af 0)::l):=o;refine tt ?_
       have o : A9 H0 H ((CT,.cells 12 Ey 0)::(Ba,.cells 12 (EZ c d1 m1).cells 0)::(id,s.obj)::(m1.1.1,.cells 1 (m1.1.2.map iI) 0)::(m1.2.1,.cells 1 (m1.2.2.map iI) 0)::(m2.1.1,.cells 1 (m2.1.2.map iI) 0)::(m2.2.1,.cells 1 (m2.2.2.map iI) 0)::(B1,.cells 13 Af 0)::l):=o.pm;refine AS o (by simp [Ey]) (by (try simp only [go_sem]); (try simp)) (by first | (simp only [go_sem]; done) | ((try simp only [go_sem]); simp [AV.one,Ay])) fun H o=>?_
       have o : A9 H0 H ((CT,.cells 12 (EZ c d2 m2).cells 0)::(Ba,.cells 12 (EZ c d1 m1).cells 0)::(id,s.obj)::(m1.1.1,.cells 1 (m1.1.2.map iI) 0)::(m1.2.1,.cells 1 (m1.2.2.map iI) 0)::(m2.1.1,.cells 1 (m2.1.2.map iI) 0)::(m2.2.1,.cells 1 (m2.2.2.map iI) 0)::(B1,.cells 13 Af 0)::l):=o;refine tt ?_;exact AX ⟨s,Ba,CT,d1,d2,m1,m2,rfl,hs,⟨QN,HW,Ow⟩,⟨MQ,ib,aX⟩,(show A9 H0 H ((Ba,.cells 12 (EZ c d1 m1).cells 0)::(m1.1.1,.cells 1 (m1.1.2.map iI) 0)::(m1.2.1,.cells 1 (m1.2.2.map iI) 0)::(CT,.cells 12 (EZ c d2 m2).cells 0)::(m2.1.1,.cells 1 (m2.1.2.map iI) 0)::(m2.2.1,.cells 1 (m2.2.2.map iI) 0)::(id,s.obj)::(B1,.cells 13 Af 0)::l) from o.pm)⟩
     ·
      refine nb o fun CT H o=>?_
      have o : A9 H0 H ((CT,.cells 12 Ey 0)::(id,s.obj)::(Ba,.cells 12 Ey 0)::(B1,.cells 13 Af 0)::l):=o
      have o : A9 H0 H ((id,s.obj)::(CT,.cells 12 Ey 0)::(Ba,.cells 12 Ey 0)::(B1,.cells 13 Af 0)::l):=o.pm;refine tt ?_;refine (Bu B Pe hc 3 8).IE hs o fun r s p H _ ⟨d1,⟨oD,QN⟩,m1,e,e2,HW,Ow⟩ hs o hz=>⟨hz, ?_⟩;subst e e2;rw [VH] at o
      have o : A9 H0 H ((id,s.obj)::(CT,.cells 12 Ey 0)::(Ba,.cells 12 Ey 0)::(m1.1.1,.cells 1 (m1.1.2.map iI) 0)::(m1.2.1,.cells 1 (m1.2.2.map iI) 0)::(B1,.cells 13 Af 0)::l):=o.pm;refine tt ?_;refine (Bu B Pe hc 3 8).IE hs o fun r s p H _ ⟨d2,⟨O5,MQ⟩,m2,e,e2,ib,aX⟩ hs o hz=>⟨hz, ?_⟩;subst e e2;rw [VH] at o
      have o : A9 H0 H ((id,s.obj)::(CT,.cells 12 Ey 0)::(Ba,.cells 12 Ey 0)::(m1.1.1,.cells 1 (m1.1.2.map iI) 0)::(m1.2.1,.cells 1 (m1.2.2.map iI) 0)::(m2.1.1,.cells 1 (m2.1.2.map iI) 0)::(m2.2.1,.cells 1 (m2.2.2.map iI) 0)::(B1,.cells 13 Af 0)::l):=o.pm;refine tt ?_
      have o : A9 H0 H ((Ba,.cells 12 Ey 0)::(id,s.obj)::(CT,.cells 12 Ey 0)::(m1.1.1,.cells 1 (m1.1.2.map iI) 0)::(m1.2.1,.cells 1 (m1.2.2.map iI) 0)::(m2.1.1,.cells 1 (m2.1.2.map iI) 0)::(m2.2.1,.cells 1 (m2.2.2.map iI) 0)::(B1,.cells 13 Af 0)::l):=o.pm;refine AS o (by simp [Ey]) (by (try simp only [go_sem]); (try simp)) (by first | (simp only [go_sem]; done) | ((try simp only [go_sem]); simp [AV.one,Ay])) fun H o=>?_
      have o : A9 H0 H ((Ba,.cells 12 (EZ c d1 m1).cells 0)::(id,s.obj)::(CT,.cells 12 Ey 0)::(m1.1.1,.cells 1 (m1.1.2.map iI) 0)::(m1.2.1,.cells 1 (m1.2.2.map iI) 0)::(m2.1.1,.cells 1 (m2.1.2.map iI) 0)::(m2.2.1,.cells 1 (m2.2.2.map iI) 0)::(B1,.cells 13 Af 0)::l):=o;refine tt ?_
      have o : A9 H0 H ((CT,.cells 12 Ey 0)::(Ba,.cells 12 (EZ c d1 m1).cells 0)::(id,s.obj)::(m1.1.1,.cells 1 (m1.1.2.map iI) 0)::(m1.2.1,.cells 1 (m1.2.2.map iI) 0)::(m2.1.1,.cells 1 (m2.1.2.map iI) 0)::(m2.2.1,.cells 1 (m2.2.2.map iI) 0)::(B1,.cells 13 Af 0)::l):=o.pm;refine AS o (by simp [Ey]) (by (try simp only [go_sem]); (try simp)) (by first | (simp only [go_sem]; done) | ((try simp only [go_sem]); simp [AV.one,Ay])) fun H o=>?_
      have o : A9 H0 H ((CT,.cells 12 (EZ c d2 m2).cells 0)::(Ba,.cells 12 (EZ c d1 m1).cells 0)::(id,s.obj)::(m1.1.1,.cells 1 (m1.1.2.map iI) 0)::(m1.2.1,.cells 1 (m1.2.2.map iI) 0)::(m2.1.1,.cells 1 (m2.1.2.map iI) 0)::(m2.2.1,.cells 1 (m2.2.2.map iI) 0)::(B1,.cells 13 Af 0)::l):=o;refine tt ?_;exact AX ⟨s,Ba,CT,d1,d2,m1,m2,rfl,hs,⟨QN,HW,Ow⟩,⟨MQ,ib,aX⟩,(show A9 H0 H ((Ba,.cells 12 (EZ c d1 m1).cells 0)::(m1.1.1,.cells 1 (m1.1.2.map iI) 0)::(m1.2.1,.cells 1 (m1.2.2.map iI) 0)::(CT,.cells 12 (EZ c d2 m2).cells 0)::(m2.1.1,.cells 1 (m2.1.2.map iI) 0)::(m2.2.1,.cells 1 (m2.2.2.map iI) 0)::(id,s.obj)::(B1,.cells 13 Af 0)::l) from o.pm)⟩
    ·
     refine nb o fun CT H o=>?_
     have o : A9 H0 H ((CT,.cells 12 Ey 0)::(id,s.obj)::(B1,.cells 13 Af 0)::l):=o
     have o : A9 H0 H ((id,s.obj)::(CT,.cells 12 Ey 0)::(B1,.cells 13 Af 0)::l):=o.pm;refine tt ?_;refine ⟨?_, ?_⟩
     ·
      refine (Bu B Pe hc 3 8).IE hs o fun r s p H _ ⟨d1,⟨oD,QN⟩,m1,e,e2,HW,Ow⟩ hs o hz=>⟨hz, ?_⟩;subst e e2;rw [VH] at o
      have o : A9 H0 H ((id,s.obj)::(CT,.cells 12 Ey 0)::(m1.1.1,.cells 1 (m1.1.2.map iI) 0)::(m1.2.1,.cells 1 (m1.2.2.map iI) 0)::(B1,.cells 13 Af 0)::l):=o.pm;refine tt ?_;refine ⟨?_, ?_⟩
      ·
       refine (Bu B Pe hc 3 8).IE hs o fun r s p H _ ⟨d2,⟨O5,MQ⟩,m2,e,e2,ib,aX⟩ hs o hz=>⟨hz, ?_⟩;subst e e2;rw [VH] at o
       have o : A9 H0 H ((id,s.obj)::(CT,.cells 12 Ey 0)::(m1.1.1,.cells 1 (m1.1.2.map iI) 0)::(m1.2.1,.cells 1 (m1.2.2.map iI) 0)::(m2.1.1,.cells 1 (m2.1.2.map iI) 0)::(m2.2.1,.cells 1 (m2.2.2.map iI) 0)::(B1,.cells 13 Af 0)::l):=o.pm;refine tt ?_;refine nb o fun Ba H o=>?_
       have o : A9 H0 H ((Ba,.cells 12 Ey 0)::(id,s.obj)::(CT,.cells 12 Ey 0)::(m1.1.1,.cells 1 (m1.1.2.map iI) 0)::(m1.2.1,.cells 1 (m1.2.2.map iI) 0)::(m2.1.1,.cells 1 (m2.1.2.map iI) 0)::(m2.2.1,.cells 1 (m2.2.2.map iI) 0)::(B1,.cells 13 Af 0)::l):=o
       have o : A9 H0 H ((id,s.obj)::(Ba,.cells 12 Ey 0)::(CT,.cells 12 Ey 0)::(m1.1.1,.cells 1 (m1.1.2.map iI) 0)::(m1.2.1,.cells 1 (m1.2.2.map iI) 0)::(m2.1.1,.cells 1 (m2.1.2.map iI) 0)::(m2.2.1,.cells 1 (m2.2.2.map iI) 0)::(B1,.cells 13 Af 0)::l):=o.pm;refine tt ?_
       have o : A9 H0 H ((Ba,.cells 12 Ey 0)::(id,s.obj)::(CT,.cells 12 Ey 0)::(m1.1.1,.cells 1 (m1.1.2.map iI) 0)::(m1.2.1,.cells 1 (m1.2.2.map iI) 0)::(m2.1.1,.cells 1 (m2.1.2.map iI) 0)::(m2.2.1,.cells 1 (m2.2.2.map iI) 0)::(B1,.cells 13 Af 0)::l):=o.pm;refine AS o (by simp [Ey]) (by (try simp only [go_sem]); (try simp)) (by first | (simp only [go_sem]; done) | ((try simp only [go_sem]); simp [AV.one,Ay])) fun H o=>?_
       have o : A9 H0 H ((Ba,.cells 12 (EZ c d1 m1).cells 0)::(id,s.obj)::(CT,.cells 12 Ey 0)::(m1.1.1,.cells 1 (m1.1.2.map iI) 0)::(m1.2.1,.cells 1 (m1.2.2.map iI) 0)::(m2.1.1,.cells 1 (m2.1.2.map iI) 0)::(m2.2.1,.cells 1 (m2.2.2.map iI) 0)::(B1,.cells 13 Af 0)::l):=o;refine tt ?_
       have o : A9 H0 H ((CT,.cells 12 Ey 0)::(Ba,.cells 12 (EZ c d1 m1).cells 0)::(id,s.obj)::(m1.1.1,.cells 1 (m1.1.2.map iI) 0)::(m1.2.1,.cells 1 (m1.2.2.map iI) 0)::(m2.1.1,.cells 1 (m2.1.2.map iI) 0)::(m2.2.1,.cells 1 (m2.2.2.map iI) 0)::(B1,.cells 13 Af 0)::l):=o.pm;refine AS o (by simp [Ey]) (by (try simp only [go_sem]); (try simp)) (by first | (simp only [go_sem]; done) | ((try simp only [go_sem]); simp [AV.one,Ay])) fun H o=>?_
       have o : A9 H0 H ((CT,.cells 12 (EZ c d2 m2).cells 0)::(Ba,.cells 12 (EZ c d1 m1).cells 0)::(id,s.obj)::(m1.1.1,.cells 1 (m1.1.2.map iI) 0)::(m1.2.1,.cells 1 (m1.2.2.map iI) 0)::(m2.1.1,.cells 1 (m2.1.2.map iI) 0)::(m2.2.1,.cells 1 (m2.2.2.map iI) 0)::(B1,.cells 13 Af 0)::l):=o;refine tt ?_;exact AX ⟨s,Ba,CT,d1,d2,m1,m2,rfl,hs,⟨QN,HW,Ow⟩,⟨MQ,ib,aX⟩,(show A9 H0 H ((Ba,.cells 12 (EZ c d1 m1).cells 0)::(m1.1.1,.cells 1 (m1.1.2.map iI) 0)::(m1.2.1,.cells 1 (m1.2.2.map iI) 0)::(CT,.cells 12 (EZ c d2 m2).cells 0)::(m2.1.1,.cells 1 (m2.1.2.map iI) 0)::(m2.2.1,.cells 1 (m2.2.2.map iI) 0)::(id,s.obj)::(B1,.cells 13 Af 0)::l) from o.pm)⟩
      ·
       refine nb o fun Ba H o=>?_
       have o : A9 H0 H ((Ba,.cells 12 Ey 0)::(id,s.obj)::(CT,.cells 12 Ey 0)::(m1.1.1,.cells 1 (m1.1.2.map iI) 0)::(m1.2.1,.cells 1 (m1.2.2.map iI) 0)::(B1,.cells 13 Af 0)::l):=o
       have o : A9 H0 H ((id,s.obj)::(Ba,.cells 12 Ey 0)::(CT,.cells 12 Ey 0)::(m1.1.1,.cells 1 (m1.1.2.map iI) 0)::(m1.2.1,.cells 1 (m1.2.2.map iI) 0)::(B1,.cells 13 Af 0)::l):=o.pm;refine tt ?_;refine (Bu B Pe hc 3 8).IE hs o fun r s p H _ ⟨d2,⟨O5,MQ⟩,m2,e,e2,ib,aX⟩ hs o hz=>⟨hz, ?_⟩;subst e e2;rw [VH] at o
       have o : A9 H0 H ((id,s.obj)::(Ba,.cells 12 Ey 0)::(CT,.cells 12 Ey 0)::(m1.1.1,.cells 1 (m1.1.2.map iI) 0)::(m1.2.1,.cells 1 (m1.2.2.map iI) 0)::(m2.1.1,.cells 1 (m2.1.2.map iI) 0)::(m2.2.1,.cells 1 (m2.2.2.map iI) 0)::(B1,.cells 13 Af 0)::l):=o.pm;refine tt ?_
       have o : A9 H0 H ((Ba,.cells 12 Ey 0)::(id,s.obj)::(CT,.cells 12 Ey 0)::(m1.1.1,.cells 1 (m1.1.2.map iI) 0)::(m1.2.1,.cells 1 (m1.2.2.map iI) 0)::(m2.1.1,.cells 1 (m2.1.2.map iI) 0)::(m2.2.1,.cells 1 (m2.2.2.map iI) 0)::(B1,.cells 13 Af 0)::l):=o.pm;refine AS o (by simp [Ey]) (by (try simp only [go_sem]); (try simp)) (by first | (simp only [go_sem]; done) | ((try simp only [go_sem]); simp [AV.one,Ay])) fun H o=>?_
       have o : A9 H0 H ((Ba,.cells 12 (EZ c d1 m1).cells 0)::(id,s.obj)::(CT,.cells 12 Ey 0)::(m1.1.1,.cells 1 (m1.1.2.map iI) 0)::(m1.2.1,.cells 1 (m1.2.2.map iI) 0)::(m2.1.1,.cells 1 (m2.1.2.map iI) 0)::(m2.2.1,.cells 1 (m2.2.2.map iI) 0)::(B1,.cells 13 Af 0)::l):=o;refine tt ?_
       have o : A9 H0 H ((CT,.cells 12 Ey 0)::(Ba,.cells 12 (EZ c d1 m1).cells 0)::(id,s.obj)::(m1.1.1,.cells 1 (m1.1.2.map iI) 0)::(m1.2.1,.cells 1 (m1.2.2.map iI) 0)::(m2.1.1,.cells 1 (m2.1.2.map iI) 0)::(m2.2.1,.cells 1 (m2.2.2.map iI) 0)::(B1,.cells 13 Af 0)::l):=o.pm;refine AS o (by simp [Ey]) (by (try simp only [go_sem]); (try simp)) (by first | (simp only [go_sem]; done) | ((try simp only [go_sem]); simp [AV.one,Ay])) fun H o=>?_
       have o : A9 H0 H ((CT,.cells 12 (EZ c d2 m2).cells 0)::(Ba,.cells 12 (EZ c d1 m1).cells 0)::(id,s.obj)::(m1.1.1,.cells 1 (m1.1.2.map iI) 0)::(m1.2.1,.cells 1 (m1.2.2.map iI) 0)::(m2.1.1,.cells 1 (m2.1.2.map iI) 0)::(m2.2.1,.cells 1 (m2.2.2.map iI) 0)::(B1,.cells 13 Af 0)::l):=o;refine tt ?_;exact AX ⟨s,Ba,CT,d1,d2,m1,m2,rfl,hs,⟨QN,HW,Ow⟩,⟨MQ,ib,aX⟩,(show A9 H0 H ((Ba,.cells 12 (EZ c d1 m1).cells 0)::(m1.1.1,.cells 1 (m1.1.2.map iI) 0)::(m1.2.1,.cells 1 (m1.2.2.map iI) 0)::(CT,.cells 12 (EZ c d2 m2).cells 0)::(m2.1.1,.cells 1 (m2.1.2.map iI) 0)::(m2.2.1,.cells 1 (m2.2.2.map iI) 0)::(id,s.obj)::(B1,.cells 13 Af 0)::l) from o.pm)⟩
     ·
      refine nb o fun Ba H o=>?_
      have o : A9 H0 H ((Ba,.cells 12 Ey 0)::(id,s.obj)::(CT,.cells 12 Ey 0)::(B1,.cells 13 Af 0)::l):=o
      have o : A9 H0 H ((id,s.obj)::(Ba,.cells 12 Ey 0)::(CT,.cells 12 Ey 0)::(B1,.cells 13 Af 0)::l):=o.pm;refine tt ?_;refine (Bu B Pe hc 3 8).IE hs o fun r s p H _ ⟨d1,⟨oD,QN⟩,m1,e,e2,HW,Ow⟩ hs o hz=>⟨hz, ?_⟩;subst e e2;rw [VH] at o
      have o : A9 H0 H ((id,s.obj)::(Ba,.cells 12 Ey 0)::(CT,.cells 12 Ey 0)::(m1.1.1,.cells 1 (m1.1.2.map iI) 0)::(m1.2.1,.cells 1 (m1.2.2.map iI) 0)::(B1,.cells 13 Af 0)::l):=o.pm;refine tt ?_;refine (Bu B Pe hc 3 8).IE hs o fun r s p H _ ⟨d2,⟨O5,MQ⟩,m2,e,e2,ib,aX⟩ hs o hz=>⟨hz, ?_⟩;subst e e2;rw [VH] at o
      have o : A9 H0 H ((id,s.obj)::(Ba,.cells 12 Ey 0)::(CT,.cells 12 Ey 0)::(m1.1.1,.cells 1 (m1.1.2.map iI) 0)::(m1.2.1,.cells 1 (m1.2.2.map iI) 0)::(m2.1.1,.cells 1 (m2.1.2.map iI) 0)::(m2.2.1,.cells 1 (m2.2.2.map iI) 0)::(B1,.cells 13 Af 0)::l):=o.pm;refine tt ?_
      have o : A9 H0 H ((Ba,.cells 12 Ey 0)::(id,s.obj)::(CT,.cells 12 Ey 0)::(m1.1.1,.cells 1 (m1.1.2.map iI) 0)::(m1.2.1,.cells 1 (m1.2.2.map iI) 0)::(m2.1.1,.cells 1 (m2.1.2.map iI) 0)::(m2.2.1,.cells 1 (m2.2.2.map iI) 0)::(B1,.cells 13 Af 0)::l):=o.pm;refine AS o (by simp [Ey]) (by (try simp only [go_sem]); (try simp)) (by first | (simp only [go_sem]; done) | ((try simp only [go_sem]); simp [AV.one,Ay])) fun H o=>?_
      have o : A9 H0 H ((Ba,.cells 12 (EZ c d1 m1).cells 0)::(id,s.obj)::(CT,.cells 12 Ey 0)::(m1.1.1,.cells 1 (m1.1.2.map iI) 0)::(m1.2.1,.cells 1 (m1.2.2.map iI) 0)::(m2.1.1,.cells 1 (m2.1.2.map iI) 0)::(m2.2.1,.cells 1 (m2.2.2.map iI) 0)::(B1,.cells 13 Af 0)::l):=o;refine tt ?_
      have o : A9 H0 H ((CT,.cells 12 Ey 0)::(Ba,.cells 12 (EZ c d1 m1).cells 0)::(id,s.obj)::(m1.1.1,.cells 1 (m1.1.2.map iI) 0)::(m1.2.1,.cells 1 (m1.2.2.map iI) 0)::(m2.1.1,.cells 1 (m2.1.2.map iI) 0)::(m2.2.1,.cells 1 (m2.2.2.map iI) 0)::(B1,.cells 13 Af 0)::l):=o.pm;refine AS o (by simp [Ey]) (by (try simp only [go_sem]); (try simp)) (by first | (simp only [go_sem]; done) | ((try simp only [go_sem]); simp [AV.one,Ay])) fun H o=>?_
      have o : A9 H0 H ((CT,.cells 12 (EZ c d2 m2).cells 0)::(Ba,.cells 12 (EZ c d1 m1).cells 0)::(id,s.obj)::(m1.1.1,.cells 1 (m1.1.2.map iI) 0)::(m1.2.1,.cells 1 (m1.2.2.map iI) 0)::(m2.1.1,.cells 1 (m2.1.2.map iI) 0)::(m2.2.1,.cells 1 (m2.2.2.map iI) 0)::(B1,.cells 13 Af 0)::l):=o;refine tt ?_;exact AX ⟨s,Ba,CT,d1,d2,m1,m2,rfl,hs,⟨QN,HW,Ow⟩,⟨MQ,ib,aX⟩,(show A9 H0 H ((Ba,.cells 12 (EZ c d1 m1).cells 0)::(m1.1.1,.cells 1 (m1.1.2.map iI) 0)::(m1.2.1,.cells 1 (m1.2.2.map iI) 0)::(CT,.cells 12 (EZ c d2 m2).cells 0)::(m2.1.1,.cells 1 (m2.1.2.map iI) 0)::(m2.2.1,.cells 1 (m2.2.2.map iI) 0)::(id,s.obj)::(B1,.cells 13 Af 0)::l) from o.pm)⟩
   clear o hs
   rintro σ H ⟨s,Ba,CT,d1,d2,m1,m2,rfl,hs,⟨QN,HW,Ow⟩,⟨MQ,ib,aX⟩,o⟩;unfold WZ at o
   have ok1 : NV ⟨c,d1,m1.1.2,m1.2.2⟩:=⟨hc,QN,HW,Ow⟩
   have ok2 : NV ⟨c,d2,m2.1.2,m2.2.2⟩:=⟨hc,MQ,ib,aX⟩;refine tt ?_;refine eH o fun H o=>?_
   have o : A9 H0 H ((CT,.cells 12 (EZ c d2 m2).cells 0)::(m2.1.1,.cells 1 (m2.1.2.map iI) 0)::(m2.2.1,.cells 1 (m2.2.2.map iI) 0)::(Ba,.cells 12 (FU.cells ⟨c,d1,m1.1.2,m1.2.2⟩) 0)::(id,s.obj)::(B1,.cells 13 Af 0)::l):=o.pm;refine eH o fun H o=>AX ?_
   have g6 : ∀ {H : AA},A9 H0 H ((CT,.cells 12 (FU.cells ⟨c,d2,m2.1.2,m2.2.2⟩) 0)::(Ba,.cells 12 (FU.cells ⟨c,d1,m1.1.2,m1.2.2⟩) 0)::(id,s.obj)::(B1,.cells 13 Af 0)::l)→H.get Ba=some (.cells 12 (FU.cells ⟨c,d1,m1.1.2,m1.2.2⟩) 0):=fun o=>o.get (Ba,_) (.tail _ (.head _));refine tt ?_;refine VZ (g6 o) (by simp [FU.cells]) ?_;refine tt ?_;refine AO o (by simp [FU.cells]) (tt ?_);refine (Da B d1 d2).go fun _=>tt ?_
   by_cases hd : d1=d2
   ·rw [Av hd];refine tt ?_;refine VZ (g6 o) (by simp [FU.cells]) ?_;refine tt ?_;refine AO o (by simp [FU.cells]) (tt ?_);refine ID.go' (Fe B ok1 ok2 hd) o fun X p H hP o _=>?_
    have Yc:=hP
    obtain ⟨cs,rfl,RG,Ze⟩:=TI.mk' hP;refine tt ?_
    have o : A9 H0 H ([(CT,.cells 12 (FU.cells ⟨c,d2,m2.1.2,m2.2.2⟩) 0),(Ba,.cells 12 (FU.cells ⟨c,d1,m1.1.2,m1.2.2⟩) 0)]++((B1,.cells 13 Af 0)::(id,s.obj)::(p++l))):=o.pm
    have o:=o.FL (List.sublist_append_right _ _);refine AS o (by simp [Af,RG]) (by simp [RG]) Ze fun H o=>?_;rw [G8 (z:=Af) RG] at o;refine tt ?_;rw [o.rc 13 0 (by simp [RG])];refine tt ?_;exact ⟨H,.refl _,c,c,s,p,Pe,hs,by rw [List.take_of_length_le (by omega)]; exact Yc,o.tl⟩
   ·rw [Ad hd];refine tt ?_;refine VZ (g6 o) (by simp [FU.cells]) ?_;refine tt ?_;refine VZ (g6 o) (by simp [FU.cells]) ?_;refine tt ?_;refine ID.go' (Fe B ok1 ok1 rfl) o fun X p H hP o _=>?_
    have Yc:=hP
    obtain ⟨cs,rfl,RG,Ze⟩:=TI.mk' hP;refine tt ?_
    have o : A9 H0 H ([(CT,.cells 12 (FU.cells ⟨c,d2,m2.1.2,m2.2.2⟩) 0),(Ba,.cells 12 (FU.cells ⟨c,d1,m1.1.2,m1.2.2⟩) 0)]++((B1,.cells 13 Af 0)::(id,s.obj)::(p++l))):=o.pm
    have o:=o.FL (List.sublist_append_right _ _);refine AS o (by simp [Af,RG]) (by simp [RG]) Ze fun H o=>?_;rw [G8 (z:=Af) RG] at o;refine tt ?_;rw [o.rc 13 0 (by simp [RG])];refine tt ?_;exact ⟨H,.refl _,c,c,s,p,Pe,hs,by rw [List.take_of_length_le (by omega)]; exact Yc,o.tl⟩
  ·refine tt ?_;apply bk <;> intro h1
   ·refine tt ?_;refine Ai o fun Cm H o=>tt ?_;refine sw o fun H o=>?_
    have o : A9 H0 H ((id,s.obj)::(Cm,.cells 5 c.cells 0)::(B1,.cells 13 Af 0)::l):=o.swap;refine tt ?_;refine (E1 B 3 6).go hs o fun r s H _ ⟨d,e,ji,hd⟩ hs o=>?_;subst e;refine tt ?_;refine AS o.swap (by simp [Ax.cells]) (by (try simp only [go_sem]); (try simp)) (by first | (simp only [go_sem]; done) | ((try simp only [go_sem]); simp [AV.one,Ay])) fun H o=>?_
    have o : A9 H0 H ((Cm,.cells 5 d.cells 0)::(id,s.obj)::(B1,.cells 13 Af 0)::l):=o;refine tt ?_;refine ⟨_,(b7 B 40 (by omega) c (Gq hc)).run,tt ?_⟩;refine ⟨⟨_,_,o.h0⟩,AO o (by simp [Ax.cells]) ?_⟩;refine tt ?_;refine (DE B (bt c) (Ie hc) 3 (by omega)).IE hs o.swap fun r s H _ ⟨f,e,hf⟩ hs o hz=>⟨hz, ?_⟩;subst e;refine tt ?_;refine (DE B d hd 3 (by omega)).IE hs o fun r s H _ ⟨g,e,hg⟩ hs o hz=>⟨hz, ?_⟩;subst e;refine tt ?_;refine ID.go' (X7 B (Ie hc) hd hf hg) o fun X p H hP o Dw=>⟨Dw, ?_⟩
    have Yc:=hP
    obtain ⟨cs,rfl,RG,Ze⟩:=TI.mk' hP;refine tt ?_
    have o : A9 H0 H ([(Cm,.cells 5 d.cells 0)]++((B1,.cells 13 Af 0)::(id,s.obj)::(p++l))):=o.pm
    have o:=o.FL (List.sublist_append_right _ _);refine AS o (by simp [Af,RG]) (by simp [RG]) Ze fun H o=>?_;rw [G8 (z:=Af) RG] at o;refine tt ?_;rw [o.rc 13 0 (by simp [RG])];refine tt ?_;exact ⟨H,.refl _,bt (bt c),d,s,p,dL (Ie (Ie hc)),hs,by rw [List.take_of_length_le (by omega)]; exact Yc,o.tl⟩
   ·refine tt ?_;apply bk <;> intro h2
    ·refine tt ?_
     refine Qd (fun σ H=>∃ (s : Src) (ON : Nat) (cs : List AV) (cd : Int) (p : Ob),σ=[(0,some (.ref id 0)),(1,some (.bool false)),(4,some (.ref B1 0)),(5,some (.ptr c.cells)),(9,some (.ref ON 0)),(10,some (iI cd))]∧s.Ok∧(cd=0→TI c c p (.agg cs))∧(cs.length=13∧∀ c,c∈cs→c.one=true) ∧
      A9 H0 H ((id,s.obj)::(ON,.cells 13 cs 0)::(B1,.cells 13 Af 0)::(p++l))) ?_ ?_
     ·refine tt ?_;refine ⟨?_, ?_⟩
      ·
       refine (DE B c hc 2 (by omega)).IE hs o fun r s H _ ⟨f,e,hf⟩ hs o hz=>⟨hz, ?_⟩;subst e;refine tt ?_;refine ⟨?_, ?_⟩
       ·
        refine (DE B c hc 3 (by omega)).IE hs o fun r s H _ ⟨g,e,hg⟩ hs o hz=>⟨hz, ?_⟩;subst e;refine tt ?_;refine ⟨?_, ?_⟩
        ·
         refine (K4 B f g H).mono ?_
         rintro r H ⟨p,X,cd,rfl,hX,o2⟩
         obtain ⟨cs,rfl,RG,Ze,hP⟩:=P7 hf.sh hg.sh hX;refine ⟨o2.sub, ?_⟩
         have o:=o.trans o2
         have o : A9 H0 H ((id,s.obj)::(B1,.cells 13 Af 0)::(p++l)):=o.pm;refine tt ?_;refine nb o fun ON H o=>?_
         have o : A9 H0 H ((ON,.cells 13 Af 0)::(id,s.obj)::(B1,.cells 13 Af 0)::(p++l)):=o
         have o : A9 H0 H ((id,s.obj)::(ON,.cells 13 Af 0)::(B1,.cells 13 Af 0)::(p++l)):=o.pm;refine tt ?_
         have o : A9 H0 H ((ON,.cells 13 Af 0)::(id,s.obj)::(B1,.cells 13 Af 0)::(p++l)):=o.pm;refine AS o (by simp [Af,RG]) (by simp [RG]) Ze fun H o=>?_;rw [G8 (z:=Af) RG] at o;refine tt ?_;exact AX ⟨s,ON,cs,cd,p,rfl,hs,hP,⟨RG,Ze⟩,o.swap⟩
        ·
         refine nb o fun ON H o=>?_
         have o : A9 H0 H ((ON,.cells 13 Af 0)::(id,s.obj)::(B1,.cells 13 Af 0)::l):=o
         have o : A9 H0 H ((id,s.obj)::(ON,.cells 13 Af 0)::(B1,.cells 13 Af 0)::l):=o.pm;refine tt ?_;refine (K4 B f g H).mono ?_
         rintro r H ⟨p,X,cd,rfl,hX,o2⟩
         obtain ⟨cs,rfl,RG,Ze,hP⟩:=P7 hf.sh hg.sh hX;refine ⟨o2.sub, ?_⟩
         have o:=o.trans o2
         have o : A9 H0 H ((id,s.obj)::(ON,.cells 13 Af 0)::(B1,.cells 13 Af 0)::(p++l)):=o.pm;refine tt ?_
         have o : A9 H0 H ((ON,.cells 13 Af 0)::(id,s.obj)::(B1,.cells 13 Af 0)::(p++l)):=o.pm;refine AS o (by simp [Af,RG]) (by simp [RG]) Ze fun H o=>?_;rw [G8 (z:=Af) RG] at o;refine tt ?_;exact AX ⟨s,ON,cs,cd,p,rfl,hs,hP,⟨RG,Ze⟩,o.swap⟩
       ·
        refine nb o fun ON H o=>?_
        have o : A9 H0 H ((ON,.cells 13 Af 0)::(id,s.obj)::(B1,.cells 13 Af 0)::l):=o
        have o : A9 H0 H ((id,s.obj)::(ON,.cells 13 Af 0)::(B1,.cells 13 Af 0)::l):=o.pm;refine tt ?_;refine (DE B c hc 3 (by omega)).IE hs o fun r s H _ ⟨g,e,hg⟩ hs o hz=>⟨hz, ?_⟩;subst e;refine tt ?_;refine (K4 B f g H).mono ?_
        rintro r H ⟨p,X,cd,rfl,hX,o2⟩
        obtain ⟨cs,rfl,RG,Ze,hP⟩:=P7 hf.sh hg.sh hX;refine ⟨o2.sub, ?_⟩
        have o:=o.trans o2
        have o : A9 H0 H ((id,s.obj)::(ON,.cells 13 Af 0)::(B1,.cells 13 Af 0)::(p++l)):=o.pm;refine tt ?_
        have o : A9 H0 H ((ON,.cells 13 Af 0)::(id,s.obj)::(B1,.cells 13 Af 0)::(p++l)):=o.pm;refine AS o (by simp [Af,RG]) (by simp [RG]) Ze fun H o=>?_;rw [G8 (z:=Af) RG] at o;refine tt ?_;exact AX ⟨s,ON,cs,cd,p,rfl,hs,hP,⟨RG,Ze⟩,o.swap⟩
      ·
       refine nb o fun ON H o=>?_
       have o : A9 H0 H ((ON,.cells 13 Af 0)::(id,s.obj)::(B1,.cells 13 Af 0)::l):=o
       have o : A9 H0 H ((id,s.obj)::(ON,.cells 13 Af 0)::(B1,.cells 13 Af 0)::l):=o.pm;refine tt ?_;refine (DE B c hc 2 (by omega)).IE hs o fun r s H _ ⟨f,e,hf⟩ hs o hz=>⟨hz, ?_⟩;subst e;refine tt ?_;refine (DE B c hc 3 (by omega)).IE hs o fun r s H _ ⟨g,e,hg⟩ hs o hz=>⟨hz, ?_⟩;subst e;refine tt ?_;refine (K4 B f g H).mono ?_
       rintro r H ⟨p,X,cd,rfl,hX,o2⟩
       obtain ⟨cs,rfl,RG,Ze,hP⟩:=P7 hf.sh hg.sh hX;refine ⟨o2.sub, ?_⟩
       have o:=o.trans o2
       have o : A9 H0 H ((id,s.obj)::(ON,.cells 13 Af 0)::(B1,.cells 13 Af 0)::(p++l)):=o.pm;refine tt ?_
       have o : A9 H0 H ((ON,.cells 13 Af 0)::(id,s.obj)::(B1,.cells 13 Af 0)::(p++l)):=o.pm;refine AS o (by simp [Af,RG]) (by simp [RG]) Ze fun H o=>?_;rw [G8 (z:=Af) RG] at o;refine tt ?_;exact AX ⟨s,ON,cs,cd,p,rfl,hs,hP,⟨RG,Ze⟩,o.swap⟩
     clear o hs
     rintro σ H ⟨s,ON,cs,cd,p,rfl,hs,hP,⟨RG,Ze⟩,o⟩;refine tt ?_;apply bk <;> intro h3
     ·have BH : cd=0:=A6 h3
      have Yc:=hP BH;refine tt ?_;refine AO o.tl (by simp [RG]) ?_
      have e13 : (cs.drop 0).take 13=cs:=by rw [List.drop_zero]; exact List.take_of_length_le (by omega)
      rw [e13];refine tt ?_
      have o : A9 H0 H ([(ON,.cells 13 cs 0)]++((B1,.cells 13 Af 0)::(id,s.obj)::(p++l))):=o.pm
      have o:=o.FL (List.sublist_append_right _ _);refine AS o (by simp [Af,RG]) (by simp [RG]) Ze fun H o=>?_;rw [G8 (z:=Af) RG] at o;refine tt ?_;rw [o.rc 13 0 (by simp [RG])];refine tt ?_;exact ⟨H,.refl _,c,c,s,p,Pe,hs,by rw [List.take_of_length_le (by omega)]; exact Yc,o.tl⟩
     ·refine tt ?_;exact AX ⟨s,rfl,hs,o.FL (.cons_cons _ (.cons _ (.cons_cons _ (List.sublist_append_right _ _))))⟩
    ·refine tt ?_;exact AX ⟨s,rfl,hs,o⟩
 clear o hs
 rintro σ H ⟨s,rfl,hs,o⟩;refine tt ?_;refine (AY B 2).go hs o fun r s H _ ⟨v,e,_⟩ hs o=>?_;subst e;refine tt ?_;apply bk <;> intro h0
 ·refine tt ?_;refine (Bu B Pe hc 3 8).IE hs o fun r s p H _ ⟨d,⟨ji,hd⟩,m,e,e2,ho,ha⟩ hs o _=>?_;subst e e2;rw [VH] at o
  have ok : NV ⟨c,d,m.1.2,m.2.2⟩:=⟨hc,hd,ho,ha⟩;refine tt ?_;refine nb o fun IL H o=>tt ?_;refine kT o fun H o=>?_
  have e1 : wr Ey 0 (EZ c d m).cells=(EZ c d m).cells:=rfl
  have o : A9 H0 H ((IL,.cells 12 (EZ c d m).cells 0)::(m.1.1,.cells 1 (m.1.2.map iI) 0)::(m.2.1,.cells 1 (m.2.2.map iI) 0)::(id,s.obj)::(B1,.cells 13 Af 0)::l):=A9.perm (show A9 H0 H ((IL,.cells 12 (EZ c d m).cells 0)::(id,s.obj)::([(m.1.1,.cells 1 (m.1.2.map iI) 0),(m.2.1,.cells 1 (m.2.2.map iI) 0)]++((B1,.cells 13 Af 0)::l))) from o) (NU fun x=>by (try dsimp only); simp only [List.append_eq,List.count_append,List.count_cons,List.count_nil,List.map_nil,List.length_nil,List.length_append,List.length_cons,List.length_set,Nat.zero_add,List.nil_append,iI,iL]; omega);refine tt ?_;refine eH o fun H o=>Ca 11 o rfl fun H o=>AX ?_;refine tt ?_;refine ⟨_,(Mf B hd).run,tt ?_⟩;refine ID.go' (Fe B ok (Pk hd) rfl) o fun X p H hP o Dw=>⟨Dw, ?_⟩
  have Yc:=hP
  obtain ⟨cs,rfl,RG,Ze⟩:=TI.mk' hP;refine tt ?_
  have o : A9 H0 H (([] : Ob)++((B1,.cells 13 Af 0)::(id,s.obj)::(p++l))):=o.pm
  have o:=o.FL (List.sublist_append_right _ _);refine AS o (by simp [Af,RG]) (by simp [RG]) Ze fun H o=>?_;rw [G8 (z:=Af) RG] at o;refine tt ?_;rw [o.rc 13 0 (by simp [RG])];refine tt ?_;exact ⟨H,.refl _,c,d,s,p,Pe,hs,by rw [List.take_of_length_le (by omega)]; exact Yc,o.tl⟩
 ·refine tt ?_;refine ⟨_,(Mf B hc).run,_,(Mf B hc).run,tt ?_⟩;refine ID.go' (Fe B (Pk hc) (Pk hc) rfl) o fun X p H hP o Dw=>⟨Dw, ?_⟩
  have Yc:=hP
  obtain ⟨cs,rfl,RG,Ze⟩:=TI.mk' hP;refine tt ?_
  have o : A9 H0 H (([] : Ob)++((B1,.cells 13 Af 0)::(id,s.obj)::(p++l))):=o.pm
  have o:=o.FL (List.sublist_append_right _ _);refine AS o (by simp [Af,RG]) (by simp [RG]) Ze fun H o=>?_;rw [G8 (z:=Af) RG] at o;refine tt ?_;rw [o.rc 13 0 (by simp [RG])];refine tt ?_;exact ⟨H,.refl _,c,c,s,p,Pe,hs,by rw [List.take_of_length_le (by omega)]; exact Yc,o.tl⟩
def Cy (p : PF) (x : Int) : List Int:=ix p.AK x
def j4 (p : PF) (a : Int) : List (List Int):=ix p.before a
def jN (p : PF) (b : Int) : List (List Int):=ix p.behind b
theorem fH (B : Nat) (pf : PF) (h : pf.Shape) {n1 n2 n3 : Nat} {e1 e2 e3 : List AV} (q1 : ∀ x y,pf.src.ES x→pf.AL.ES y→HG Tryz.prog B n1 (iI x::iI y::e1) (iI (pf.sz x y)))
  (q2 : ∀ a y,pf.src.DB a→pf.AL.ES y→HG Tryz.prog B n2 (iI a::iI y::e2) (iL (pf.bf a y))) (q3 : ∀ b x,pf.AL.DB b→pf.src.ES x→HG Tryz.prog B n3 (iI b::iI x::e3) (iL (pf.bh b x))) (H0 : AA) :
  CB B 55 [.ptr pf.src.cells,.ptr pf.AL.cells,.fn (.func n1) e1,.fn (.func n2) e2,.fn (.func n3) e3] H0 fun r H'=>H'=H0∧r=.CQ [.agg pf.cells,.bool true]:=by
 refine og.go fun _=>?_
 have cf:=h.sI.1.o
 have cg:=h.tI.1.o
 have sll : pf.AK.length=pf.src.AF.toNat:=by have:=h.sl; omega
 have o : A9 H0 H0 []:=.nil _;refine tt ?_;refine nb o fun Je H o=>tt ?_;refine (JV B pf.src).run.use ?_;refine tt ?_;refine (JV B pf.AL).run.use ?_;refine tt ?_;refine nb o fun Bc H o=>tt ?_;refine sw o fun H o=>tt ?_
 have o : A9 H0 H [(Bc,.cells 13 (CM pf.src pf.AL .A0 .A0 .A0) 0),(Je,.cells 13 Af 0)]:=o
 refine AD [0,1,2,3,4,10,12] (G:=AV × Ob) (fun k _=>[(13,some (.int .i64 (k : Int)))])
  (fun k g' H=>Lp iL g'.2 g'.1 (pf.AK.take k)∧A9 H0 H ((Bc,.cells 13 (CM pf.src pf.AL g'.1 .A0 .A0) 0)::(g'.2++[(Je,.cells 13 Af 0)]))) pf.src.AF.toNat (.A0,[]) ⟨.inl ⟨rfl,rfl,rfl⟩,o⟩ rfl ?_
 clear o
 rintro k ⟨X,q⟩ H hk ⟨hX,o⟩
 replace hX : Lp iL q X (pf.AK.take k):=hX
 replace o : A9 H0 H ((Bc,.cells 13 (CM pf.src pf.AL X .A0 .A0) 0)::(q++[(Je,.cells 13 Af 0)])):=o;refine tt ?_;apply bk <;> intro h1
 ·have AU:=A6 h1
  have w:=ws k;refine tt ?_
  have aT : 0≤(k : Int)∧(k : Int)<pf.src.AF:=⟨by omega,AU⟩
  have rlk : (Cy pf (k : Int)).length=pf.AL.AF.toNat:=by have:=(h.rl (k : Int) aT).1; rw [Cy]; omega
  refine ⟨⟨by omega,by omega,by simp only [AN]; omega,by simp only [AN]; omega⟩,AP o fun Io H o=>?_⟩
  have o : A9 H0 H ((Io,.cells 1 (((Cy pf (k : Int)).take 0).map iI) 0)::(Bc,.cells 13 (CM pf.src pf.AL X .A0 .A0) 0)::(q++[(Je,.cells 13 Af 0)])):=o;refine tt ?_
  refine AD [0,1,2,3,4,10,12,13] (G:=Nat) (fun j b=>[(14,some (.buf b j)),(15,some (.int .i64 (j : Int)))])
   (fun j b H=>A9 H0 H ((b,.cells 1 (((Cy pf (k : Int)).take j).map iI) 0)::(Bc,.cells 13 (CM pf.src pf.AL X .A0 .A0) 0)::(q++[(Je,.cells 13 Af 0)]))) pf.AL.AF.toNat Io o rfl ?_
  clear o
  rintro j b H hj o
  replace o : A9 H0 H ((b,.cells 1 (((Cy pf (k : Int)).take j).map iI) 0)::(Bc,.cells 13 (CM pf.src pf.AL X .A0 .A0) 0)::(q++[(Je,.cells 13 Af 0)])):=o;refine tt ?_;apply bk <;> intro h2
  ·have Aq:=A6 h2
   have w2:=ws j
   have FG : 0≤(j : Int)∧(j : Int)<pf.AL.AF:=⟨by omega,Aq⟩
   have hl : ((Cy pf (k : Int)).take j).length=j:=by rw [List.length_take,rlk]; omega
   refine tt ?_
   have zb:=(h.rl (k : Int) aT).2 (j : Int) FG;refine ⟨_,q1 (k : Int) (j : Int) aT FG,tt ?_⟩;refine iZ o hl.symm rfl rfl fun Y hY=>tt ?_;refine hY.app (pf.sz k j) o rfl (by rw [hl]; simp only [AN]; omega) fun b2 H o=>tt ?_;refine ⟨by simp [hl],CI o (by simp [hl]) ?_⟩;rw [show ((Cy pf (k : Int)).take j++[pf.sz k j]).getD j default=pf.sz k j by simp [Go.AW.gE,hl]]
   have es : (Cy pf (k : Int)).take j++[pf.sz k j]=(Cy pf (k : Int)).take (j+1):=(Fl (by rw [rlk]; omega) rfl).symm;refine tt ?_;apply bk <;> intro h3
   ·have BH:=A6 h3;exact absurd BH (by omega)
   ·have BH:=A7 h3;rw [es] at o;refine tw w2 ?_;exact A4 b2 (by omega) o (by rw [List.length_append,hl]; rfl)
  ·have Aq:=A7 h2
   obtain rfl : j=pf.AL.AF.toNat:=by omega
   rw [List.take_of_length_le (by rw [rlk]; omega)] at o;refine tt ?_;refine Am o rlk.symm fun H o=>tt ?_;refine AH o (by simp [CM]) (tt ?_);refine (CP.mk (l:=[(Bc,.cells 13 (CM pf.src pf.AL X .A0 .A0) 0),(Je,.cells 13 Af 0)]) (o.pm) hX).app (Cy pf (k : Int)) rfl (by rw [List.length_take]; simp only [AN]; omega) fun ids H o=>?_
   have es:=Fl (l:=pf.AK) (y:=Cy pf (k : Int)) (k:=k) (by rw [sll]; omega) rfl;rw [← es] at o;rw [← es];refine tt ?_;refine AS o.swap (by simp [CM]) (by (try simp only [go_sem]); (try simp)) (by first | (simp only [go_sem]; done) | ((try simp only [go_sem]); simp [AV.one,Ay])) fun H o=>?_;unfold CM at o;have o:=s2 o;refine tw w ?_;refine A4 (.buf ids (pf.AK.take (k+1)).length,[(ids,.cells 1 ((pf.AK.take (k+1)).map iL) 0)]) (by omega) ⟨.inr ⟨ids,rfl,rfl⟩,o⟩ rfl
 ·have AU:=A7 h1
  obtain rfl : k=pf.src.AF.toNat:=by omega
  rw [List.take_of_length_le (by rw [sll]; omega)] at hX;clear h1 AU hk;refine tt ?_
  have bl:=h.bl
  have hl:=h.hl
  have am:=h.sI.1.m
  have bm:=h.tI.1.m
  refine AD [0,1,3,4,10,12,74] (G:=AV × Ob) (fun k _=>[(75,some (.int .i64 (k : Int)))])
   (fun k g' H=>Lp B5 g'.2 g'.1 (pf.before.take k)∧A9 H0 H ((Bc,.cells 13 (CM pf.src pf.AL X g'.1 .A0) 0)::(g'.2++(q++[(Je,.cells 13 Af 0)])))) pf.src.AB.length (.A0,[]) ⟨.inl ⟨rfl,rfl,rfl⟩,o⟩ rfl ?_
  clear o
  rintro k ⟨Y,p⟩ H hk ⟨hY,o⟩
  replace hY : Lp B5 p Y (pf.before.take k):=hY
  replace o : A9 H0 H ((Bc,.cells 13 (CM pf.src pf.AL X Y .A0) 0)::(p++(q++[(Je,.cells 13 Af 0)]))):=o;refine tt ?_;apply bk <;> intro h1
  ·have AU:=A6 h1
   have w:=ws k
   have ha : pf.src.DB k:=⟨by omega,by simpa using AU⟩
   have GA : (j4 pf (k : Int)).length=pf.AL.AF.toNat:=by have:=(h.bm (k : Int) ha).1; rw [j4]; omega
   refine tt ?_;refine AP o fun Io H o=>?_
   have o : A9 H0 H ((Io,.cells 1 (((j4 pf (k : Int)).take 0).map iL) 0)::(Bc,.cells 13 (CM pf.src pf.AL X Y .A0) 0)::(p++(q++[(Je,.cells 13 Af 0)]))):=o;refine tt ?_
   refine AD [0,1,3,4,10,12,16,74,75] (G:=Nat) (fun j b=>[(17,some (.buf b j)),(18,some (.int .i64 (j : Int)))])
    (fun j b H=>A9 H0 H ((b,.cells 1 (((j4 pf (k : Int)).take j).map iL) 0)::(Bc,.cells 13 (CM pf.src pf.AL X Y .A0) 0)::(p++(q++[(Je,.cells 13 Af 0)])))) pf.AL.AF.toNat Io o rfl ?_
   clear o
   rintro j b H hj o
   replace o : A9 H0 H ((b,.cells 1 (((j4 pf (k : Int)).take j).map iL) 0)::(Bc,.cells 13 (CM pf.src pf.AL X Y .A0) 0)::(p++(q++[(Je,.cells 13 Af 0)]))):=o;refine tt ?_;apply bk <;> intro h2
   ·have Aq:=A6 h2
    have w2:=ws j
    have FG : 0≤(j : Int)∧(j : Int)<pf.AL.AF:=⟨by omega,Aq⟩
    have hl : ((j4 pf (k : Int)).take j).length=j:=by rw [List.length_take,GA]; omega
    refine tt ?_;refine HG.use (q2 (k : Int) (j : Int) ha FG) ?_;refine tt ?_
    have es:=Fl (l:=j4 pf (k : Int)) (y:=pf.bf k j) (k:=j) (by rw [GA]; omega) rfl;refine Ae (pf.bf k j) o rfl hl.symm (by rw [hl]; simp only [AN]; omega) fun b H o=>?_;rw [← es] at o;refine tw w2 ?_;exact A4 b (by omega) o (by rw [List.length_append,hl]; rfl)
   ·have Aq:=A7 h2
    obtain rfl : j=pf.AL.AF.toNat:=by omega
    rw [List.take_of_length_le (by rw [GA]; omega)] at o;refine tt ?_;refine Am o GA.symm fun H o=>tt ?_;refine AH o (by simp [CM]) (tt ?_);refine (CP.mk (l:=(Bc,.cells 13 (CM pf.src pf.AL X Y .A0) 0)::(q++[(Je,.cells 13 Af 0)])) (o.pm) hY).app (j4 pf (k : Int)) rfl (by rw [List.length_take]; simp only [AN]; omega) fun ids H o=>?_
    have es:=Fl (l:=pf.before) (y:=j4 pf (k : Int)) (k:=k) (by rw [bl]; omega) rfl;rw [← es] at o;rw [← es];refine tt ?_;refine AS o.swap (by simp [CM]) (by (try simp only [go_sem]); (try simp)) (by first | (simp only [go_sem]; done) | ((try simp only [go_sem]); simp [AV.one,Ay])) fun H o=>?_;unfold CM at o;have o:=s2 o;refine tw w ?_;exact A4 (.buf ids (pf.before.take (k+1)).length,[(ids,.cells 1 ((pf.before.take (k+1)).map B5) 0)]) (by omega) ⟨.inr ⟨ids,rfl,rfl⟩,o⟩ rfl
  ·have AU:=A7 h1
   obtain rfl : k=pf.src.AB.length:=by omega
   rw [List.take_of_length_le (by rw [bl]; omega)] at hY;clear h1 AU hk;refine tt ?_
   refine AD [0,4,10,12,105] (G:=AV × Ob) (fun k _=>[(106,some (.int .i64 (k : Int)))])
    (fun k g' H=>Lp B5 g'.2 g'.1 (pf.behind.take k)∧A9 H0 H ((Bc,.cells 13 (CM pf.src pf.AL X Y g'.1) 0)::(g'.2++(p++(q++[(Je,.cells 13 Af 0)]))))) pf.AL.AB.length (.A0,[]) ⟨.inl ⟨rfl,rfl,rfl⟩,o⟩ rfl ?_
   clear o
   rintro k ⟨Z,r⟩ H hk ⟨hZ,o⟩
   replace hZ : Lp B5 r Z (pf.behind.take k):=hZ
   replace o : A9 H0 H ((Bc,.cells 13 (CM pf.src pf.AL X Y Z) 0)::(r++(p++(q++[(Je,.cells 13 Af 0)])))):=o;refine tt ?_;apply bk <;> intro h1
   ·have AU:=A6 h1
    have w:=ws k
    have ha : pf.AL.DB k:=⟨by omega,by simpa using AU⟩
    have mc : (jN pf (k : Int)).length=pf.src.AF.toNat:=by have:=(h.hm (k : Int) ha).1; rw [jN]; omega
    refine tt ?_;refine AP o fun Io H o=>?_
    have o : A9 H0 H ((Io,.cells 1 (((jN pf (k : Int)).take 0).map iL) 0)::(Bc,.cells 13 (CM pf.src pf.AL X Y Z) 0)::(r++(p++(q++[(Je,.cells 13 Af 0)])))):=o;refine tt ?_
    refine AD [0,4,10,12,19,105,106] (G:=Nat) (fun j b=>[(20,some (.buf b j)),(21,some (.int .i64 (j : Int)))])
     (fun j b H=>A9 H0 H ((b,.cells 1 (((jN pf (k : Int)).take j).map iL) 0)::(Bc,.cells 13 (CM pf.src pf.AL X Y Z) 0)::(r++(p++(q++[(Je,.cells 13 Af 0)]))))) pf.src.AF.toNat Io o rfl ?_
    clear o
    rintro j b H hj o
    replace o : A9 H0 H ((b,.cells 1 (((jN pf (k : Int)).take j).map iL) 0)::(Bc,.cells 13 (CM pf.src pf.AL X Y Z) 0)::(r++(p++(q++[(Je,.cells 13 Af 0)])))):=o;refine tt ?_;apply bk <;> intro h2
    ·have Aq:=A6 h2
     have w2:=ws j
     have FG : 0≤(j : Int)∧(j : Int)<pf.src.AF:=⟨by omega,Aq⟩
     have hl : ((jN pf (k : Int)).take j).length=j:=by rw [List.length_take,mc]; omega
     refine tt ?_;refine HG.use (q3 (k : Int) (j : Int) ha FG) ?_;refine tt ?_
     have es:=Fl (l:=jN pf (k : Int)) (y:=pf.bh k j) (k:=j) (by rw [mc]; omega) rfl;refine Ae (pf.bh k j) o rfl hl.symm (by rw [hl]; simp only [AN]; omega) fun b H o=>?_;rw [← es] at o;refine tw w2 ?_;exact A4 b (by omega) o (by rw [List.length_append,hl]; rfl)
    ·have Aq:=A7 h2
     obtain rfl : j=pf.src.AF.toNat:=by omega
     rw [List.take_of_length_le (by rw [mc]; omega)] at o;refine tt ?_;refine Am o mc.symm fun H o=>tt ?_;refine AH o (by simp [CM]) (tt ?_);refine (CP.mk (l:=(Bc,.cells 13 (CM pf.src pf.AL X Y Z) 0)::(p++(q++[(Je,.cells 13 Af 0)]))) (o.pm) hZ).app (jN pf (k : Int)) rfl (by rw [List.length_take]; simp only [AN]; omega) fun ids H o=>?_
     have es:=Fl (l:=pf.behind) (y:=jN pf (k : Int)) (k:=k) (by rw [hl]; omega) rfl;rw [← es] at o;rw [← es];refine tt ?_;refine AS o.swap (by simp [CM]) (by (try simp only [go_sem]); (try simp)) (by first | (simp only [go_sem]; done) | ((try simp only [go_sem]); simp [AV.one,Ay])) fun H o=>?_;unfold CM at o;have o:=s2 o;refine tw w ?_;exact A4 (.buf ids (pf.behind.take (k+1)).length,[(ids,.cells 1 ((pf.behind.take (k+1)).map B5) 0)]) (by omega) ⟨.inr ⟨ids,rfl,rfl⟩,o⟩ rfl
   ·have AU:=A7 h1
    obtain rfl : k=pf.AL.AB.length:=by omega
    rw [List.take_of_length_le (by rw [hl]; omega)] at hZ;clear h1 AU hk;refine tt ?_;refine FK (f:=iL) 10 (CP.mk (l:=(Bc,.cells 13 (CM pf.src pf.AL X Y Z) 0)::(r++(p++[(Je,.cells 13 Af 0)]))) (o.pm) hX) rfl fun H o=>?_
    replace o : A9 H0 H ((Bc,.cells 13 (CM pf.src pf.AL (B5 pf.AK) Y Z) 0)::(r++(p++[(Je,.cells 13 Af 0)]))):=o;refine FK (f:=B5) 11 (CP.mk (l:=(Bc,.cells 13 (CM pf.src pf.AL (B5 pf.AK) Y Z) 0)::(r++[(Je,.cells 13 Af 0)])) (o.pm) hY) rfl fun H o=>?_
    replace o : A9 H0 H ((Bc,.cells 13 (CM pf.src pf.AL (B5 pf.AK) (BE pf.before) Z) 0)::(r++[(Je,.cells 13 Af 0)])):=o;refine FK (f:=B5) 12 (CP.mk (l:=(Bc,.cells 13 (CM pf.src pf.AL (B5 pf.AK) (BE pf.before) Z) 0)::[(Je,.cells 13 Af 0)]) (o.pm) hZ) rfl fun H o=>AX ?_
    replace o : A9 H0 H [(Bc,.cells 13 pf.cells 0),(Je,.cells 13 Af 0)]:=o;refine tt ?_;refine AO o (by simp [PF.cells]) (tt ?_)
    have ep : sN pf=pf.cells:=rfl;refine AS o.swap (by simp [Af]) (by (try simp only [go_sem]); (try simp)) (by first | (simp only [go_sem]; done) | ((try simp only [go_sem]); simp [AV.one,Ay])) fun H o=>?_;unfold Af at o;have o:=s2 o
    have o : A9 H0 H [(Je,.cells 13 (sN pf) 0),(Bc,.cells 13 pf.cells 0)]:=o;refine tt ?_;refine AX ?_;refine tt ?_;rw [o.rc 13 0 (by simp [sN,CM])];refine tt ?_;exact ⟨H0,o.sub,rfl,rfl⟩
end Go.Proofs.Shf
namespace Go.Shf
open Go.AW
@[go_sem] def wS (c : Ax) (S : List (List (List Int))) (sz : AV) (pl : AV) : List AV:=[iI c.AF,iL c.AB,iL c.to,iL c.Ac,B5 c.comp,sz,pl,BE S]
end Go.Shf
