/- A part of a proof. -/
import Derived.Test.YtphikjciekmijaaGreatT8
set_option linter.unusedVariables false
set_option linter.unusedSimpArgs false
set_option linter.unusedSectionVars false
set_option maxRecDepth 100000
open Nat (reduceEqDiff reduceAdd reduceMul reduceLeDiff reduceLT)
namespace Go.Shf
open Go.AW
def PF.eX (p : PF) (x : Nat) : Prop:=((p.AK.getD x default).length : Int)=p.AL.AF∧∀ y : Nat,y<(p.AK.getD x default).length→0≤(p.AK.getD x default).getD y default∧(p.AK.getD x default).getD y default≤64
structure PF.Oc (p : PF) : Prop where
 sl : (p.AK.length : Int)=p.src.AF
 bl : p.before.length=p.src.AB.length
 hl : p.behind.length=p.AL.AB.length
 rl : ∀ x : Nat,x<p.AK.length→p.eX x
theorem PF.Shape.sized {p : PF} (h : p.Shape) : p.Oc:=by
 refine ⟨h.sl,h.bl,h.hl,fun x hx=>?_⟩
 have sl:=h.sl
 have W8 : p.src.ES x:=⟨by omega,by omega⟩
 have hr:=h.rl x W8;exact ⟨hr.1,fun y hy=>hr.2 y ⟨by omega,by have : ((p.AK.getD x default).length : Int)=p.AL.AF:=hr.1; omega⟩⟩
def PF.WH (p : PF) (a y : Nat) : Prop:=(((p.before.getD a default).getD y default).length : Int)=(ix p.AK (p.src.to.getD a default)).getD y default∧∀ z,z∈(p.before.getD a default).getD y default→0≤z∧z<(ix p.AK (p.src.AB.getD a default)).getD y default
def PF.cL (p : PF) (a : Nat) : Prop:=((p.before.getD a default).length : Int)=p.AL.AF∧∀ y : Nat,y<(p.before.getD a default).length→p.WH a y
def PF.Ud (p : PF) (b x : Nat) : Prop:=(((p.behind.getD b default).getD x default).length : Int)=ix (p.AK.getD x default) (p.AL.AB.getD b default)∧∀ z,z∈(p.behind.getD b default).getD x default→0≤z∧z<ix (p.AK.getD x default) (p.AL.to.getD b default)
def PF.bO (p : PF) (b : Nat) : Prop:=((p.behind.getD b default).length : Int)=p.src.AF∧∀ x : Nat,x<(p.behind.getD b default).length→p.Ud b x
theorem L1 {m n : Int} {t : List Int} (hm : 0≤m) : N1 m n t↔(t.length : Int)=m∧∀ z,z∈t→0≤z∧z<n:=by
 refine ⟨fun h=>⟨by have:=h.len; omega,fun z hz=>h.mem hz⟩,fun ⟨h1,h2⟩=>N1.of (by omega) fun i hi=>h2 _ (BL (by omega))⟩
theorem PF.Shape.fL {p : PF} (h : p.Shape) {a y : Nat} (ha : p.src.DB a) (hy : p.AL.ES y) : p.WH a y:=by
 have m:=(h.bm a ha).2 y hy
 have q:=(h.rl _ (h.sI.1.qR ha)).2 y hy;exact (L1 q.1).mp m
theorem PF.Shape.Z6 {p : PF} (h : p.Shape) {b x : Nat} (hb : p.AL.DB b) (hx : p.src.ES x) : p.Ud b x:=by
 have m:=(h.hm b hb).2 x hx
 have q:=(h.rl _ hx).2 _ (h.tI.1.pO hb);exact (L1 q.1).mp m
theorem Le {x : Int} (h : 0≤x) : ∃ n : Nat,x=n:=⟨x.toNat,(Int.toNat_of_nonneg h).symm⟩
theorem Qp {p : PF} (hs : p.src.Is) (ht : p.AL.Is) (hz : p.Oc) (hb : ∀ a : Nat,a<p.before.length→p.cL a) (hh : ∀ b : Nat,b<p.behind.length→p.bO b) : p.Shape:=by
 have sl:=hz.sl
 have bl:=hz.bl
 have hl:=hz.hl
 have rl : ∀ x,p.src.ES x→((ix p.AK x).length : Int)=p.AL.AF∧∀ y,p.AL.ES y→0≤p.sz x y∧p.sz x y≤64:=fun x hx=>by
  obtain ⟨n,rfl⟩:=Le hx.1
  have hr:=hz.rl n (by have:=hx.2; omega);refine ⟨hr.1,fun y hy=>?_⟩
  obtain ⟨m,rfl⟩:=Le hy.1;exact hr.2 m (by have:=hr.1; have:=hy.2; omega)
 refine ⟨hs,ht,sl,rl,bl,hl,fun a ha=>?_,fun b MI=>?_⟩
 ·obtain ⟨n,rfl⟩:=Le ha.1
  have hr:=hb n (by have : (n : Int).toNat<_:=ha.2; omega);refine ⟨hr.1,fun y hy=>?_⟩
  obtain ⟨m,rfl⟩:=Le hy.1;exact (L1 ((rl _ (hs.1.qR ha)).2 m hy).1).mpr (hr.2 m (by have:=hr.1; have:=hy.2; omega))
 ·obtain ⟨n,rfl⟩:=Le MI.1
  have hr:=hh n (by have : (n : Int).toNat<_:=MI.2; omega);refine ⟨hr.1,fun x hx=>?_⟩
  obtain ⟨m,rfl⟩:=Le hx.1;exact (L1 ((rl _ hx).2 _ (ht.1.pO MI)).1).mpr (hr.2 m (by have:=hr.1; have:=hx.2; omega))
end Go.Shf
namespace Go.Proofs.Shf
open Go.AW Go.Proofs Go.Shf
theorem ju {q : Decidable False} : @decide False q=false:=@decide_eq_false False q not_false
theorem X8 (B : Nat) (p : PF) (hs : p.src.Is) (ht : p.AL.Is) : PB B 215 [.agg p.cells] (.bool (dec p.Oc)):=by
 refine ⟨fun H0=>ow.go fun _=>?_⟩
 have so:=hs.1.o
 have to:=ht.1.o
 have sm:=hs.1.m
 have tm:=ht.1.m;refine tt ?_
 by_cases sl : (p.AK.length : Int)=p.src.AF
 rotate_left
 ·rw [decide_eq_false sl];refine tt ?_;exact A5 (by rw [Ad fun h=>sl h.sl]) (.refl _)
 rw [decide_eq_true sl]
 by_cases bl : p.before.length=p.src.AB.length
 rotate_left
 ·try simp only [go_sem,↓reduceIte,reduceEqDiff,reduceAdd,reduceMul,reduceLeDiff,reduceLT,bl,ju]
  exact A5 (by rw [Ad fun h=>bl h.bl]) (.refl _)
 by_cases hl : p.behind.length=p.AL.AB.length
 rotate_left
 ·try simp only [go_sem,↓reduceIte,reduceEqDiff,reduceAdd,reduceMul,reduceLeDiff,reduceLT,bl,hl,wH,ju]
  exact A5 (by rw [Ad fun h=>hl h.hl]) (.refl _)
 try simp only [go_sem,↓reduceIte,reduceEqDiff,reduceAdd,reduceMul,reduceLeDiff,reduceLT,bl,hl,wH]
 refine AD [1] (G:=Unit) (fun k _=>[(3,some (.int .i64 (k : Int)))]) (fun k _ H'=>H'=H0∧∀ x : Nat,x<k→p.eX x) p.AK.length () ⟨rfl,fun x hx=>by omega⟩ rfl ?_
 rintro x _ H hx ⟨rfl,Au⟩;refine tt ?_;apply bk <;> intro h1
 ·have AU:=A6 h1
  have w:=ws x;refine tt ?_;refine ⟨AU, ?_⟩
  by_cases LD : ((p.AK.getD x default).length : Int)=p.AL.AF
  rotate_left
  ·rw [decide_eq_false LD];refine tt ?_;exact A5 (by rw [Ad fun h=>LD (h.rl x AU).1]) (.refl _)
  rw [decide_eq_true LD];refine tt ?_;refine AD [1,3] (G:=Unit) (fun k _=>[(4,some (.int .i64 (k : Int)))]) (fun k _ H'=>H'=H∧∀ y : Nat,y<k→0≤(p.AK.getD x default).getD y default∧(p.AK.getD x default).getD y default≤64) (p.AK.getD x default).length () ⟨rfl,fun y hy=>by omega⟩ rfl ?_
  rintro y _ H hy ⟨rfl,Iy⟩;refine tt ?_;refine ⟨AU, ?_⟩;apply bk <;> intro h2
  ·have Aq:=A6 h2
   have w2:=ws y;refine tt ?_
   (repeat (refine ⟨by first | exact AU | exact Aq, ?_⟩))
   refine (Ri B _ _ _).go fun _=>?_
   by_cases q : 0≤(p.AK.getD x default).getD y default∧(p.AK.getD x default).getD y default≤64
   ·rw [Av q];refine tw w2 ?_;refine A4 () Aq ⟨rfl,fun i hi=>?_⟩ rfl
    rcases Nat.lt_succ_iff_lt_or_eq.mp hi with h | rfl
    ·exact Iy i h
    ·exact q
   ·rw [Ad q];refine tt ?_;exact A5 (by rw [Ad fun h=>q ((h.rl x AU).2 y Aq)]) (.refl _)
  ·have Aq:=A7 h2
   obtain rfl : y=(p.AK.getD x default).length:=by omega
   refine tw w ?_;refine A4 () AU ⟨rfl,fun i hi=>?_⟩ rfl
   rcases Nat.lt_succ_iff_lt_or_eq.mp hi with h | rfl
   ·exact Au i h
   ·exact ⟨LD,Iy⟩
 ·have AU:=A7 h1
  obtain rfl : x=p.AK.length:=by omega
  refine tt ?_;exact A5 (by rw [Av ⟨sl,bl,hl,Au⟩]) (.refl _)
theorem U2 (B : Nat) (p : PF) (hs : p.src.Is) (ht : p.AL.Is) (hz : p.Oc) : PB B 216 [.agg p.cells] (.bool (dec p.Shape)):=by
 refine ⟨fun H0=>wK.go fun _=>?_⟩
 have so:=hs.1.o
 have to:=ht.1.o
 have sm:=hs.1.m
 have tm:=ht.1.m
 have o : A9 H0 H0 []:=.nil _;refine tt ?_;refine Qd (fun σ H=>σ=[(1,some (.ptr p.cells)),(3,some (.ptr p.src.cells)),(4,some (.ptr p.AL.cells))]∧H0.sub H) ?_ ?_
 ·refine tt ?_;refine ⟨?_, ?_⟩
  ·refine Ai o fun Ba H o=>tt ?_;refine Ai o fun CT H o=>tt ?_;refine sw o.swap fun H o=>tt ?_;refine sw o.swap fun H o=>tt ?_;refine Ca 4 o rfl fun H o=>?_;refine Ca 3 o rfl fun H o=>?_;exact Vg [1,3,4] ⟨rfl,o.sub⟩
  ·refine Ai o fun Ba H o=>tt ?_;refine Ai o fun CT H o=>tt ?_;refine sw o fun H o=>tt ?_;refine sw o.swap fun H o=>tt ?_;refine Ca 4 o rfl fun H o=>?_;refine Ca 3 o rfl fun H o=>?_;exact Vg [1,3,4] ⟨rfl,o.sub⟩
 clear o
 rintro σ H ⟨rfl,os⟩
 have sl:=hz.sl
 have bl:=hz.bl
 have hl:=hz.hl
 have WK : ∀ x,p.src.ES x→0≤x∧x.toNat<p.AK.length:=fun x hx=>by obtain ⟨h1,h2⟩:=hx; omega
 have Ws : ∀ x y,p.src.ES x→p.AL.ES y→0≤y∧y.toNat<(ix p.AK x).length:=fun x y hx hy=>by
  have:=(hz.rl x.toNat (WK x hx).2).1
  obtain ⟨h1,h2⟩:=hy
  have e : ((ix p.AK x).length : Int)=p.AL.AF:=this;omega
 refine tt ?_;refine AD [1,3,4] (G:=Unit) (fun k _=>[(5,some (.int .i64 (k : Int)))]) (fun k _ H'=>H'=H∧∀ a : Nat,a<k→p.cL a) p.before.length () ⟨rfl,fun a ha=>by omega⟩ rfl ?_
 rintro k _ H' hk ⟨rfl,Au⟩;refine tt ?_;apply bk <;> intro h1
 ·have AU:=A6 h1
  have JR : p.src.DB k:=⟨by omega,by show (k : Int).toNat<_; omega⟩
  have w:=ws k
  have v9:=hs.1.v9 JR
  have pO:=hs.1.pO JR
  have qR:=hs.1.qR JR
  have szF:=WK _ pO
  have szT:=WK _ qR;refine tt ?_;refine ⟨AU, ?_⟩
  by_cases LD : ((p.before.getD k default).length : Int)=p.AL.AF
  rotate_left
  ·rw [decide_eq_false LD];refine tt ?_;exact A5 (by rw [Ad fun h=>LD (h.bm k JR).1]) os
  rw [decide_eq_true LD];refine tt ?_;refine AD [1,3,4,5] (G:=Unit) (fun k _=>[(6,some (.int .i64 (k : Int)))]) (fun j _ H2=>H2=H'∧∀ y : Nat,y<j→p.WH k y) (p.before.getD k default).length () ⟨rfl,fun y hy=>by omega⟩ rfl ?_
  rintro j _ H2 hj ⟨rfl,Iy⟩;refine tt ?_;refine ⟨AU, ?_⟩;apply bk <;> intro h2
  ·have Aq:=A6 h2
   have FG : p.AL.ES j:=⟨by omega,by omega⟩
   have w2:=ws j
   have szj:=Ws _ _ pO FG
   have szj2:=Ws _ _ qR FG;refine tt ?_
   (repeat (refine ⟨by first | exact Aq | exact AU | exact JR.2 | exact v9.2 | exact szF | exact szT | exact szj.2 | exact szj2.2, ?_⟩))
   by_cases hm : (((p.before.getD k default).getD j default).length : Int)=(ix p.AK (p.src.to.getD k default)).getD j default
   rotate_left
   ·rw [decide_eq_false hm];refine tt ?_;exact A5 (by rw [Ad fun h=>hm (h.fL JR FG).1]) os
   rw [decide_eq_true hm];refine tt ?_
   (repeat (refine ⟨by first | exact Aq | exact AU | exact JR.2 | exact v9.2 | exact szF | exact szT | exact szj.2 | exact szj2.2, ?_⟩))
   refine ⟨_,(Ep B _ _).run, ?_⟩
   by_cases yU : ∀ y,y∈(p.before.getD k default).getD j default→0≤y∧y<(ix p.AK (p.src.AB.getD k default)).getD j default
   ·rw [Av yU];refine tw w2 ?_;refine A4 () Aq ⟨rfl,fun i hi=>?_⟩ rfl
    rcases Nat.lt_succ_iff_lt_or_eq.mp hi with h | rfl
    ·exact Iy i h
    ·exact ⟨hm,yU⟩
   ·rw [Ad yU];refine tt ?_;exact A5 (by rw [Ad fun h=>yU (h.fL JR FG).2]) os
  ·have Aq:=A7 h2
   obtain rfl : j=(p.before.getD k default).length:=by omega
   refine tw w ?_;refine A4 () AU ⟨rfl,fun i hi=>?_⟩ rfl
   rcases Nat.lt_succ_iff_lt_or_eq.mp hi with h | rfl
   ·exact Au i h
   ·exact ⟨LD,Iy⟩
 have AU:=A7 h1
 obtain rfl : k=p.before.length:=by omega
 clear h1 hk AU;refine tt ?_;refine AD [1,3,4] (G:=Unit) (fun k _=>[(8,some (.int .i64 (k : Int)))]) (fun k _ H=>H=H'∧∀ b : Nat,b<k→p.bO b) p.behind.length () ⟨rfl,fun b hb=>by omega⟩ rfl ?_
 rintro k _ H hk ⟨rfl,FY⟩;refine tt ?_;apply bk <;> intro h1
 ·have AU:=A6 h1
  have JR : p.AL.DB k:=⟨by omega,by show (k : Int).toNat<_; omega⟩
  have w:=ws k
  have v9:=ht.1.v9 JR
  have pO:=ht.1.pO JR
  have qR:=ht.1.qR JR;refine tt ?_;refine ⟨AU, ?_⟩
  by_cases LD : ((p.behind.getD k default).length : Int)=p.src.AF
  rotate_left
  ·rw [decide_eq_false LD];refine tt ?_;exact A5 (by rw [Ad fun h=>LD (h.hm k JR).1]) os
  rw [decide_eq_true LD];refine tt ?_;refine AD [1,3,4,8] (G:=Unit) (fun k _=>[(9,some (.int .i64 (k : Int)))]) (fun j _ H2=>H2=H∧∀ x : Nat,x<j→p.Ud k x) (p.behind.getD k default).length () ⟨rfl,fun y hy=>by omega⟩ rfl ?_
  rintro j _ H2 hj ⟨rfl,Iy⟩;refine tt ?_;refine ⟨AU, ?_⟩;apply bk <;> intro h2
  ·have Aq:=A6 h2
   have hJ : p.src.ES j:=⟨by omega,by omega⟩
   have w2:=ws j
   have szx:=WK _ hJ
   have szj:=Ws _ _ hJ pO
   have szj2:=Ws _ _ hJ qR;refine tt ?_
   (repeat (refine ⟨by first | exact Aq | exact AU | exact JR.2 | exact v9.2 | exact szx.2 | exact szj | exact szj2, ?_⟩))
   by_cases hm : (((p.behind.getD k default).getD j default).length : Int)=ix (p.AK.getD j default) (p.AL.AB.getD k default)
   rotate_left
   ·rw [decide_eq_false hm];refine tt ?_;exact A5 (by rw [Ad fun h=>hm (h.Z6 JR hJ).1]) os
   rw [decide_eq_true hm];refine tt ?_
   (repeat (refine ⟨by first | exact Aq | exact AU | exact JR.2 | exact v9.2 | exact szx.2 | exact szj | exact szj2, ?_⟩))
   refine ⟨_,(Ep B _ _).run, ?_⟩
   by_cases yU : ∀ y,y∈(p.behind.getD k default).getD j default→0≤y∧y<ix (p.AK.getD j default) (p.AL.to.getD k default)
   ·rw [Av yU];refine tw w2 ?_;refine A4 () Aq ⟨rfl,fun i hi=>?_⟩ rfl
    rcases Nat.lt_succ_iff_lt_or_eq.mp hi with h | rfl
    ·exact Iy i h
    ·exact ⟨hm,yU⟩
   ·rw [Ad yU];refine tt ?_;exact A5 (by rw [Ad fun h=>yU (h.Z6 JR hJ).2]) os
  ·have Aq:=A7 h2
   obtain rfl : j=(p.behind.getD k default).length:=by omega
   refine tw w ?_;refine A4 () AU ⟨rfl,fun i hi=>?_⟩ rfl
   rcases Nat.lt_succ_iff_lt_or_eq.mp hi with h | rfl
   ·exact FY i h
   ·exact ⟨LD,Iy⟩
 ·have AU:=A7 h1
  obtain rfl : k=p.behind.length:=by omega
  refine tt ?_;exact A5 (by rw [Av (Qp hs ht hz Au FY)]) os
end Go.Proofs.Shf
namespace Go.Shf
open Go.AW
def PF.LI (p : PF) (x y : Nat) : Prop:=p.bf (ix p.src.Ac (x : Int)) y=BG (p.sz x y)∧p.bh (ix p.AL.Ac (y : Int)) x=BG (p.sz x y)
def PF.LB (p : PF) (y a b : Nat) : Prop:=ix p.src.to (a : Int)=ix p.src.AB (b : Int)→p.bf (ix (ix p.src.comp (a : Int)) b) y=iC (p.bf b y) (p.bf a y)
def PF.LH (p : PF) (x a b : Nat) : Prop:=ix p.AL.to (a : Int)=ix p.AL.AB (b : Int)→p.bh (ix (ix p.AL.comp (a : Int)) b) x=iC (p.bh a x) (p.bh b x)
def PF.LL (p : PF) (a b : Nat) : Prop:=iC (p.bf a (ix p.AL.AB (b : Int))) (p.bh b (ix p.src.AB (a : Int)))=iC (p.bh b (ix p.src.to (a : Int))) (p.bf a (ix p.AL.to (b : Int)))
def PF.LY (p : PF) (y : Nat) : Prop:=(∀ x : Nat,x<p.src.AF.toNat→p.LI x y)∧∀ a : Nat,a<p.src.AB.length→∀ b : Nat,b<p.src.AB.length→p.LB y a b
theorem VB {p : PF} (h1 : ∀ y : Nat,y<p.AL.AF.toNat→p.LY y) (h2 : ∀ x : Nat,x<p.src.AF.toNat→∀ a : Nat,a<p.AL.AB.length→∀ b : Nat,b<p.AL.AB.length→p.LH x a b) (h3 : ∀ a : Nat,a<p.src.AB.length→∀ b : Nat,b<p.AL.AB.length→p.LL a b) : p.Laws:=by
 have ob : ∀ {c : Ax} {x : Int},c.ES x→∃ n : Nat,x=n∧n<c.AF.toNat:=fun {c x} hx=>⟨x.toNat,(Int.toNat_of_nonneg hx.1).symm,by have:=hx.1; have:=hx.2; omega⟩
 have ar : ∀ {c : Ax} {x : Int},c.DB x→∃ n : Nat,x=n∧n<c.AB.length:=fun {c x} hx=>⟨x.toNat,(Int.toNat_of_nonneg hx.1).symm,hx.2⟩;refine ⟨fun x y hx hy=>?_,fun x y hx hy=>?_,fun a b y ha hb e hy=>?_,fun a b x ha hb e hx=>?_,fun a b ha hb=>?_⟩
 ·obtain ⟨n,rfl,hn⟩:=ob hx
  obtain ⟨m,rfl,hm⟩:=ob hy;exact ((h1 m hm).1 n hn).1
 ·obtain ⟨n,rfl,hn⟩:=ob hx
  obtain ⟨m,rfl,hm⟩:=ob hy;exact ((h1 m hm).1 n hn).2
 ·obtain ⟨n,rfl,hn⟩:=ar ha
  obtain ⟨k,rfl,hk⟩:=ar hb
  obtain ⟨m,rfl,hm⟩:=ob hy;exact (h1 m hm).2 n hn k hk e
 ·obtain ⟨n,rfl,hn⟩:=ar ha
  obtain ⟨k,rfl,hk⟩:=ar hb
  obtain ⟨m,rfl,hm⟩:=ob hx;exact h2 m hm n hn k hk e
 ·obtain ⟨n,rfl,hn⟩:=ar ha
  obtain ⟨k,rfl,hk⟩:=ar hb;exact h3 n hn k hk
theorem Kh {c : Ax} (h : c.Is) {a b : Nat} (ha : c.DB a) (hb : c.DB b) (e : ix c.to (a : Int)=ix c.AB (b : Int)) : 0≤(c.comp.getD a default).getD b default:=by
 rcases h.1.qM ha hb with ⟨_,q⟩ | q
 ·exact q.1
 ·have y:=h.1.yes a b ha.2 hb.2 e;exact y.1.1
end Go.Shf
namespace Go.Proofs.Shf
open Go.AW Go.Proofs Go.Shf
theorem SI (B : Nat) (f : List Int) (n : Int) (hl : (f.length : Int)=n) (hn : n≤4096) : PB B 274 [iL f] (.bool (dec (f=BG n))):=by
 refine ⟨fun H0=>ns.go fun _=>tt ?_⟩;refine AD [0] (G:=Unit) (fun k _=>[(3,some (.int .i64 (k : Int)))]) (fun k _ H'=>H'=H0∧∀ i : Nat,i<k→f.getD i default=(i : Int)) f.length () ⟨rfl,fun i hi=>by omega⟩ rfl ?_
 rintro k _ H hk ⟨rfl,Au⟩;refine tt ?_;apply bk <;> intro h1
 ·have AU:=A6 h1
  have w:=ws k;refine tt ?_;refine ⟨AU, ?_⟩
  by_cases e : f.getD k default=(k : Int)
  ·rw [e];try simp only [go_sem,↓reduceIte,reduceEqDiff,reduceAdd,reduceMul,reduceLeDiff,reduceLT,wH,w]
   refine A4 () AU ⟨rfl,fun i hi=>?_⟩ rfl
   rcases Nat.lt_succ_iff_lt_or_eq.mp hi with h | rfl
   ·exact Au i h
   ·exact e
  ·rw [decide_eq_false e];refine tt ?_;refine A5 ?_ (.refl _);rw [Ad]
   intro h;refine e ?_;rw [h]
   have:=EN (n:=n) (show 0≤(k : Int)∧(k : Int)<n by omega)
   rwa [AR] at this
 ·have AU:=A7 h1
  obtain rfl : k=f.length:=by omega
  refine tt ?_;refine A5 ?_ (.refl _);rw [Av];refine List.ext_getElem (by rw [Et]; omega) fun i h1 h2=>?_
  have a:=Au i h1
  have b:=EN (n:=n) (show 0≤(i : Int)∧(i : Int)<n by omega);rw [AR] at b;rw [Go.AW.gE,List.getElem?_eq_getElem h1] at a;rw [Go.AW.gE,List.getElem?_eq_getElem h2] at b;exact a.trans b.symm
theorem Sj (B : Nat) (p : PF) (sh : p.Shape) : PB B 217 [.agg p.cells] (.bool (dec p.Laws)):=by
 refine ⟨fun H0=>vX.go fun _=>?_⟩
 have so:=sh.sI.1.o
 have to:=sh.tI.1.o
 have sm:=sh.sI.1.m
 have tm:=sh.tI.1.m
 have o : A9 H0 H0 []:=.nil _;refine tt ?_;refine Qd (fun σ H=>σ=[(1,some (.ptr p.cells)),(3,some (.ptr p.src.cells)),(4,some (.ptr p.AL.cells))]∧H0.sub H) ?_ ?_
 ·refine tt ?_;refine ⟨?_, ?_⟩
  ·refine Ai o fun Ba H o=>tt ?_;refine Ai o fun CT H o=>tt ?_;refine sw o.swap fun H o=>tt ?_;refine sw o.swap fun H o=>tt ?_;refine Ca 4 o rfl fun H o=>?_;refine Ca 3 o rfl fun H o=>?_;exact Vg [1,3,4] ⟨rfl,o.sub⟩
  ·refine Ai o fun Ba H o=>tt ?_;refine Ai o fun CT H o=>tt ?_;refine sw o fun H o=>tt ?_;refine sw o.swap fun H o=>tt ?_;refine Ca 4 o rfl fun H o=>?_;refine Ca 3 o rfl fun H o=>?_;exact Vg [1,3,4] ⟨rfl,o.sub⟩
 clear o
 rintro σ H ⟨rfl,os⟩;refine tt ?_;refine AD [1,3,4] (G:=Unit) (fun k _=>[(5,some (.int .i64 (k : Int)))]) (fun k _ H'=>H'=H∧∀ i : Nat,i<k→p.LY i) p.AL.AF.toNat () ⟨rfl,fun i hi=>by omega⟩ rfl ?_
 rintro y _ H1 hy ⟨rfl,all1⟩;refine tt ?_;apply bk <;> intro h1
 ·have AU:=A6 h1
  have w:=ws y
  have L9 : p.AL.ES y:=⟨by omega,AU⟩;refine tt ?_;refine AD [1,3,4,5] (G:=Unit) (fun k _=>[(6,some (.int .i64 (k : Int)))]) (fun k _ H'=>H'=H1∧∀ i : Nat,i<k→p.LI i y) p.src.AF.toNat () ⟨rfl,fun i hi=>by omega⟩ rfl ?_
  rintro x _ H hx ⟨rfl,all2⟩;refine tt ?_;apply bk <;> intro h2
  ·have Aq:=A6 h2
   have W8 : p.src.ES x:=⟨by omega,by omega⟩
   have w2:=ws x
   have s4:=sh.sI.1.uT W8
   have GD:=sh.tI.1.uT L9
   have ii1:=sh.sI.1.mZ W8
   have ii2:=sh.tI.1.mZ L9
   have b1:=sh.e9 s4.1
   have b2:=sh.Uv s4.1 L9
   have b3:=sh.cK GD.1
   have b4:=sh.Uj GD.1 W8
   have q:=(sh.rl _ W8).2 _ L9
   have qq : 0≤(p.AK.getD x default).getD y default∧(p.AK.getD x default).getD y default≤4096:=⟨q.1,Int.le_trans q.2 (by decide)⟩
   have m1:=(sh.bm _ s4.1).2 _ L9
   have m2:=(sh.hm _ GD.1).2 _ W8
   have l1 : (((ix p.before (p.src.Ac.getD x default)).getD y default).length : Int)=(p.AK.getD x default).getD y default:=by
    have e:=m1.len
    have e2 : ix p.src.to (ix p.src.Ac (x : Int))=x:=s4.2.2;rw [e2] at e
    have e3 : ((p.bf (ix p.src.Ac (x : Int)) y).length : Int)=p.sz x y:=by omega
    exact e3
   have l2 : (((ix p.behind (p.AL.Ac.getD y default)).getD x default).length : Int)=(p.AK.getD x default).getD y default:=by
    have e:=m2.len
    have e2 : ix p.AL.AB (ix p.AL.Ac (y : Int))=y:=GD.2.1;rw [e2] at e
    have e3 : ((p.bh (ix p.AL.Ac (y : Int)) x).length : Int)=p.sz x y:=by omega
    exact e3
   refine tt ?_
   (repeat (refine ⟨by first | exact Aq | exact ii1.2 | exact ii2.2 | exact b1 | exact b2.2 | exact b3 | exact b4.2, ?_⟩))
   refine ⟨_,(SI B ((ix p.before (p.src.Ac.getD x default)).getD y default) _ l1 (by omega)).run, ?_⟩
   by_cases e1 : (ix p.before (p.src.Ac.getD x default)).getD y default=BG ((p.AK.getD x default).getD y default)
   rotate_left
   ·rw [Ad e1];refine tt ?_;exact A5 (by rw [Ad fun h=>e1 (h.bi _ _ W8 L9)]) os
   rw [Av e1];refine tt ?_
   (repeat (refine ⟨by first | exact Aq | exact ii1.2 | exact ii2.2 | exact b1 | exact b2.2 | exact b3 | exact b4.2, ?_⟩))
   refine ⟨_,(SI B ((ix p.behind (p.AL.Ac.getD y default)).getD x default) _ l2 (by omega)).run, ?_⟩
   by_cases e2 : (ix p.behind (p.AL.Ac.getD y default)).getD x default=BG ((p.AK.getD x default).getD y default)
   rotate_left
   ·rw [Ad e2];refine tt ?_;exact A5 (by rw [Ad fun h=>e2 (h.hi _ _ W8 L9)]) os
   rw [Av e2];refine tw w2 ?_;refine A4 () (by omega) ⟨rfl,fun i hi=>?_⟩ rfl
   rcases Nat.lt_succ_iff_lt_or_eq.mp hi with h | rfl
   ·exact all2 i h
   ·exact ⟨e1,e2⟩
  have xB:=A7 h2
  obtain rfl : x=p.src.AF.toNat:=by omega
  clear h2 hx;refine tt ?_;refine AD [1,3,4,5] (G:=Unit) (fun k _=>[(7,some (.int .i64 (k : Int)))]) (fun k _ H'=>H'=H∧∀ i : Nat,i<k→∀ j : Nat,j<p.src.AB.length→p.LB y i j) p.src.AB.length () ⟨rfl,fun i hi=>by omega⟩ rfl ?_
  rintro a _ H ha ⟨rfl,all3⟩;refine tt ?_;apply bk <;> intro h2
  ·have Aq:=A6 h2
   have Ke : p.src.DB a:=⟨by omega,Aq⟩
   have w2:=ws a
   have cj:=sh.sI.1.nA Ke
   have cj : (p.src.comp.getD a default).length=p.src.AB.length:=cj
   have ci:=sh.sI.1.oA Ke
   have ci2 : a<p.src.comp.length:=by have:=ci.2; simpa using this
   refine tt ?_;refine AD [1,3,4,5,7] (G:=Unit) (fun k _=>[(8,some (.int .i64 (k : Int)))]) (fun k _ H'=>H'=H∧∀ j : Nat,j<k→p.LB y a j) p.src.AB.length () ⟨rfl,fun i hi=>by omega⟩ rfl ?_
   rintro b _ H hb ⟨rfl,all4⟩;refine tt ?_;apply bk <;> intro h3
   ·have BH:=A6 h3
    have OM : p.src.DB b:=⟨by omega,BH⟩
    have w3:=ws b
    have xh : b<(p.src.comp.getD a default).length:=by rw [cj]; exact BH
    refine tt ?_;refine ⟨ci2,xh, ?_⟩
    rcases sh.sI.1.qM Ke OM with ⟨Xv,hc⟩ | hc
    ·have LF : 0≤(p.src.comp.getD a default).getD b default:=hc.1;rw [decide_eq_true LF]
     have b1:=sh.e9 hc
     have b2:=sh.Uv hc L9
     have b3:=sh.e9 Ke
     have b4:=sh.Uv Ke L9
     have b5:=sh.e9 OM
     have b6:=sh.Uv OM L9
     have m1:=(sh.bm _ Ke).2 _ L9
     have m2:=(sh.bm _ OM).2 _ L9;rw [← Xv] at m2;refine tt ?_
     (repeat (refine ⟨by first | exact b1 | exact b2.2 | exact b3.2 | exact b4.2 | exact b5.2 | exact b6.2, ?_⟩))
     refine ⟨_,IQ B m2 m1,_,(D7 B (p.bf (ix (ix p.src.comp a) b) y) (iC (p.bf b y) (p.bf a y))).run, ?_⟩
     by_cases hl : p.bf (ix (ix p.src.comp a) b) y=iC (p.bf b y) (p.bf a y)
     ·rw [Av hl];refine tw w3 ?_;refine A4 () BH ⟨rfl,fun i hi=>?_⟩ rfl
      rcases Nat.lt_succ_iff_lt_or_eq.mp hi with h | rfl
      ·exact all4 i h
      ·exact fun _=>hl
     ·rw [Ad hl];refine tt ?_;exact A5 (by rw [Ad fun h=>hl (h.bc _ _ _ Ke OM Xv L9)]) os
    ·have LF : ¬ 0≤(p.src.comp.getD a default).getD b default:=by
      have e : (p.src.comp.getD a default).getD b default=-1:=hc;omega
     rw [decide_eq_false LF];refine tw w3 ?_;refine A4 () BH ⟨rfl,fun i hi=>?_⟩ rfl
     rcases Nat.lt_succ_iff_lt_or_eq.mp hi with h | rfl
     ·exact all4 i h
     ·exact fun Xv=>absurd (Kh sh.sI Ke OM Xv) LF
   ·have MP:=A7 h3
    obtain rfl : b=p.src.AB.length:=by omega
    refine tw w2 ?_;refine A4 () Aq ⟨rfl,fun i hi=>?_⟩ rfl
    rcases Nat.lt_succ_iff_lt_or_eq.mp hi with h | rfl
    ·exact all3 i h
    ·exact all4
  ·have MP:=A7 h2
   obtain rfl : a=p.src.AB.length:=by omega
   refine tw w ?_;refine A4 () (by omega) ⟨rfl,fun i hi=>?_⟩ rfl
   rcases Nat.lt_succ_iff_lt_or_eq.mp hi with h | rfl
   ·exact all1 i h
   ·exact ⟨all2,all3⟩
 have Sd:=A7 h1
 obtain rfl : y=p.AL.AF.toNat:=by omega
 clear h1 hy;refine tt ?_;refine AD [1,3,4] (G:=Unit) (fun k _=>[(10,some (.int .i64 (k : Int)))]) (fun k _ H'=>H'=H1∧∀ i : Nat,i<k→∀ a : Nat,a<p.AL.AB.length→∀ b : Nat,b<p.AL.AB.length→p.LH i a b) p.src.AF.toNat () ⟨rfl,fun i hi=>by omega⟩ rfl ?_
 rintro y _ H hy ⟨rfl,all5⟩;refine tt ?_;apply bk <;> intro h1
 ·have AU:=A6 h1
  have w:=ws y
  have L9 : p.src.ES y:=⟨by omega,AU⟩;refine tt ?_;refine AD [1,3,4,10] (G:=Unit) (fun k _=>[(11,some (.int .i64 (k : Int)))]) (fun k _ H'=>H'=H∧∀ i : Nat,i<k→∀ b : Nat,b<p.AL.AB.length→p.LH y i b) p.AL.AB.length () ⟨rfl,fun i hi=>by omega⟩ rfl ?_
  rintro a _ H ha ⟨rfl,all6⟩;refine tt ?_;apply bk <;> intro h2
  ·have Aq:=A6 h2
   have Ke : p.AL.DB a:=⟨by omega,Aq⟩
   have w2:=ws a
   have cj:=sh.tI.1.nA Ke
   have cj : (p.AL.comp.getD a default).length=p.AL.AB.length:=cj
   have ci:=sh.tI.1.oA Ke
   have ci2 : a<p.AL.comp.length:=by have:=ci.2; simpa using this
   refine tt ?_;refine AD [1,3,4,10,11] (G:=Unit) (fun k _=>[(12,some (.int .i64 (k : Int)))]) (fun k _ H'=>H'=H∧∀ j : Nat,j<k→p.LH y a j) p.AL.AB.length () ⟨rfl,fun i hi=>by omega⟩ rfl ?_
   rintro b _ H hb ⟨rfl,all7⟩;refine tt ?_;apply bk <;> intro h3
   ·have BH:=A6 h3
    have OM : p.AL.DB b:=⟨by omega,BH⟩
    have w3:=ws b
    have xh : b<(p.AL.comp.getD a default).length:=by rw [cj]; exact BH
    refine tt ?_;refine ⟨ci2,xh, ?_⟩
    rcases sh.tI.1.qM Ke OM with ⟨Xv,hc⟩ | hc
    ·have LF : 0≤(p.AL.comp.getD a default).getD b default:=hc.1;rw [decide_eq_true LF]
     have b1:=sh.cK hc
     have b2:=sh.Uj hc L9
     have b3:=sh.cK Ke
     have b4:=sh.Uj Ke L9
     have b5:=sh.cK OM
     have b6:=sh.Uj OM L9
     have m1:=(sh.hm _ Ke).2 _ L9
     have m2:=(sh.hm _ OM).2 _ L9;rw [← Xv] at m2;refine tt ?_
     (repeat (refine ⟨by first | exact b1 | exact b2.2 | exact b3.2 | exact b4.2 | exact b5.2 | exact b6.2, ?_⟩))
     refine ⟨_,IQ B m1 m2,_,(D7 B (p.bh (ix (ix p.AL.comp a) b) y) (iC (p.bh a y) (p.bh b y))).run, ?_⟩
     by_cases hl : p.bh (ix (ix p.AL.comp a) b) y=iC (p.bh a y) (p.bh b y)
     ·rw [Av hl];refine tw w3 ?_;refine A4 () BH ⟨rfl,fun i hi=>?_⟩ rfl
      rcases Nat.lt_succ_iff_lt_or_eq.mp hi with h | rfl
      ·exact all7 i h
      ·exact fun _=>hl
     ·rw [Ad hl];refine tt ?_;exact A5 (by rw [Ad fun h=>hl (h.hc _ _ _ Ke OM Xv L9)]) os
    ·have LF : ¬ 0≤(p.AL.comp.getD a default).getD b default:=by
      have e : (p.AL.comp.getD a default).getD b default=-1:=hc;omega
     rw [decide_eq_false LF];refine tw w3 ?_;refine A4 () BH ⟨rfl,fun i hi=>?_⟩ rfl
     rcases Nat.lt_succ_iff_lt_or_eq.mp hi with h | rfl
     ·exact all7 i h
     ·exact fun Xv=>absurd (Kh sh.tI Ke OM Xv) LF
   ·have MP:=A7 h3
    obtain rfl : b=p.AL.AB.length:=by omega
    refine tw w2 ?_;refine A4 () Aq ⟨rfl,fun i hi=>?_⟩ rfl
    rcases Nat.lt_succ_iff_lt_or_eq.mp hi with h | rfl
    ·exact all6 i h
    ·exact all7
  ·have MP:=A7 h2
   obtain rfl : a=p.AL.AB.length:=by omega
   refine tw w ?_;refine A4 () (by omega) ⟨rfl,fun i hi=>?_⟩ rfl
   rcases Nat.lt_succ_iff_lt_or_eq.mp hi with h | rfl
   ·exact all5 i h
   ·exact all6
 have Sd:=A7 h1
 obtain rfl : y=p.src.AF.toNat:=by omega
 clear h1 hy;refine tt ?_;refine AD [1,3,4] (G:=Unit) (fun k _=>[(14,some (.int .i64 (k : Int)))]) (fun k _ H'=>H'=H∧∀ i : Nat,i<k→∀ b : Nat,b<p.AL.AB.length→p.LL i b) p.src.AB.length () ⟨rfl,fun i hi=>by omega⟩ rfl ?_
 rintro a _ H ha ⟨rfl,all8⟩;refine tt ?_;apply bk <;> intro h1
 ·have AU:=A6 h1
  have w:=ws a
  have Ke : p.src.DB a:=⟨by omega,AU⟩;refine tt ?_;refine AD [1,3,4,14] (G:=Unit) (fun k _=>[(15,some (.int .i64 (k : Int)))]) (fun k _ H'=>H'=H∧∀ j : Nat,j<k→p.LL a j) p.AL.AB.length () ⟨rfl,fun i hi=>by omega⟩ rfl ?_
  rintro b _ H hb ⟨rfl,all9⟩;refine tt ?_;apply bk <;> intro h2
  ·have Aq:=A6 h2
   have w2:=ws b
   have OM : p.AL.DB b:=⟨by omega,Aq⟩
   have fa:=sh.sI.1.pO Ke
   have ta:=sh.sI.1.qR Ke
   have fb:=sh.tI.1.pO OM
   have tb:=sh.tI.1.qR OM
   have i1:=sh.sI.1.v9 Ke
   have i2:=sh.tI.1.v9 OM
   have b0:=sh.e9 Ke
   have c0:=sh.cK OM
   have b1:=sh.Uv Ke fb
   have b2:=sh.Uv Ke tb
   have b3:=sh.Uj OM fa
   have b4:=sh.Uj OM ta
   have m1:=(sh.bm _ Ke).2 _ fb
   have m2:=(sh.bm _ Ke).2 _ tb
   have m3:=(sh.hm _ OM).2 _ fa
   have m4:=(sh.hm _ OM).2 _ ta;refine tt ?_
   (repeat (refine ⟨by first | exact AU | exact Aq | exact b0.2 | exact c0.2 | exact i1.2 | exact i2.2 | exact b1 | exact b2 | exact b3 | exact b4, ?_⟩))
   refine ⟨_,IQ B m1 m3,tt ?_⟩
   (repeat (refine ⟨by first | exact AU | exact Aq | exact b0.2 | exact c0.2 | exact i1.2 | exact i2.2 | exact b1 | exact b2 | exact b3 | exact b4, ?_⟩))
   refine ⟨_,IQ B m4 m2,tt ?_⟩;refine (D7 B (iC (p.bf a (ix p.AL.AB b)) (p.bh b (ix p.src.AB a))) (iC (p.bh b (ix p.src.to a)) (p.bf a (ix p.AL.to b)))).go fun _=>?_
   by_cases law : iC (p.bf a (ix p.AL.AB b)) (p.bh b (ix p.src.AB a))=iC (p.bh b (ix p.src.to a)) (p.bf a (ix p.AL.to b))
   ·rw [Av law];refine tw w2 ?_;refine A4 () Aq ⟨rfl,fun i hi=>?_⟩ rfl
    rcases Nat.lt_succ_iff_lt_or_eq.mp hi with h | rfl
    ·exact all9 i h
    ·exact law
   ·rw [Ad law];refine tt ?_;exact A5 (by rw [Ad fun h=>law (h.bb _ _ Ke OM)]) os
  ·have xB:=A7 h2
   obtain rfl : b=p.AL.AB.length:=by omega
   refine tw w ?_;refine A4 () AU ⟨rfl,fun i hi=>?_⟩ rfl
   rcases Nat.lt_succ_iff_lt_or_eq.mp hi with h | rfl
   ·exact all8 i h
   ·exact all9
 ·have Sd:=A7 h1
  obtain rfl : a=p.src.AB.length:=by omega
  refine tt ?_;exact A5 (by rw [Av (VB all1 all5 all8)]) os
theorem Lm (B : Nat) (p : PF) : PB B 114 [.agg p.cells] (.bool (dec p.Is)):=by
 refine ⟨fun H0=>rk.go fun _=>tt ?_⟩;refine (Jk B p.src).go fun _=>?_
 by_cases hs : p.src.Is
 rotate_left
 ·rw [Ad hs];refine tt ?_;exact A5 (by rw [Ad fun h=>hs h.SZ.sI]) (.refl _)
 rw [Av hs];refine tt ?_;refine (Jk B p.AL).go fun _=>?_
 by_cases ht : p.AL.Is
 rotate_left
 ·rw [Ad ht];refine tt ?_;exact A5 (by rw [Ad fun h=>ht h.SZ.tI]) (.refl _)
 rw [Av ht];refine tt ?_;refine (X8 B p hs ht).go fun _=>?_
 by_cases hz : p.Oc
 rotate_left
 ·rw [Ad hz];refine tt ?_;exact A5 (by rw [Ad fun h=>hz h.SZ.sized]) (.refl _)
 rw [Av hz];refine tt ?_;refine (U2 B p hs ht hz).go fun _=>?_
 by_cases sh : p.Shape
 rotate_left
 ·rw [Ad sh];refine tt ?_;exact A5 (by rw [Ad fun h=>sh h.SZ]) (.refl _)
 rw [Av sh];refine tt ?_;refine (Sj B p sh).go fun _=>?_
 by_cases hl : p.Laws
 ·rw [Av hl];refine tt ?_;exact A5 (by rw [Av ⟨sh,hl⟩]) (.refl _)
 ·rw [Ad hl];refine tt ?_;exact A5 (by rw [Ad fun h=>hl h.laws]) (.refl _)
theorem Qk (B : Nat) (p : PF) : PB B 172 [.ptr p.cells] (.bool (dec p.Shape)):=by
 refine ⟨fun H0=>tj.go fun _=>tt ?_⟩;refine ⟨_,(UG B [p.src,p.AL]).run, ?_⟩
 by_cases Pe : p.src.Is∧p.AL.Is
 rotate_left
 ·rw [show dec (∀ c,c∈[p.src,p.AL]→c.Is)=false from Ad (fun h=>Pe ⟨h _ List.mem_cons_self,h _ (List.mem_cons_of_mem _ List.mem_cons_self)⟩)];refine tt ?_;exact A5 (by rw [Ad fun h=>Pe ⟨h.sI,h.tI⟩]) (.refl _)
 obtain ⟨hs,ht⟩:=Pe;rw [Av (fun k hk=>by rcases List.mem_cons.mp hk with rfl | hk; exact hs; obtain rfl:=List.mem_singleton.mp hk; exact ht)]
 have so:=hs.1.o
 have to:=ht.1.o
 have sm:=hs.1.m
 have tm:=ht.1.m;refine tt ?_
 by_cases sl : (p.AK.length : Int)=p.src.AF
 rotate_left
 ·rw [decide_eq_false sl];refine tt ?_;exact A5 (by rw [Ad fun h=>sl h.sl]) (.refl _)
 rw [decide_eq_true sl];refine tt ?_;refine ⟨_,(GO B p.src).run, ?_⟩
 by_cases bl : p.before.length=p.src.AB.length
 rotate_left
 ·try simp only [go_sem,↓reduceIte,reduceEqDiff,reduceAdd,reduceMul,reduceLeDiff,reduceLT,bl,ju]
  exact A5 (by rw [Ad fun h=>bl h.bl]) (.refl _)
 try simp only [go_sem,↓reduceIte,reduceEqDiff,reduceAdd,reduceMul,reduceLeDiff,reduceLT,bl,wH]
 refine ⟨_,(GO B p.AL).run, ?_⟩
 by_cases hl : p.behind.length=p.AL.AB.length
 rotate_left
 ·try simp only [go_sem,↓reduceIte,reduceEqDiff,reduceAdd,reduceMul,reduceLeDiff,reduceLT,hl,ju]
  exact A5 (by rw [Ad fun h=>hl h.hl]) (.refl _)
 try simp only [go_sem,↓reduceIte,reduceEqDiff,reduceAdd,reduceMul,reduceLeDiff,reduceLT,hl,wH]
 refine AD [0,3,4,61,62] (G:=Unit) (fun k _=>[(63,some (.int .i64 (k : Int)))]) (fun k _ H=>H=H0∧∀ x : Nat,x<k→p.eX x) p.AK.length () ⟨rfl,fun x hx=>by omega⟩ rfl ?_
 rintro k _ H hk ⟨rfl,all0⟩;refine tt ?_;apply bk <;> intro h1
 ·have AU:=A6 h1
  have w:=ws k;refine tt ?_;refine ⟨AU, ?_⟩
  by_cases LD : ((p.AK.getD k default).length : Int)=p.AL.AF
  rotate_left
  ·rw [decide_eq_false LD];refine tt ?_;exact A5 (by rw [Ad fun h=>LD (h.sized.rl k AU).1]) (.refl _)
  rw [decide_eq_true LD];refine tt ?_;refine (E4 B _ 65 (by omega)).go fun _=>?_
  by_cases Iy : ∀ y,y∈p.AK.getD k default→0≤y∧y<65
  ·rw [Av Iy];refine tw w ?_;refine A4 () AU ⟨rfl,fun i hi=>?_⟩ rfl
   rcases Nat.lt_succ_iff_lt_or_eq.mp hi with h | rfl
   ·exact all0 i h
   ·exact ⟨LD,fun y hy=>by have:=Iy _ (AE.mpr ⟨y,hy,rfl⟩); omega⟩
  ·rw [Ad Iy];refine tt ?_;refine A5 ?_ (.refl _);rw [Ad]
   intro h;refine Iy fun y hy=>?_
   obtain ⟨i,hi,rfl⟩:=AE.mp hy
   have:=(h.sized.rl k AU).2 i hi;omega
 have AU:=A7 h1
 obtain rfl : k=p.AK.length:=by omega
 have hz : p.Oc:=⟨sl,bl,hl,all0⟩
 have WK : ∀ x,p.src.ES x→0≤x∧x.toNat<p.AK.length:=fun x hx=>by obtain ⟨h1,h2⟩:=hx; omega
 have Ws : ∀ x y,p.src.ES x→p.AL.ES y→0≤y∧y.toNat<(ix p.AK x).length:=fun x y hx hy=>by
  have:=(hz.rl x.toNat (WK x hx).2).1
  obtain ⟨h1,h2⟩:=hy
  have e : ((ix p.AK x).length : Int)=p.AL.AF:=this;omega
 have Cy : ∀ x y,p.src.ES x→p.AL.ES y→0≤p.sz x y∧p.sz x y≤64:=fun x y hx hy=>(hz.rl x.toNat (WK x hx).2).2 y.toNat (Ws x y hx hy).2;clear h1 AU hk;refine tt ?_;refine AD [0,3,4,83,84] (G:=Unit) (fun k _=>[(85,some (.int .i64 (k : Int)))]) (fun k _ H'=>H'=H∧∀ a : Nat,a<k→p.cL a) p.before.length () ⟨rfl,fun x hx=>by omega⟩ rfl ?_
 rintro k _ H hk ⟨rfl,all1⟩;refine tt ?_;apply bk <;> intro h1
 ·have AU:=A6 h1
  have JR : p.src.DB k:=⟨by omega,by show (k : Int).toNat<_; omega⟩
  have w:=ws k
  have v9:=hs.1.v9 JR
  have pO:=hs.1.pO JR
  have qR:=hs.1.qR JR
  have szF:=WK _ pO
  have szT:=WK _ qR;refine tt ?_;refine ⟨AU, ?_⟩
  by_cases LD : ((p.before.getD k default).length : Int)=p.AL.AF
  rotate_left
  ·rw [decide_eq_false LD];refine tt ?_;exact A5 (by rw [Ad fun h=>LD (h.bm k JR).1]) (.refl _)
  rw [decide_eq_true LD];refine tt ?_;refine AD [0,3,4,7,83,84,85,97,98] (G:=Unit) (fun k _=>[(99,some (.int .i64 (k : Int)))]) (fun j _ H'=>H'=H∧∀ y : Nat,y<j→p.WH k y) (p.before.getD k default).length () ⟨rfl,fun y hy=>by omega⟩ rfl ?_
  rintro j _ H hj ⟨rfl,Iy⟩;refine tt ?_;apply bk <;> intro h2
  ·have Aq:=A6 h2
   have FG : p.AL.ES j:=⟨by omega,by omega⟩
   have w2:=ws j
   have szj:=Ws _ _ pO FG
   have szj2:=Ws _ _ qR FG
   have q1:=Cy _ _ pO FG
   have hb : (ix p.AK (p.src.AB.getD k default)).getD j default≤64∧0≤(ix p.AK (p.src.AB.getD k default)).getD j default:=⟨q1.2,q1.1⟩;refine tt ?_
   (repeat (refine ⟨by first | exact Aq | exact AU | exact JR.2 | exact v9.2 | exact szF | exact szT | exact szj.2 | exact szj2.2, ?_⟩))
   refine ⟨_,(MJ B _ _ _ (by omega)).run, ?_⟩
   by_cases hm : (((p.before.getD k default).getD j default).length : Int)=(ix p.AK (p.src.to.getD k default)).getD j default∧∀ y,y∈(p.before.getD k default).getD j default→0≤y∧y<(ix p.AK (p.src.AB.getD k default)).getD j default
   ·rw [Av hm];refine tw w2 ?_;refine A4 () Aq ⟨rfl,fun i hi=>?_⟩ rfl
    rcases Nat.lt_succ_iff_lt_or_eq.mp hi with h | rfl
    ·exact Iy i h
    ·exact hm
   ·rw [Ad hm];refine tt ?_;exact A5 (by rw [Ad fun h=>hm (h.fL JR FG)]) (.refl _)
  ·have Aq:=A7 h2
   obtain rfl : j=(p.before.getD k default).length:=by omega
   refine tw w ?_;refine A4 () AU ⟨rfl,fun i hi=>?_⟩ rfl
   rcases Nat.lt_succ_iff_lt_or_eq.mp hi with h | rfl
   ·exact all1 i h
   ·exact ⟨LD,Iy⟩
 have AU:=A7 h1
 obtain rfl : k=p.before.length:=by omega
 clear h1 AU hk;refine tt ?_;refine AD [0,3,4,144,145] (G:=Unit) (fun k _=>[(146,some (.int .i64 (k : Int)))]) (fun k _ H'=>H'=H∧∀ a : Nat,a<k→p.bO a) p.behind.length () ⟨rfl,fun x hx=>by omega⟩ rfl ?_
 rintro k _ H hk ⟨rfl,all2⟩;refine tt ?_;apply bk <;> intro h1
 ·have AU:=A6 h1
  have JR : p.AL.DB k:=⟨by omega,by show (k : Int).toNat<_; omega⟩
  have w:=ws k
  have v9:=ht.1.v9 JR
  have pO:=ht.1.pO JR
  have qR:=ht.1.qR JR;refine tt ?_;refine ⟨AU, ?_⟩
  by_cases LD : ((p.behind.getD k default).length : Int)=p.src.AF
  rotate_left
  ·rw [decide_eq_false LD];refine tt ?_;exact A5 (by rw [Ad fun h=>LD (h.hm k JR).1]) (.refl _)
  rw [decide_eq_true LD];refine tt ?_;refine AD [0,3,4,11,144,145,146,158,159] (G:=Unit) (fun k _=>[(160,some (.int .i64 (k : Int)))]) (fun j _ H'=>H'=H∧∀ y : Nat,y<j→p.Ud k y) (p.behind.getD k default).length () ⟨rfl,fun y hy=>by omega⟩ rfl ?_
  rintro j _ H hj ⟨rfl,Iy⟩;refine tt ?_;apply bk <;> intro h2
  ·have Aq:=A6 h2
   have hJ : p.src.ES j:=⟨by omega,by omega⟩
   have w2:=ws j
   have szx:=WK _ hJ
   have szj:=Ws _ _ hJ pO
   have szj2:=Ws _ _ hJ qR
   have q2:=Cy _ _ hJ qR
   have hb : ix (p.AK.getD j default) (p.AL.to.getD k default)≤64∧0≤ix (p.AK.getD j default) (p.AL.to.getD k default):=⟨q2.2,q2.1⟩;refine tt ?_
   (repeat (refine ⟨by first | exact Aq | exact AU | exact JR.2 | exact v9.2 | exact szx.2 | exact szj | exact szj2, ?_⟩))
   refine ⟨_,(MJ B _ _ _ (by omega)).run, ?_⟩
   by_cases hm : (((p.behind.getD k default).getD j default).length : Int)=ix (p.AK.getD j default) (p.AL.AB.getD k default)∧∀ y,y∈(p.behind.getD k default).getD j default→0≤y∧y<ix (p.AK.getD j default) (p.AL.to.getD k default)
   ·rw [Av hm];refine tw w2 ?_;refine A4 () Aq ⟨rfl,fun i hi=>?_⟩ rfl
    rcases Nat.lt_succ_iff_lt_or_eq.mp hi with h | rfl
    ·exact Iy i h
    ·exact hm
   ·rw [Ad hm];refine tt ?_;exact A5 (by rw [Ad fun h=>hm (h.Z6 JR hJ)]) (.refl _)
  ·have Aq:=A7 h2
   obtain rfl : j=(p.behind.getD k default).length:=by omega
   refine tw w ?_;refine A4 () AU ⟨rfl,fun i hi=>?_⟩ rfl
   rcases Nat.lt_succ_iff_lt_or_eq.mp hi with h | rfl
   ·exact all2 i h
   ·exact ⟨LD,Iy⟩
 have AU:=A7 h1
 obtain rfl : k=p.behind.length:=by omega
 refine tt ?_;exact A5 (by rw [Av (Qp hs ht hz all1 all2)]) (.refl _)
end Go.Proofs.Shf
namespace Go.Shf
open Go.AW
section
variable {α : Type}
def BP (g : Nat→List α) (n : Nat) : List α:=(List.range n).flatMap g
theorem EW (g : Nat→List α) : BP g 0=[]:=rfl
theorem BV (g : Nat→List α) (n : Nat) : BP g (n+1)=BP g n++g n:=by simp [BP,List.range_succ]
theorem Dj (g : Nat→List α) {x n : Nat} (h : x≤n) : ∃ r,BP g n=BP g x++r:=by
 induction n with
 | zero =>
  obtain rfl : x=0:=by omega
  exact ⟨[],by simp⟩
 | succ n ih =>
  by_cases e : x=n+1
  ·subst e; exact ⟨[],by simp⟩
  ·obtain ⟨r,hr⟩:=ih (by omega);exact ⟨r++g n,by rw [BV,hr,List.append_assoc]⟩
theorem Vr (g : Nat→List α) {n x k : Nat} (hx : x<n) (hk : k<(g x).length) : (BP g n)[(BP g x).length+k]? = (g x)[k]? := by
 obtain ⟨r,hr⟩:=Dj g (x:=x+1) (n:=n) hx;rw [hr,BV,List.append_assoc,List.getElem?_append_right (by omega),List.getElem?_append_left (by omega)]
 congr 1; omega
theorem lJ (g : Nat→List α) {n x k : Nat} (hx : x<n) (hk : k<(g x).length) : (BP g x).length+k<(BP g n).length:=by
 obtain ⟨r,hr⟩:=Dj g (x:=x+1) (n:=n) hx;rw [hr,BV]; simp only [List.length_append]; omega
theorem Q8 (g : Nat→List α) : ∀ {n i : Nat},i<(BP g n).length→∃ x k,x<n∧k<(g x).length∧i=(BP g x).length+k
 | 0,i,h=>by simp [BP] at h
 | n+1,i,h=>by
  by_cases e : i<(BP g n).length
  ·obtain ⟨x,k,h1,h2,h3⟩:=Q8 g e;exact ⟨x,k,by omega,h2,h3⟩
  ·rw [BV,List.length_append] at h;exact ⟨n,i - (BP g n).length,by omega,by omega,by omega⟩
end
section
variable (p : PF)
def CK (x y : Nat) : List (Nat × Nat × Nat):=(List.range (p.sz x y).toNat).map fun e=>(x,y,e)
def FZ (x : Nat) : List (Nat × Nat × Nat):=BP (CK p x) p.AL.AF.toNat
def Cs : List (Nat × Nat × Nat):=BP (FZ p) p.src.AF.toNat
def BX (x y : Nat) : Nat:=(BP (FZ p) x).length+(BP (CK p x) y).length
end
section
variable {p : PF}
theorem DT (x y : Nat) : (CK p x y).length=(p.sz x y).toNat:=by simp [CK]
theorem KE {x y e : Nat} (hx : x<p.src.AF.toNat) (hy : y<p.AL.AF.toNat) (he : e<(p.sz x y).toNat) : (Cs p)[BX p x y+e]? = some (x,y,e):=by
 have h1 : (BP (CK p x) y).length+e<(FZ p x).length:=lJ (CK p x) hy (by rw [DT]; exact he)
 have h2:=Vr (FZ p) hx h1;rw [Cs,BX,Nat.add_assoc,h2,FZ,Vr (CK p x) hy (by rw [DT]; exact he),CK,List.getElem?_map,List.getElem?_range he]
 rfl
theorem HR {x y e : Nat} (hx : x<p.src.AF.toNat) (hy : y<p.AL.AF.toNat) (he : e<(p.sz x y).toNat) : BX p x y+e<(Cs p).length:=(List.getElem?_eq_some_iff.1 (KE hx hy he)).1
theorem OE {i : Nat} (h : i<(Cs p).length) : ∃ x y e,x<p.src.AF.toNat∧y<p.AL.AF.toNat∧e<(p.sz x y).toNat∧i=BX p x y+e:=by
 obtain ⟨x,k,hx,hk,rfl⟩:=Q8 (FZ p) h
 obtain ⟨y,e,hy,he,rfl⟩:=Q8 (CK p x) hk;exact ⟨x,y,e,hx,hy,by rwa [DT] at he,by rw [BX,Nat.add_assoc]⟩
theorem Se {x y e : Nat} (hx : x<p.src.AF.toNat) (hy : y<p.AL.AF.toNat) (he : e<(p.sz x y).toNat) : (Cs p).getD (BX p x y+e) default=(x,y,e):=by
 rw [Go.AW.gE,KE hx hy he]; rfl
theorem gY {x y e x' y' e' : Nat} (hx : x<p.src.AF.toNat) (hy : y<p.AL.AF.toNat) (he : e<(p.sz x y).toNat) (TM : x'<p.src.AF.toNat) (yH : y'<p.AL.AF.toNat) (oO : e'<(p.sz x' y').toNat)
  (h : BX p x y+e=BX p x' y'+e') : x=x'∧y=y'∧e=e':=by
 have h1:=KE hx hy he
 have h2:=KE TM yH oO;rw [h,h2] at h1
 have:=Option.some.inj h1;simp only [Prod.mk.injEq] at this;exact ⟨this.1.symm,this.2.1.symm,this.2.2.symm⟩
theorem NK (x y : Nat) : BX p x (y+1)=BX p x y+(p.sz x y).toNat:=by
 rw [BX,BX,BV,List.length_append,DT,Nat.add_assoc]
theorem Uo (x : Nat) : BX p x p.AL.AF.toNat=BX p (x+1) 0:=by
 rw [BX,BX,BV,List.length_append]; rfl
theorem RX : BX p 0 0=0:=rfl
theorem Qo : BX p p.src.AF.toNat 0=(Cs p).length:=by rw [BX,Cs]; simp [BP]
end
section
variable (p : PF)
def BR : Ax:=BW p.src p.AL
def Ag : Nat:=p.src.AB.length+p.AL.AB.length
def Bj : List Int:=(BR p).AB++(Cs p).map fun t=>(t.1 : Int)
def Bp : List Int:=(BR p).to++(Cs p).map fun t=>p.src.AF+(t.2.1 : Int)
def zT (f : Nat) (t : Nat × Nat × Nat) : Int:=Ag p+BX p (p.src.AB.getD f default).toNat t.2.1+ix (p.bf f t.2.1) t.2.2
def wO (t : Nat × Nat × Nat) (g : Nat) : Int:=Ag p+BX p t.1 (p.AL.to.getD (g - p.src.AB.length) default).toNat+ix (p.bh ((g - p.src.AB.length : Nat) : Int) t.1) t.2.2
def Cv (f g : Nat) : Int :=
 if (Bp p).getD f default≠(Bj p).getD g default then -1
 else if f<Ag p then (if g<Ag p then B7 (BR p) f g else zT p f ((Cs p).getD (g - Ag p) default))
 else wO p ((Cs p).getD (f - Ag p) default) g
def Ap : Nat:=Ag p+(Cs p).length
def BA : Ax:=⟨p.src.AF+p.AL.AF,Bj p,Bp p,(BR p).Ac,HX (Ap p) (Cv p)⟩
end
end Go.Shf
namespace Go.Shf
open Go.AW
section
variable {p : PF}
inductive qp (p : PF) (f : Nat) : Prop
 | l (h : f<p.src.AB.length)
 | r (k : Nat) (h : k<p.AL.AB.length) (e : f=p.src.AB.length+k)
 | e (x y z : Nat) (hx : x<p.src.AF.toNat) (hy : y<p.AL.AF.toNat) (hz : z<(p.sz x y).toNat) (e : f=Ag p+(BX p x y+z))
theorem side {f : Nat} (h : f<Ap p) : qp p f:=by
 by_cases h1 : f<p.src.AB.length
 ·exact .l h1
 by_cases h2 : f<Ag p
 ·exact .r (f - p.src.AB.length) (by rw [Ag] at h2; omega) (by omega)
 ·obtain ⟨x,y,z,hx,hy,hz,e⟩:=OE (p:=p) (i:=f - Ag p) (by rw [Ap] at h; omega);exact .e x y z hx hy hz (by omega)
theorem Ci : (Bj p).length=Ap p:=by rw [Bj,Ap,Ag,List.length_append,List.length_map,BR,KM]
theorem H4 (h : p.Shape) : (BR p).to.length=Ag p:=by rw [BR,BW,Ag]; simp [Oh,h.sI.1.L5,h.tI.1.L5]
theorem Ew (h : p.Shape) : (Bp p).length=Ap p:=by rw [Bp,Ap,List.length_append,List.length_map,H4 h]
theorem H6 : (BR p).AB.length=Ag p:=by rw [BR,KM,Ag]
section
variable (h : p.Shape)
include h
theorem DQ {f : Nat} (hf : f<p.src.AB.length) : (Bj p).getD f default=p.src.AB.getD f default:=by
 rw [Bj,EU (by rw [H6,Ag]; omega)]; exact EL hf
theorem FF {f : Nat} (hf : f<p.src.AB.length) : (Bp p).getD f default=p.src.to.getD f default:=by
 have tl:=h.sI.1.L5;rw [Bp,EU (by rw [H4 h,Ag]; omega)];exact EU (by rw [tl]; exact hf)
theorem DZ {k : Nat} (hk : k<p.AL.AB.length) : (Bj p).getD (p.src.AB.length+k) default=p.AL.AB.getD k default+p.src.AF:=by
 rw [Bj,EU (by rw [H6,Ag]; omega)]
 have:=EF (c:=p.src) (e:=p.AL) (f:=p.src.AB.length+k) (by omega) (by omega)
 rwa [show p.src.AB.length+k - p.src.AB.length=k by omega] at this
theorem Dd {k : Nat} (hk : k<p.AL.AB.length) : (Bp p).getD (p.src.AB.length+k) default=p.AL.to.getD k default+p.src.AF:=by
 have tl:=h.sI.1.L5
 have tl2:=h.tI.1.L5;rw [Bp,EU (by rw [H4 h,Ag]; omega)]
 show (p.src.to++Oh p.src.AF p.AL.to).getD _ default=_
 rw [G7 (by rw [tl]; omega),tl,show p.src.AB.length+k - p.src.AB.length=k by omega];exact Tt (by rw [tl2]; exact hk)
theorem F5 {x y z : Nat} (hx : x<p.src.AF.toNat) (hy : y<p.AL.AF.toNat) (hz : z<(p.sz x y).toNat) : (Bj p).getD (Ag p+(BX p x y+z)) default=(x : Int):=by
 rw [Bj,G7 (by rw [H6]; omega),H6,show Ag p+(BX p x y+z) - Ag p=BX p x y+z by omega,Go.AW.gE,List.getElem?_map,KE hx hy hz]; rfl
theorem Fx {x y z : Nat} (hx : x<p.src.AF.toNat) (hy : y<p.AL.AF.toNat) (hz : z<(p.sz x y).toNat) : (Bp p).getD (Ag p+(BX p x y+z)) default=p.src.AF+(y : Int):=by
 rw [Bp,G7 (by rw [H4 h]; omega),H4 h,show Ag p+(BX p x y+z) - Ag p=BX p x y+z by omega,Go.AW.gE,List.getElem?_map,KE hx hy hz]; rfl
theorem GH {f : Nat} (hf : f<p.src.AB.length) : (0≤p.src.AB.getD f default∧p.src.AB.getD f default<p.src.AF)∧0≤p.src.to.getD f default∧p.src.to.getD f default<p.src.AF :=
 ⟨h.sI.1.AB _ (AE.mpr ⟨f,hf,rfl⟩),h.sI.1.to _ (AE.mpr ⟨f,by rw [h.sI.1.L5]; exact hf,rfl⟩)⟩
theorem Fc {f : Nat} (hf : f<p.AL.AB.length) : (0≤p.AL.AB.getD f default∧p.AL.AB.getD f default<p.AL.AF)∧0≤p.AL.to.getD f default∧p.AL.to.getD f default<p.AL.AF :=
 ⟨h.tI.1.AB _ (AE.mpr ⟨f,hf,rfl⟩),h.tI.1.to _ (AE.mpr ⟨f,by rw [h.tI.1.L5]; exact hf,rfl⟩)⟩
theorem bfN {f y z : Nat} (hf : f<p.src.AB.length) (hy : y<p.AL.AF.toNat) (hz : z<(p.sz (p.src.to.getD f default).toNat y).toNat) :
  ∃ w : Nat,ix (p.bf f y) z=(w : Int)∧w<(p.sz (p.src.AB.getD f default).toNat y).toNat:=by
 have r:=GH h hf
 have ha : p.src.DB (f : Int):=⟨by omega,by simpa using hf⟩
 have L9 : p.AL.ES (y : Int):=⟨by omega,by omega⟩
 have m:=(h.bm _ ha).2 _ L9
 have e1 : (((p.src.to.getD f default).toNat : Nat) : Int)=ix p.src.to (f : Int):=Int.toNat_of_nonneg r.2.1
 have e2 : (((p.src.AB.getD f default).toNat : Nat) : Int)=ix p.src.AB (f : Int):=Int.toNat_of_nonneg r.1.1;rw [e1] at hz
 have q:=m.at (i:=(z : Int)) ⟨by omega,by omega⟩;refine ⟨(ix (p.bf f y) z).toNat,(Int.toNat_of_nonneg q.1).symm, ?_⟩;rw [e2]; omega
theorem bhN {x k z : Nat} (hk : k<p.AL.AB.length) (hx : x<p.src.AF.toNat) (hz : z<(p.sz x (p.AL.AB.getD k default).toNat).toNat) :
  ∃ w : Nat,ix (p.bh k x) z=(w : Int)∧w<(p.sz x (p.AL.to.getD k default).toNat).toNat:=by
 have r:=Fc h hk
 have ha : p.AL.DB (k : Int):=⟨by omega,by simpa using hk⟩
 have W8 : p.src.ES (x : Int):=⟨by omega,by omega⟩
 have m:=(h.hm _ ha).2 _ W8
 have e1 : (((p.AL.AB.getD k default).toNat : Nat) : Int)=ix p.AL.AB (k : Int):=Int.toNat_of_nonneg r.1.1
 have e2 : (((p.AL.to.getD k default).toNat : Nat) : Int)=ix p.AL.to (k : Int):=Int.toNat_of_nonneg r.2.1;rw [e1] at hz
 have q:=m.at (i:=(z : Int)) ⟨by omega,by omega⟩;refine ⟨(ix (p.bh k x) z).toNat,(Int.toNat_of_nonneg q.1).symm, ?_⟩;rw [e2]; omega
theorem KF {f g : Nat} (e : (Bp p).getD f default≠(Bj p).getD g default) : Cv p f g=-1:=by rw [Cv,if_pos e]
theorem FH {f g : Nat} (hf : f<p.src.AB.length) (hg : g<p.src.AB.length) (e : p.src.to.getD f default=p.src.AB.getD g default) : Cv p f g=B7 p.src f g:=by
 have hR : p.src.AB.length≤Ag p:=by rw [Ag]; omega
 rw [Cv,if_neg (by rw [FF h hf,DQ h hg]; exact fun q=>q e),if_pos (by omega),if_pos (by omega),BR,B7,BW]
 simp only;rw [Vx (by omega) (by omega),KD,if_pos hf,if_pos hg]
theorem Ek {k l : Nat} (hk : k<p.AL.AB.length) (hl : l<p.AL.AB.length) (e : p.AL.to.getD k default=p.AL.AB.getD l default) : Cv p (p.src.AB.length+k) (p.src.AB.length+l)=B7 p.AL k l+p.src.AB.length:=by
 have y : 0≤B7 p.AL k l:=(h.tI.1.yes k l hk hl e).1.1;rw [Cv,if_neg (by rw [Dd h hk,DZ h hl,e]; simp),if_pos (by rw [Ag]; omega),if_pos (by rw [Ag]; omega),BR,B7,BW]
 simp only;rw [Vx (by omega) (by omega),KD,if_neg (by omega),if_neg (by omega),show p.src.AB.length+k - p.src.AB.length=k by omega,show p.src.AB.length+l - p.src.AB.length=l by omega,if_pos y]
theorem Eg {f x y z : Nat} (hf : f<p.src.AB.length) (hx : x<p.src.AF.toNat) (hy : y<p.AL.AF.toNat) (hz : z<(p.sz x y).toNat) (e : p.src.to.getD f default=(x : Int)) :
  ∃ w : Nat,ix (p.bf f y) z=(w : Int)∧w<(p.sz (p.src.AB.getD f default).toNat y).toNat∧Cv p f (Ag p+(BX p x y+z))=((Ag p+(BX p (p.src.AB.getD f default).toNat y+w) : Nat) : Int):=by
 obtain ⟨w,hw,Dp⟩:=bfN h hf hy (z:=z) (by rw [e]; simpa using hz);refine ⟨w,hw,Dp, ?_⟩;rw [Cv,if_neg (by rw [FF h hf,F5 h hx hy hz,e]; simp),if_pos (by rw [Ag]; omega),if_neg (by omega),show Ag p+(BX p x y+z) - Ag p=BX p x y+z by omega,Se hx hy hz,zT]
 simp only;rw [hw]; omega
theorem Er {x y z k : Nat} (hx : x<p.src.AF.toNat) (hy : y<p.AL.AF.toNat) (hz : z<(p.sz x y).toNat) (hk : k<p.AL.AB.length) (e : p.AL.AB.getD k default=(y : Int)) :
  ∃ w : Nat,ix (p.bh k x) z=(w : Int)∧w<(p.sz x (p.AL.to.getD k default).toNat).toNat∧Cv p (Ag p+(BX p x y+z)) (p.src.AB.length+k)=((Ag p+(BX p x (p.AL.to.getD k default).toNat+w) : Nat) : Int):=by
 obtain ⟨w,hw,Dp⟩:=bhN h hk hx (z:=z) (by rw [e]; simpa using hz);refine ⟨w,hw,Dp, ?_⟩;rw [Cv,if_neg (by rw [Fx h hx hy hz,DZ h hk,e]; omega),if_neg (by omega),show Ag p+(BX p x y+z) - Ag p=BX p x y+z by omega,Se hx hy hz,wO]
 simp only;rw [show p.src.AB.length+k - p.src.AB.length=k by omega,hw]; omega
end
end
end Go.Shf
namespace Go.Shf
open Go.AW
section
variable {p : PF}
inductive py (p : PF) (f g : Nat) : Prop
 | ll (hf : f<p.src.AB.length) (hg : g<p.src.AB.length) (e : p.src.to.getD f default=p.src.AB.getD g default)
 | rr (k l : Nat) (hk : k<p.AL.AB.length) (hl : l<p.AL.AB.length) (ef : f=p.src.AB.length+k) (eg : g=p.src.AB.length+l) (e : p.AL.to.getD k default=p.AL.AB.getD l default)
 | le (x y z : Nat) (hf : f<p.src.AB.length) (hx : x<p.src.AF.toNat) (hy : y<p.AL.AF.toNat) (hz : z<(p.sz x y).toNat) (eg : g=Ag p+(BX p x y+z)) (e : p.src.to.getD f default=(x : Int))
 | er (x y z k : Nat) (hk : k<p.AL.AB.length) (hx : x<p.src.AF.toNat) (hy : y<p.AL.AF.toNat) (hz : z<(p.sz x y).toNat) (ef : f=Ag p+(BX p x y+z)) (eg : g=p.src.AB.length+k) (e : p.AL.AB.getD k default=(y : Int))
theorem meet (h : p.Shape) {f g : Nat} (hf : f<Ap p) (hg : g<Ap p) (e : (Bp p).getD f default=(Bj p).getD g default) : py p f g:=by
 rcases side hf with h1 | ⟨k,hk,rfl⟩ | ⟨x,y,z,hx,hy,hz,rfl⟩
 ·rw [FF h h1] at e
  have r1:=GH h h1
  rcases side hg with h2 | ⟨l,hl,rfl⟩ | ⟨x',y',z',TM,yH,SW,rfl⟩
  ·rw [DQ h h2] at e;exact .ll h1 h2 e
  ·rw [DZ h hl] at e
   have r2:=Fc h hl;omega
  ·rw [F5 h TM yH SW] at e;exact .le x' y' z' h1 TM yH SW rfl e
 ·rw [Dd h hk] at e
  have r1:=Fc h hk
  rcases side hg with h2 | ⟨l,hl,rfl⟩ | ⟨x',y',z',TM,yH,SW,rfl⟩
  ·rw [DQ h h2] at e
   have r2:=GH h h2;omega
  ·rw [DZ h hl] at e;exact .rr k l hk hl rfl rfl (by omega)
  ·rw [F5 h TM yH SW] at e;omega
 ·rw [Fx h hx hy hz] at e
  rcases side hg with h2 | ⟨l,hl,rfl⟩ | ⟨x',y',z',TM,yH,SW,rfl⟩
  ·rw [DQ h h2] at e
   have r2:=GH h h2;omega
  ·rw [DZ h hl] at e;exact .er x y z l hl hx hy hz rfl rfl (by omega)
  ·rw [F5 h TM yH SW] at e;omega
theorem QO {x y z : Nat} (hx : x<p.src.AF.toNat) (hy : y<p.AL.AF.toNat) (hz : z<(p.sz x y).toNat) : Ag p+(BX p x y+z)<Ap p:=by
 have:=HR hx hy hz;rw [Ap]; omega
theorem aD (h : p.Shape) {f g : Nat} (hf : f<Ap p) (hg : g<Ap p) (e : (Bp p).getD f default=(Bj p).getD g default) :
  ∃ c : Nat,Cv p f g=(c : Int)∧c<Ap p∧(Bj p).getD c default=(Bj p).getD f default∧(Bp p).getD c default=(Bp p).getD g default:=by
 have so:=h.sI.1.o
 have to:=h.tI.1.o
 rcases meet h hf hg e with ⟨h1,h2,e2⟩ | ⟨k,l,hk,hl,rfl,rfl,e2⟩ | ⟨x,y,z,h1,hx,hy,hz,rfl,e2⟩ | ⟨x,y,z,k,hk,hx,hy,hz,rfl,rfl,e2⟩
 ·have q:=h.sI.1.yes f g h1 h2 e2
  have q1 : 0≤B7 p.src f g∧B7 p.src f g<p.src.AB.length:=q.1
  have hc : (B7 p.src f g).toNat<p.src.AB.length:=by omega
  refine ⟨(B7 p.src f g).toNat,by rw [FH h h1 h2 e2]; omega,by rw [Ap,Ag]; omega, ?_, ?_⟩
  ·rw [DQ h hc,DQ h h1]; exact q.2.1
  ·rw [FF h hc,FF h h2]; exact q.2.2
 ·have q:=h.tI.1.yes k l hk hl e2
  have q1 : 0≤B7 p.AL k l∧B7 p.AL k l<p.AL.AB.length:=q.1
  have hc : (B7 p.AL k l).toNat<p.AL.AB.length:=by omega
  refine ⟨p.src.AB.length+(B7 p.AL k l).toNat,by rw [Ek h hk hl e2]; omega,by rw [Ap,Ag]; omega, ?_, ?_⟩
  ·rw [DZ h hc,DZ h hk]; congr 1; exact q.2.1
  ·rw [Dd h hc,Dd h hl]; congr 1; exact q.2.2
 ·obtain ⟨w,_,hw,ew⟩:=Eg h h1 hx hy hz e2
  have r:=GH h h1
  have Lv : (p.src.AB.getD f default).toNat<p.src.AF.toNat:=by omega
  refine ⟨_,ew,QO Lv hy hw, ?_, ?_⟩
  ·rw [F5 h Lv hy hw,DQ h h1]; omega
  ·rw [Fx h Lv hy hw,Fx h hx hy hz]
 ·obtain ⟨w,_,hw,ew⟩:=Er h hx hy hz hk e2
  have r:=Fc h hk
  have V3 : (p.AL.to.getD k default).toNat<p.AL.AF.toNat:=by omega
  refine ⟨_,ew,QO hx V3 hw, ?_, ?_⟩
  ·rw [F5 h hx V3 hw,F5 h hx hy hz]
  ·rw [Fx h hx V3 hw,Dd h hk]; omega
theorem Vd (h : p.Shape) : (BR p).Ac.length=p.src.Ac.length+p.AL.Ac.length:=by simp [BR,BW,Oh]
theorem Mn (h : p.Shape) (ho : p.src.AF+p.AL.AF≤8) (hn : Ap p≤40) : (BA p).Shape:=by
 have so:=h.sI.1.o
 have to:=h.tI.1.o
 have il:=h.sI.1.il
 have il2:=h.tI.1.il
 have fl : (BA p).AB.length=Ap p:=Ci
 have E9 : ∀ x : Nat,x<p.src.Ac.length→(BR p).Ac.getD x default=p.src.Ac.getD x default:=fun x hx=>EU hx
 have Je : ∀ x : Nat,p.src.Ac.length≤x→x - p.src.Ac.length<p.AL.Ac.length→(BR p).Ac.getD x default=p.AL.Ac.getD (x - p.src.Ac.length) default+p.src.AB.length:=fun x h1 h2=>(G7 h1).trans (Tt h2)
 have rng : ∀ f,f<Ap p→(0≤(Bj p).getD f default∧(Bj p).getD f default<p.src.AF+p.AL.AF)∧0≤(Bp p).getD f default∧(Bp p).getD f default<p.src.AF+p.AL.AF:=fun f hf=>by
  rcases side hf with h1 | ⟨k,hk,rfl⟩ | ⟨x,y,z,hx,hy,hz,rfl⟩
  ·have:=GH h h1;rw [DQ h h1,FF h h1]; omega
  ·have:=Fc h hk;rw [DZ h hk,Dd h hk]; omega
  ·rw [F5 h hx hy hz,Fx h hx hy hz]; omega
 have idq : ∀ x : Nat,x<(BR p).Ac.length→∃ c : Nat,(BR p).Ac.getD x default=(c : Int)∧c<Ap p∧(Bj p).getD c default=(x : Int)∧(Bp p).getD c default=(x : Int):=fun x hx=>by
  rw [Vd h] at hx
  by_cases h1 : x<p.src.Ac.length
  ·have q:=h.sI.1.Ac _ (AE.mpr ⟨x,h1,rfl⟩)
   have e:=h.sI.1.O0 x h1
   have hc : (p.src.Ac.getD x default).toNat<p.src.AB.length:=by omega
   refine ⟨(p.src.Ac.getD x default).toNat,by rw [E9 x h1]; omega,by rw [Ap,Ag]; omega, ?_, ?_⟩
   ·rw [DQ h hc]; exact e.1
   ·rw [FF h hc]; exact e.2
  ·have h2 : x - p.src.Ac.length<p.AL.Ac.length:=by omega
   have q:=h.tI.1.Ac _ (AE.mpr ⟨_,h2,rfl⟩)
   have e:=h.tI.1.O0 _ h2
   have hc : (p.AL.Ac.getD (x - p.src.Ac.length) default).toNat<p.AL.AB.length:=by omega
   refine ⟨p.src.AB.length+(p.AL.Ac.getD (x - p.src.Ac.length) default).toNat,by rw [Je x (by omega) h2]; omega,by rw [Ap,Ag]; omega, ?_, ?_⟩
   ·rw [DZ h hc]
    have e1 : p.AL.AB.getD (p.AL.Ac.getD (x - p.src.Ac.length) default).toNat default=((x - p.src.Ac.length : Nat) : Int):=e.1;rw [e1]; omega
   ·rw [Dd h hc]
    have e1 : p.AL.to.getD (p.AL.Ac.getD (x - p.src.Ac.length) default).toNat default=((x - p.src.Ac.length : Nat) : Int):=e.2;rw [e1]; omega
 refine ⟨⟨by show 0≤p.src.AF+p.AL.AF; omega,ho⟩,by rw [fl]; exact hn,fun y hy=>?_,by rw [fl]; exact Ew h,fun y hy=>?_,by rw [fl]; exact GL _ _, ?_,fun y hy=>?_,fun x hx=>?_,fun f hf=>?_,fun f g hf hg e=>?_,fun f g hf hg e=>?_⟩
 ·obtain ⟨i,hi,rfl⟩:=AE.mp hy;exact (rng i (by rw [fl] at hi; exact hi)).1
 ·obtain ⟨i,hi,rfl⟩:=AE.mp hy;exact (rng i (by rw [show (BA p).to.length=Ap p from Ew h] at hi; exact hi)).2
 ·show (((BR p).Ac.length : Nat) : Int)=p.src.AF+p.AL.AF
  rw [Vd h]; omega
 ·obtain ⟨i,hi,rfl⟩:=AE.mp hy
  obtain ⟨c,e,hc,_⟩:=idq i hi
  have e' : (BA p).Ac.getD i default=(c : Int):=e;rw [e',fl]; omega
 ·obtain ⟨c,e,hc,e1,e2⟩:=idq x hx
  have e' : (BA p).Ac.getD x default=(c : Int):=e;rw [e'];exact ⟨by rw [AR]; exact e1,by rw [AR]; exact e2⟩
 ·rw [fl] at hf ⊢;exact Hq hf
 ·rw [fl] at hf hg;exact (Vx hf hg).trans (KF h e)
 ·rw [fl] at hf hg
  obtain ⟨c,ec,hc,e1,e2⟩:=aD h hf hg e
  have e3 : ((BA p).comp.getD f default).getD g default=(c : Int):=(Vx hf hg).trans ec;rw [e3,fl];exact ⟨by omega,by rw [AR]; exact e1,by rw [AR]; exact e2⟩
end
end Go.Shf
namespace Go.Shf
open Go.AW
def PF.RB (p : PF) : List (List Int):=(List.range p.src.AF.toNat).map fun x=>(List.range p.AL.AF.toNat).map fun y=>(BX p x y : Int)
section
variable {p : PF}
theorem NF (h : p.Shape) {x : Nat} (hx : x<p.src.AF.toNat) : ∀ y,y≤p.AL.AF.toNat→(BP (CK p x) y).length≤64*y
 | 0,_=>by simp [BP]
 | y+1,hy=>by
  have so:=h.sI.1.o
  have to:=h.tI.1.o
  have q:=(h.rl (x : Int) ⟨by omega,by omega⟩).2 (y : Int) ⟨by omega,by omega⟩
  have ih:=NF h hx y (by omega);rw [BV,List.length_append,DT];omega
theorem PC (h : p.Shape) : ∀ x,x≤p.src.AF.toNat→(BP (FZ p) x).length≤512*x
 | 0,_=>by simp [BP]
 | x+1,hx=>by
  have to:=h.tI.1.o
  have tm:=h.tI.1.m
  have ih:=PC h x (by omega)
  have:=NF h (x:=x) (by omega) p.AL.AF.toNat (by omega);rw [BV,List.length_append,FZ];omega
theorem Cb (h : p.Shape) {x y : Nat} (hx : x<p.src.AF.toNat) (hy : y≤p.AL.AF.toNat) : BX p x y≤4096:=by
 have so:=h.sI.1.o
 have to:=h.tI.1.o
 have sm:=h.sI.1.m
 have tm:=h.tI.1.m
 have:=PC h x (by omega)
 have:=NF h hx y hy;rw [BX]; omega
theorem TW (h : p.Shape) : (Cs p).length≤4096:=by
 have so:=h.sI.1.o
 have sm:=h.sI.1.m
 have:=PC h p.src.AF.toNat (by omega);rw [Cs]; omega
end
end Go.Shf
namespace Go.Proofs.Shf
open Go.AW Go.Proofs Go.Shf
theorem HN (B : Nat) (l : List Int) (n : Int) (h : ∀ k : Nat,k<l.length→-1000≤l.getD k default∧l.getD k default≤1000) (hn : -1000≤n∧n≤1000) : PB B 109 [iL l,iI n] (iL (Oh n l)):=by
 refine ⟨fun H0=>ng.go fun ⟨hf,_⟩=>?_⟩
 have hl:=AZ hf;simp only [AN] at hl;refine tt ?_;refine Az iI (.nil _) fun id H o=>tt ?_;refine AD [1,9,10] (G:=Nat × List (Int)) (fun k g=>[(5,some (.buf g.1 g.2.length)),(11,some (.int .i64 (k : Int)))]) (fun k g H=>g.2=Oh n (l.take k)∧A9 H0 H [(g.1,.cells 1 (g.2.map iI) 0)]) l.length (id,[]) ⟨by simp [Oh],o⟩ rfl ?_
 rintro k ⟨id,out⟩ H hk ⟨B2,o⟩;dsimp only at B2;refine tt ?_;apply bk <;> intro h1
 ·have h1:=A6 h1
  have w1:=ws k
  have b:=h k h1
  have w2 : IntKind.i64.wrap (l.getD k default+n)=l.getD k default+n:=wrap_i64 (by omega) (by omega);refine tt ?_;refine ⟨h1, ?_⟩;rw [w2];refine Ae (l.getD k default+n) o rfl rfl (by rw [B2]; simp [Oh,AN]; omega) fun id H o=>?_;refine tw w1 ?_;exact A4 (_,_) (by omega) ⟨by rw [B2,Oh,Oh,J3 l _ h1],o⟩ rfl
 ·refine tt ?_
  have h1:=A7 h1;refine Am o rfl fun H o=>tt ?_;exact A5 (by rw [B2,List.take_of_length_le (by omega)]) o.sub
theorem Lb (B : Nat) (p : PF) (sh : p.Shape) : PB B 108 [.ptr p.cells] (.CQ [B5 p.RB,iI (Cs p).length]):=by
 refine ⟨fun H0=>yI.go fun _=>?_⟩
 have so:=sh.sI.1.o
 have to:=sh.tI.1.o
 have sm:=sh.sI.1.m
 have tm:=sh.tI.1.m
 have sl:=sh.sl;refine tt ?_;refine Az iL (.nil _) fun id H o=>tt ?_;refine AD [15,16] (G:=Nat × List (List Int)) (fun k g=>[(4,some (.buf g.1 g.2.length)),(5,some (iI (BX p k 0))),(17,some (.int .i64 (k : Int)))]) (fun k g H=>g.2=p.RB.take k∧A9 H0 H [(g.1,.cells 1 (g.2.map iL) 0)]) p.AK.length (id,[]) ⟨by simp,o⟩ rfl ?_
 rintro x ⟨id,out⟩ H hx ⟨B2,o⟩;dsimp only at B2
 have KU : p.RB.length=p.AK.length:=by simp [PF.RB]; omega
 have hl : out.length=x:=by rw [B2,List.length_take]; omega
 refine tt ?_;apply bk <;> intro h1
 ·have h1:=A6 h1
  have w1:=ws x
  have W8 : p.src.ES x:=⟨by omega,by omega⟩
  have rl:=(sh.rl _ W8).1;rw [AR] at rl;refine tt ?_;refine ⟨h1, ?_⟩;refine Az iI o fun GD H o=>tt ?_;refine AD [4,15,16,17,22,23] (G:=Nat × List Int) (fun k g=>[(5,some (iI (BX p x k))),(8,some (.buf g.1 g.2.length)),(24,some (.int .i64 (k : Int)))]) (fun k g H=>g.2=((List.range k).map fun y=>(BX p x y : Int))∧A9 H0 H [(g.1,.cells 1 (g.2.map iI) 0),(id,.cells 1 (out.map iL) 0)]) p.AL.AF.toNat (GD,[]) ⟨by simp,o⟩ rfl ?_
  rintro y ⟨GD,row⟩ H hy ⟨Bf,o⟩;dsimp only at Bf
  have WA : row.length=y:=by rw [Bf]; simp
  refine tt ?_;apply bk <;> intro h2
  ·have h2:=A6 h2
   have w2:=ws y
   have L9 : p.AL.ES y:=⟨by omega,by omega⟩
   have q:=(sh.rl _ W8).2 _ L9
   have le:=Cb sh (x:=x) (y:=y) (by omega) (by omega)
   have sc:=NK (p:=p) x y
   have esz : p.sz x y=(p.AK.getD x default).getD y default:=by rw [PF.sz,AR,AR]
   have w3 : IntKind.i64.wrap ((BX p x y : Int)+(p.AK.getD x default).getD y default)=(BX p x (y+1) : Int):=by rw [← esz,sc,wrap_i64 (by omega) (by omega)]; omega
   refine tt ?_;refine ⟨h2, ?_⟩;refine Ae (BX p x y : Int) o rfl rfl (by rw [WA]; simp only [AN]; omega) fun GD H o=>?_;refine t2 w2 w3 ?_
   exact A4 (_,_) (by omega) ⟨by rw [Bf,List.range_succ]; simp,o⟩ rfl
  ·have h2:=A7 h2
   obtain rfl : y=p.AL.AF.toNat:=by omega
   refine tt ?_;refine Am o rfl fun H o=>tt ?_
   have ea : p.RB.getD x default=row:=by rw [Bf,PF.RB]; exact Ab _ _ (by omega)
   refine Ae (f:=iL) row o rfl rfl (by rw [hl]; simp only [AN]; omega) fun id H o=>?_;refine tw w1 ?_;rw [Uo];exact A4 (_,_) (by omega) ⟨by rw [B2,← ea]; exact (C8 p.RB (by omega)).symm,o⟩ rfl
 ·have h1:=A7 h1
  obtain rfl : x=p.AK.length:=by omega
  refine tt ?_;refine Am o rfl fun H o=>tt ?_;exact A5 (by rw [B2,List.take_of_length_le (by omega),show p.AK.length=p.src.AF.toNat by omega,Qo]) o.sub
end Go.Proofs.Shf
namespace Go.Proofs.Shf
open Go.AW Go.Proofs Go.Shf
@[go_sem] def DP (C9 : Nat) (c : Ax) (z : Nat) (S : List Int) (d : Nat) (Xs : List AV) (l : Ob) : Ob :=
 (C9,.cells 7 [iI c.AF,iL c.AB,iL c.to,iL c.Ac,B5 c.comp,.buf z S.length,.buf d Xs.length] 0)::(z,.cells 1 (S.map iI) 0)::(d,.cells 1 Xs 0)::l
end Go.Proofs.Shf
namespace Go.AW
theorem ED.put {α : Type} {f : α→AV} {Xs : List AV} {As : List (List α)} {ob : Ob} (h : ED f Xs As ob) {i : Nat} (hi : i<Xs.length) {p : Ob} {X : AV} {A : List α} (hX : Lp f p X A) {H0 H : AA} {l : Ob} {id : Nat}
  (o : A9 H0 H ((id,.cells 1 (Xs.set i X) 0)::(p++(ob++l)))) : ∃ ob',ED f (Xs.set i X) (As.set i A) ob'∧A9 H0 H ((id,.cells 1 (Xs.set i X) 0)::(ob'++l)):=by
 obtain ⟨q,r,h1,_,h3⟩:=h.split i hi
 obtain ⟨o',k1,k2⟩:=h3 X A p hX;refine ⟨o',k1, ?_⟩
 have o2 : A9 H0 H (q++((id,.cells 1 (Xs.set i X) 0)::(p++(r++l)))):=by
  refine o.perm ?_;refine List.Perm.trans (.cons _ ?_) List.perm_middle.symm
  have h2 : (p++ob).Perm (q++(p++r)):=(List.Perm.append_left p h1).trans (by
   rw [← List.append_assoc,← List.append_assoc];exact List.Perm.append_right r List.perm_append_comm)
  simpa using List.Perm.append_right l h2
 have o3:=o2.FL (l':=(id,.cells 1 (Xs.set i X) 0)::(p++(r++l))) (List.sublist_append_right _ _);refine o3.perm (.cons _ ?_);rw [← List.append_assoc];exact List.Perm.append_right l k2.symm
end Go.AW
namespace Go.Shf
open Go.AW
def Gu (φ : Nat→Nat→Int) (m a k : Nat) : List Int:=(List.range m).map fun b=>if b<k then φ a b else 0
def Gi (φ : Nat→Nat→Int) (m k : Nat) : List (List Int):=(List.range m).map fun a=>if a<k then (List.range m).map (φ a) else []
def NW (x : Int) (F T I : List Int) (X : AV) : AG:=.cells 5 [iI x,iL F,iL T,iL I,X] 0
section
variable (φ : Nat→Nat→Int) (m : Nat)
theorem Xz : Gi φ m 0=List.replicate m []:=by
 refine List.ext_getElem (by simp [Gi]) fun i h1 h2=>?_
 simp [Gi]
theorem X3 : Gi φ m m=HX m φ:=by
 refine List.ext_getElem (by simp [Gi,HX]) fun i h1 h2=>?_
 have hi : i<m:=by simpa [Gi] using h1
 simp only [Gi,HX,List.getElem_map,List.getElem_range];rw [if_pos hi]
theorem Y9 (a : Nat) : Gu φ m a 0=List.replicate m 0:=by
 refine List.ext_getElem (by simp [Gu]) fun i h1 h2=>?_
 simp [Gu]
theorem Yy (a k : Nat) : (Gu φ m a k).length=m:=by simp [Gu]
theorem YS (a : Nat) : Gu φ m a m=(List.range m).map (φ a):=by
 refine List.ext_getElem (by simp [Gu]) fun i h1 h2=>?_
 have hi : i<m:=by simpa [Gu] using h1
 simp only [Gu,List.getElem_map,List.getElem_range];rw [if_pos hi]
theorem OX (a : Nat) {k : Nat} (hk : k<m) : (Gu φ m a k).set k (φ a k)=Gu φ m a (k+1):=by
 refine List.ext_getElem (by simp [Gu]) fun i h1 h2=>?_;simp only [Gu,List.getElem_set,List.getElem_map,List.getElem_range]
 by_cases e : k=i
 ·subst e; rw [if_pos rfl,if_pos (by omega)]
 ·rw [if_neg e]
  by_cases e2 : i<k
  ·rw [if_pos e2,if_pos (by omega)]
  ·rw [if_neg e2,if_neg (by omega)]
theorem Yn {a : Nat} (R : List Int) (hR : R=(List.range m).map (φ a)) : (Gi φ m a).set a R=Gi φ m (a+1):=by
 refine List.ext_getElem (by simp [Gi]) fun i h1 h2=>?_;simp only [Gi,List.getElem_set,List.getElem_map,List.getElem_range]
 by_cases e : a=i
 ·subst e; rw [if_pos rfl,if_pos (by omega),hR]
 ·rw [if_neg e]
  by_cases e2 : i<a
  ·rw [if_pos e2,if_pos (by omega)]
  ·rw [if_neg e2,if_neg (by omega)]
end
end Go.Shf
namespace Go.Proofs.Shf
open Go.AW Go.Proofs Go.Shf
theorem Sf (B : Nat) {Ou : Nat} {H : AA} {cs : List AV} {l : List Int} {fr : Nat} (hg : H.get Ou=some (.cells 5 cs fr)) (h1 : 1<cs.length) (h2 : cs.getD 1 nv=iL l) :
  CB B 107 [.ref Ou 0] H fun r H'=>r=iI l.length∧H'=H:=by
 refine uo.go fun _=>?_;refine tt ?_;refine Aj hg h1 ?_;rw [h2];refine tt ?_;exact ⟨H,.refl H,rfl,rfl⟩
theorem X5 (B : Nat) {x : Int} {F T I : List Int} {φ : Nat→Nat→Int} {m n : Nat} {env : List AV} (HB : F.length=m) (Jc : T.length=m) (hm : m≤4096) (Ea : ∀ a b,a<m→b<m→T.getD a default≠F.getD b default→φ a b=-1) {Ou : Nat}
  (TR : ∀ a b : Nat,a<m→b<m→T.getD a default=F.getD b default→∀ H X,H.get Ou=some (NW x F T I X)→CB B n (iI a::iI b::env) H fun r H'=>r=iI (φ a b)∧H'=H)
  {l : Ob} {H0 H : AA} (o : A9 H0 H ((Ou,NW x F T I .A0)::l)) :
  CB B 111 [.ref Ou 0,.fn (.func n) env] H fun r H'=>∃ TQ Xs ob,ED iI Xs (HX m φ) ob∧Xs.length=m∧A9 H0 H' ((Ou,NW x F T I (.buf TQ Xs.length))::(TQ,.cells 1 Xs 0)::(ob++l)):=by
 refine yA.go fun _=>?_;refine tt ?_;refine (Sf B (l:=F) o.h0 (by simp) rfl).mono ?_
 rintro r H' ⟨rfl,rfl⟩;rw [HB];refine tt ?_;refine ⟨⟨by omega,by simp only [AN]; omega⟩, ?_⟩;rw [IX];refine AP o fun TQ H o=>tt ?_;refine sw o.swap fun H o=>tt ?_;refine AH o (by simp) (tt ?_)
 have V4 : ED iI (List.replicate m .A0) (Gi φ m 0) []:=by rw [Xz]; exact ED.rep iI m
 have o : A9 H0 H ((Ou,NW x F T I (.buf TQ m))::(TQ,.cells 1 (List.replicate m .A0) 0)::([]++l)):=o
 refine AD [0,1,4,18] (G:=List AV × Ob) (fun a _=>[(19,some (.int .i64 (a : Int)))])
  (fun a G H=>ED iI G.1 (Gi φ m a) G.2∧G.1.length=m∧A9 H0 H ((Ou,NW x F T I (.buf TQ m))::(TQ,.cells 1 G.1 0)::(G.2++l))) m (List.replicate m .A0,[]) ⟨V4,by simp,o⟩ rfl ?_
 clear o V4
 rintro a ⟨Xs,ob⟩ H ha ⟨hR,Iw,o⟩;dsimp only at hR Iw o;refine tt ?_;apply bk <;> intro h1
 ·have AU : a<m:=by have:=A6 h1; omega
  have w1:=ws a;refine tt ?_;refine AH o (by simp) (tt ?_);refine ⟨⟨by omega,by simp only [AN]; omega⟩,EI iI 0 rfl o fun Bt H o=>?_⟩;refine tt ?_;refine ⟨AU, ?_⟩;refine AS (o.pull [_,_]) (by omega) rfl (by simp [AV.one]) fun H o=>?_;simp only [Ej,Gv] at o
  have op : A9 H0 H ((TQ,.cells 1 (Xs.set a (.buf Bt m)) 0)::([(Bt,.cells 1 ((List.replicate m (0 : Int)).map iI) 0)]++(ob++((Ou,NW x F T I (.buf TQ m))::l)))):=by
   simp only [NW] at o ⊢;exact o.pm
  obtain ⟨ob2,fy,o2⟩:=hR.put (i:=a) (by omega) (p:=[(Bt,.cells 1 ((List.replicate m (0 : Int)).map iI) 0)]) (X:=.buf Bt m) (A:=List.replicate m 0) (.inr ⟨Bt,rfl,by simp⟩) op
  have hX2l : (Xs.set a (.buf Bt m)).length=m:=by rw [List.length_set,Iw]
  have e0 : List.replicate m (0 : Int)=Gu φ m a 0:=by rw [Y9]
  rw [e0] at fy
  generalize ai : Xs.set a (.buf Bt m)=X2 at *
  have bx : X2.getD a nv=.buf Bt m:=by rw [← ai]; simp [Go.AW.gE,show a<Xs.length by omega]
  have o : A9 H0 H ((Ou,NW x F T I (.buf TQ m))::(TQ,.cells 1 X2 0)::(ob2++l)):=by
   simp only [NW] at o2 ⊢;exact o2.pm
  clear o2 op hR ai;refine tt ?_;refine AH o (by simp) (tt ?_);refine ⟨AU,AH o.tl (by omega) ?_⟩;rw [bx];refine tt ?_
  refine AD [0,1,4,5,18,19,37] (G:=Ob) (fun b _=>[(38,some (.int .i64 (b : Int)))])
   (fun b G H=>ED iI X2 ((Gi φ m a).set a (Gu φ m a b)) G∧A9 H0 H ((Ou,NW x F T I (.buf TQ m))::(TQ,.cells 1 X2 0)::(G++l))) m ob2 ⟨fy,o⟩ rfl ?_
  clear o fy
  rintro b ob H hb ⟨hR,o⟩
  have WA:=Yy φ m a b
  have htl2 : (Gi φ m a).length=m:=by simp [Gi]
  have Ha : ((Gi φ m a).set a (Gu φ m a b)).getD a []=Gu φ m a b:=by simp [Go.AW.gE,show a<(Gi φ m a).length by omega]
  refine tt ?_;apply bk <;> intro h2
  ·have Aq : b<m:=by have:=A6 h2; omega
   have w2:=ws b;refine tt ?_;refine AH o (by simp) (tt ?_);refine ⟨AU,AH o.tl (by omega) ?_⟩;rw [bx];refine tt ?_;refine ⟨Aq, ?_⟩
   obtain ⟨idr',e1,Iv⟩:=hR.row (i:=a) (by omega) (by rw [Ha,WA]; omega)
   obtain ⟨rfl,_⟩:=AV.buf.inj (bx.symm.trans e1)
   have oT : A9 H0 H ((TQ,.cells 1 X2 0)::(ob++((Ou,NW x F T I (.buf TQ m))::l))):=by
    simp only [NW] at o ⊢;exact o.pm
   refine Iv oT b (by rw [Ha,WA]; omega) (-1) rfl fun H ob hR o=>?_;clear Iv oT;rw [Ha,List.set_set] at hR
   have o : A9 H0 H ((Ou,NW x F T I (.buf TQ m))::(TQ,.cells 1 X2 0)::(ob++l)):=by
    simp only [NW] at o ⊢;exact o.pm
   refine tt ?_;refine AH o (by simp) (tt ?_);refine ⟨by omega,AH o (by simp) ?_⟩;refine tt ?_;refine ⟨by omega, ?_⟩
   by_cases Xv : T.getD a default=F.getD b default
   ·rw [decide_eq_true Xv];refine tt ?_;refine AH o (by simp) (tt ?_);refine ⟨AU,AH o.tl (by omega) ?_⟩;rw [bx];refine tt ?_;refine (TR a b (by omega) (by omega) Xv _ (.buf TQ m) o.h0).mono ?_
    rintro r H' ⟨rfl,rfl⟩;refine ⟨.refl _,tt ?_⟩;refine ⟨Aq, ?_⟩
    have tH : ((Gi φ m a).set a ((Gu φ m a b).set b (-1))).getD a []=(Gu φ m a b).set b (-1):=by simp [Go.AW.gE,show a<(Gi φ m a).length by omega]
    obtain ⟨idr',e1,Iv⟩:=hR.row (i:=a) (by omega) (by rw [tH,List.length_set,WA]; omega)
    obtain ⟨rfl,_⟩:=AV.buf.inj (bx.symm.trans e1)
    have oT : A9 H0 H' ((TQ,.cells 1 X2 0)::(ob++((Ou,NW x F T I (.buf TQ m))::l))):=by
     simp only [NW] at o ⊢;exact o.pm
    refine Iv oT b (by rw [tH,List.length_set,WA]; omega) (φ a b) rfl fun H ob hR o=>?_;rw [tH,List.set_set,List.set_set,OX φ m a (by omega)] at hR;refine tw w2 ?_;refine A4 ob Aq ⟨hR, ?_⟩ rfl;simp only [NW] at o ⊢;exact o.pm
   ·rw [decide_eq_false Xv]
    have Ea:=Ea a b (by omega) (by omega) Xv;rw [← Ea,OX φ m a (by omega)] at hR;refine tw w2 ?_;exact A4 ob Aq ⟨hR,o⟩ rfl
  ·have Aq : b=m:=by have:=A7 h2; omega
   refine tw w1 ?_;refine A4 (X2,ob) AU ⟨?_,hX2l,o⟩ rfl;rw [Aq,YS φ m,Yn φ m _ rfl] at hR;exact hR
 ·have AU : a=m:=by have:=A7 h1; omega
  rw [AU,X3] at hR;refine tt ?_;exact ⟨H,.refl H,TQ,Xs,ob,hR,Iw,by rw [Iw]; exact o⟩
end Go.Proofs.Shf
namespace Go.Shf
open Go.AW
section
variable {p : PF}
theorem Ll {f g : Nat} (hf : f<Ap p) (hg : g<Ap p) : ((BA p).comp.getD f default).getD g default=Cv p f g:=Vx hf hg
theorem Hp {f g : Nat} (hf : f<Ap p) (hg : g<Ap p) : ix (ix (BA p).comp (f : Int)) (g : Int)=Cv p f g:=by
 rw [AR,AR]; exact Vx hf hg
theorem RW {n : Int} {z : Nat} (h : (z : Int)<n) : ix (BG n) (z : Int)=z:=EN ⟨by omega,h⟩
theorem Vl (h : p.Shape) {x : Nat} (hx : x<p.src.AF.toNat) : ∃ i : Nat,ix (BA p).Ac (x : Int)=(i : Int)∧ix p.src.Ac (x : Int)=(i : Int)∧i<p.src.AB.length∧p.src.AB.getD i default=(x : Int)∧p.src.to.getD i default=(x : Int):=by
 have il:=h.sI.1.il
 have Lv : x<p.src.Ac.length:=by omega
 have q:=h.sI.1.Ac _ (AE.mpr ⟨x,Lv,rfl⟩)
 have e:=h.sI.1.O0 x Lv;refine ⟨(p.src.Ac.getD x default).toNat, ?_, ?_,by omega,e.1,e.2⟩
 ·rw [AR]
  have e1 : (BA p).Ac.getD x default=p.src.Ac.getD x default:=EU Lv;rw [e1]; omega
 ·rw [AR]; omega
theorem Ug (h : p.Shape) {y : Nat} (hy : y<p.AL.AF.toNat) : ∃ i : Nat,ix (BA p).Ac (p.src.AF+(y : Int))=((p.src.AB.length+i : Nat) : Int)∧ix p.AL.Ac (y : Int)=(i : Int)∧i<p.AL.AB.length∧p.AL.AB.getD i default=(y : Int)∧p.AL.to.getD i default=(y : Int):=by
 have so:=h.sI.1.o
 have il:=h.sI.1.il
 have il2:=h.tI.1.il
 have V3 : y<p.AL.Ac.length:=by omega
 have q:=h.tI.1.Ac _ (AE.mpr ⟨y,V3,rfl⟩)
 have e:=h.tI.1.O0 y V3;refine ⟨(p.AL.Ac.getD y default).toNat, ?_, ?_,by omega,e.1,e.2⟩
 ·have e0 : p.src.AF+(y : Int)=((p.src.Ac.length+y : Nat) : Int):=by omega
  rw [e0,AR]
  have e1 : (BA p).Ac.getD (p.src.Ac.length+y) default=p.AL.Ac.getD y default+p.src.AB.length:=by
   refine (G7 (by omega)).trans ?_;rw [show p.src.Ac.length+y - p.src.Ac.length=y by omega];exact Tt V3
  rw [e1]; omega
 ·rw [AR]; omega
theorem QC {s t : List Int} {z w : Nat} (hz : z<s.length) (e : ix s (z : Int)=(w : Int)) : ix (iC s t) (z : Int)=ix t (w : Int):=by
 rw [Ye ⟨by omega,by simpa using hz⟩,e]
theorem Fw (h : p.Shape) {f y : Nat} (hf : f<p.src.AB.length) (hy : y<p.AL.AF.toNat) : (p.bf f y).length=(p.sz (p.src.to.getD f default) y).toNat:=by
 have r:=GH h hf
 have ha : p.src.DB (f : Int):=⟨by omega,by simpa using hf⟩;exact ((h.bm _ ha).2 (y : Int) ⟨by omega,by omega⟩).len
theorem Fp (h : p.Shape) {k x : Nat} (hk : k<p.AL.AB.length) (hx : x<p.src.AF.toNat) : (p.bh k x).length=(p.sz x (p.AL.AB.getD k default)).toNat:=by
 have r:=Fc h hk
 have ha : p.AL.DB (k : Int):=⟨by omega,by simpa using hk⟩;exact ((h.hm _ ha).2 (x : Int) ⟨by omega,by omega⟩).len
theorem b9 (h : p.Is) {f : Nat} (hf : f<Ap p) : ix (ix (BA p).comp (ix (BA p).Ac ((BA p).AB.getD f default))) f=f∧ix ((BA p).comp.getD f default) (ix (BA p).Ac ((BA p).to.getD f default))=f:=by
 have sh:=h.SZ
 have so:=sh.sI.1.o
 have to:=sh.tI.1.o
 have hRm : p.src.AB.length≤Ag p:=by rw [Ag]; omega
 have iH : ∀ k,k<p.AL.AB.length→p.src.AB.length+k<Ag p:=fun k hk=>by rw [Ag]; omega
 have hN : Ag p≤Ap p:=by rw [Ap]; omega
 have eF : (BA p).AB=Bj p:=rfl
 have eT : (BA p).to=Bp p:=rfl;rw [eF,eT]
 rcases side hf with h1 | ⟨k,hk,rfl⟩ | ⟨x,y,z,hx,hy,hz,rfl⟩
 ·have r:=GH sh h1
  obtain ⟨a,ea⟩ : ∃ a : Nat,p.src.AB.getD f default=(a : Int):=⟨_,(Int.toNat_of_nonneg r.1.1).symm⟩
  obtain ⟨b,eb⟩ : ∃ b : Nat,p.src.to.getD f default=(b : Int):=⟨_,(Int.toNat_of_nonneg r.2.1).symm⟩
  obtain ⟨i,ei,ei2,hi,f1,f2⟩:=Vl sh (x:=a) (by omega)
  obtain ⟨j,ej,ej2,hj,g1,g2⟩:=Vl sh (x:=b) (by omega)
  have q:=sh.sI.2.XE f h1;rw [ea,eb,ei2,ej2] at q;rw [DQ sh h1,FF sh h1,ea,eb,ei,ej];refine ⟨?_, ?_⟩
  ·rw [Hp (by omega) hf,FH sh hi h1 (by rw [f2,ea])]
   have q1:=q.1
   rwa [AR,AR] at q1
  ·rw [AR,Ll hf (by omega),FH sh h1 hj (by rw [eb,g1])]
   have q2:=q.2
   rwa [AR] at q2
 ·have r:=Fc sh hk
  obtain ⟨a,ea⟩ : ∃ a : Nat,p.AL.AB.getD k default=(a : Int):=⟨_,(Int.toNat_of_nonneg r.1.1).symm⟩
  obtain ⟨b,eb⟩ : ∃ b : Nat,p.AL.to.getD k default=(b : Int):=⟨_,(Int.toNat_of_nonneg r.2.1).symm⟩
  obtain ⟨i,ei,ei2,hi,f1,f2⟩:=Ug sh (y:=a) (by omega)
  obtain ⟨j,ej,ej2,hj,g1,g2⟩:=Ug sh (y:=b) (by omega)
  have q:=sh.tI.2.XE k hk;rw [ea,eb,ei2,ej2] at q
  have Xk:=iH i hi
  have cc:=iH j hj;rw [DZ sh hk,Dd sh hk,ea,eb,Int.add_comm,Int.add_comm (b : Int),ei,ej];refine ⟨?_, ?_⟩
  ·rw [Hp (by omega) hf,Ek sh hi hk (by rw [f2,ea])]
   have q1:=q.1;rw [AR,AR] at q1
   have q1 : B7 p.AL i k=(k : Int):=q1;omega
  ·rw [AR,Ll hf (by omega),Ek sh hk hj (by rw [eb,g1])]
   have q2:=q.2;rw [AR] at q2
   have q2 : B7 p.AL k j=(k : Int):=q2;omega
 ·obtain ⟨i,ei,ei2,hi,f1,f2⟩:=Vl sh hx
  obtain ⟨j,ej,ej2,hj,g1,g2⟩:=Ug sh hy
  have W8 : p.src.ES (x : Int):=⟨by omega,by omega⟩
  have L9 : p.AL.ES (y : Int):=⟨by omega,by omega⟩
  have b1:=h.laws.bi _ _ W8 L9
  have b2:=h.laws.hi _ _ W8 L9;rw [ei2] at b1;rw [ej2] at b2
  have cc:=iH j hj;rw [F5 sh hx hy hz,Fx sh hx hy hz,ei,ej];refine ⟨?_, ?_⟩
  ·obtain ⟨w,hw,_,ew⟩:=Eg sh hi hx hy hz f2;rw [b1,RW (by omega)] at hw
   have Dp : w=z:=by omega
   rw [Hp (by omega) hf,ew,f1,Dp]
   simp
  ·obtain ⟨w,hw,_,ew⟩:=Er sh hx hy hz hj g1;rw [b2,RW (by omega)] at hw
   have Dp : w=z:=by omega
   rw [AR,Ll hf (by omega),ew,g2,Dp]
   simp
end
end Go.Shf
namespace Go.Shf
open Go.AW
section
variable {p : PF}
theorem iW {x y z x' y' z' : Nat} (hx : x<p.src.AF.toNat) (hy : y<p.AL.AF.toNat) (hz : z<(p.sz x y).toNat) (TM : x'<p.src.AF.toNat) (yH : y'<p.AL.AF.toNat) (SW : z'<(p.sz x' y').toNat)
  (h : Ag p+(BX p x y+z)=Ag p+(BX p x' y'+z')) : x=x'∧y=y'∧z=z':=gY hx hy hz TM yH SW (by omega)
theorem Tn (h : p.Is) {f g k : Nat} (hf : f<Ap p) (hg : g<Ap p) (hk : k<Ap p) (e1 : (Bp p).getD f default=(Bj p).getD g default) (e2 : (Bp p).getD g default=(Bj p).getD k default) :
  ix (ix (BA p).comp (Cv p f g)) (k : Int)=ix ((BA p).comp.getD f default) (Cv p g k):=by
 have sh:=h.SZ
 have so:=sh.sI.1.o
 have to:=sh.tI.1.o
 have hRm : p.src.AB.length≤Ag p:=by rw [Ag]; omega
 have iH : ∀ k,k<p.AL.AB.length→p.src.AB.length+k<Ag p:=fun k hk=>by rw [Ag]; omega
 have hN : Ag p≤Ap p:=by rw [Ap]; omega
 have L : ∀ c : Nat,c<Ap p→ix (ix (BA p).comp (c : Int)) (k : Int)=Cv p c k:=fun c hc=>Hp hc hk
 have Rr : ∀ c : Nat,c<Ap p→ix ((BA p).comp.getD f default) (c : Int)=Cv p f c:=fun c hc=>by rw [AR,Ll hf hc]
 rcases meet sh hf hg e1 with ⟨h1,h2,e⟩ | ⟨a,b,ha,hb,rfl,rfl,e⟩ | ⟨x,y,z,h1,hx,hy,hz,rfl,e⟩ | ⟨x,y,z,b,hb,hx,hy,hz,rfl,rfl,e⟩
 ·
  have q:=sh.sI.1.yes f g h1 h2 e
  have q1 : 0≤B7 p.src f g∧B7 p.src f g<p.src.AB.length:=q.1
  obtain ⟨c,ec⟩ : ∃ c : Nat,B7 p.src f g=(c : Int):=⟨_,(Int.toNat_of_nonneg q1.1).symm⟩
  have hc : c<p.src.AB.length:=by omega
  have qf : p.src.AB.getD c default=p.src.AB.getD f default:=by have:=q.2.1; rw [show (p.src.comp.getD f default).getD g default=(c : Int) from ec,AR] at this; exact this
  have qt : p.src.to.getD c default=p.src.to.getD g default:=by have:=q.2.2; rw [show (p.src.comp.getD f default).getD g default=(c : Int) from ec,AR] at this; exact this
  rw [FH sh h1 h2 e,ec,L c (by omega)]
  rcases meet sh hg hk e2 with ⟨_,h3,e'⟩ | ⟨a,b,ha,hb,eg,rfl,e'⟩ | ⟨x,y,z,_,hx,hy,hz,rfl,e'⟩ | ⟨x,y,z,b,hb,hx,hy,hz,eg,rfl,e'⟩
  ·have q':=sh.sI.1.yes g k h2 h3 e'
   have q1' : 0≤B7 p.src g k∧B7 p.src g k<p.src.AB.length:=q'.1
   obtain ⟨d,ed⟩ : ∃ d : Nat,B7 p.src g k=(d : Int):=⟨_,(Int.toNat_of_nonneg q1'.1).symm⟩
   have hd : d<p.src.AB.length:=by omega
   have qd : p.src.AB.getD d default=p.src.AB.getD g default:=by have:=q'.2.1; rw [show (p.src.comp.getD g default).getD k default=(d : Int) from ed,AR] at this; exact this
   rw [FH sh h2 h3 e',ed,Rr d (by omega),FH sh hc h3 (by rw [qt,e']),FH sh h1 hd (by rw [qd,e])]
   have asx:=sh.sI.2.assoc f g k h1 h2 h3 e e';rw [show (p.src.comp.getD f default).getD g default=(c : Int) from ec,show (p.src.comp.getD g default).getD k default=(d : Int) from ed,AR,AR,AR] at asx;exact asx
  ·omega
  ·obtain ⟨v,hv,Dh,ev⟩:=Eg sh h2 hx hy hz e'
   have rg:=GH sh h2
   obtain ⟨u,eu⟩ : ∃ u : Nat,p.src.AB.getD g default=(u : Int):=⟨_,(Int.toNat_of_nonneg rg.1.1).symm⟩;rw [eu,Int.toNat_natCast] at ev Dh
   obtain ⟨w,hw,Dp,ew⟩:=Eg sh h1 (x:=u) (by omega) hy Dh (by rw [e,eu])
   obtain ⟨t,ht,ht2,et⟩:=Eg sh hc hx hy hz (by rw [qt,e']);rw [ev,Rr _ (QO (by omega) hy Dh),ew,et,qf]
   have law:=h.laws.bc (f : Int) (g : Int) (y : Int) ⟨by omega,by simpa using h1⟩ ⟨by omega,by simpa using h2⟩ (by rw [AR,AR]; exact e) ⟨by omega,by omega⟩
   have ec2 : ix (ix p.src.comp (f : Int)) (g : Int)=(c : Int):=by rw [AR,AR]; exact ec
   rw [ec2] at law
   have lz : z<(p.bf g y).length:=by rw [Fw sh h2 hy,e']; exact hz
   rw [law,QC lz hv,hw] at ht
   have : w=t:=by omega
   rw [this]
  ·omega
 ·
  have q:=sh.tI.1.yes a b ha hb e
  have q1 : 0≤B7 p.AL a b∧B7 p.AL a b<p.AL.AB.length:=q.1
  obtain ⟨c,ec⟩ : ∃ c : Nat,B7 p.AL a b=(c : Int):=⟨_,(Int.toNat_of_nonneg q1.1).symm⟩
  have hc : c<p.AL.AB.length:=by omega
  have qt : p.AL.to.getD c default=p.AL.to.getD b default:=by have:=q.2.2; rw [show (p.AL.comp.getD a default).getD b default=(c : Int) from ec,AR] at this; exact this
  have hbR:=iH b hb
  have hcR:=iH c hc
  have ecP : Cv p (p.src.AB.length+a) (p.src.AB.length+b)=((p.src.AB.length+c : Nat) : Int):=by rw [Ek sh ha hb e,ec]; omega
  rw [ecP,L _ (by omega)]
  rcases meet sh hg hk e2 with ⟨h2,h3,e'⟩ | ⟨b',l,LX,hl,eb,rfl,e'⟩ | ⟨x,y,z,h2,hx,hy,hz,rfl,e'⟩ | ⟨x,y,z,l,hl,hx,hy,hz,eg,rfl,e'⟩
  ·omega
  ·obtain rfl : b'=b:=by omega
   have q':=sh.tI.1.yes b' l hb hl e'
   have q1' : 0≤B7 p.AL b' l∧B7 p.AL b' l<p.AL.AB.length:=q'.1
   obtain ⟨d,ed⟩ : ∃ d : Nat,B7 p.AL b' l=(d : Int):=⟨_,(Int.toNat_of_nonneg q1'.1).symm⟩
   have hd : d<p.AL.AB.length:=by omega
   have hdR:=iH d hd
   have qd : p.AL.AB.getD d default=p.AL.AB.getD b' default:=by have:=q'.2.1; rw [show (p.AL.comp.getD b' default).getD l default=(d : Int) from ed,AR] at this; exact this
   have edP : Cv p (p.src.AB.length+b') (p.src.AB.length+l)=((p.src.AB.length+d : Nat) : Int):=by rw [Ek sh hb hl e',ed]; omega
   rw [edP,Rr _ (by omega),Ek sh hc hl (by rw [qt,e']),Ek sh ha hd (by rw [qd,e])]
   have asx:=sh.tI.2.assoc a b' l ha hb hl e e';rw [show (p.AL.comp.getD a default).getD b' default=(c : Int) from ec,show (p.AL.comp.getD b' default).getD l default=(d : Int) from ed,AR,AR,AR] at asx
   have asx : B7 p.AL c l=B7 p.AL a d:=asx;rw [asx]
  ·omega
  ·omega
 ·
  obtain ⟨w,hw,Dp,ew⟩:=Eg sh h1 hx hy hz e
  have rf:=GH sh h1
  obtain ⟨u,eu⟩ : ∃ u : Nat,p.src.AB.getD f default=(u : Int):=⟨_,(Int.toNat_of_nonneg rf.1.1).symm⟩;rw [eu,Int.toNat_natCast] at ew Dp
  have hu : u<p.src.AF.toNat:=by omega
  rw [ew,L _ (QO hu hy Dp)]
  rcases meet sh hg hk e2 with ⟨h2,h3,e'⟩ | ⟨b',l,LX,hl,eb,rfl,e'⟩ | ⟨x',y',z',h2,TM,yH,SW,rfl,e'⟩ | ⟨x',y',z',l,hl,TM,yH,SW,eg,rfl,e'⟩
  ·omega
  ·have:=iH b' LX; omega
  ·omega
  ·obtain ⟨rfl,rfl,rfl⟩:=iW hx hy hz TM yH SW eg
   obtain ⟨v,hv,Dh,ev⟩:=Er sh hx hy hz hl e'
   have rl:=Fc sh hl
   obtain ⟨s,es⟩ : ∃ s : Nat,p.AL.to.getD l default=(s : Int):=⟨_,(Int.toNat_of_nonneg rl.2.1).symm⟩;rw [es,Int.toNat_natCast] at ev Dh
   have hs : s<p.AL.AF.toNat:=by omega
   obtain ⟨t,ht,ht2,et⟩:=Er sh hu hy Dp hl e'
   obtain ⟨r,hr,CG,er⟩:=Eg sh h1 hx hs Dh e;rw [ev,Rr _ (QO hx hs Dh),et,er,es,eu]
   have law:=h.laws.bb (f : Int) (l : Int) ⟨by omega,by simpa using h1⟩ ⟨by omega,by simpa using hl⟩;rw [show ix p.AL.AB (l : Int)=(y : Int) by rw [AR]; exact e',show ix p.src.AB (f : Int)=(u : Int) by rw [AR]; exact eu,show ix p.src.to (f : Int)=(x : Int) by rw [AR]; exact e,show ix p.AL.to (l : Int)=(s : Int) by rw [AR]; exact es] at law
   have l1 : z<(p.bf f y).length:=by rw [Fw sh h1 hy,e]; exact hz
   have l2 : z<(p.bh l x).length:=by rw [Fp sh hl hx,e']; exact hz
   have q:=congrArg (fun t=>ix t (z : Int)) law;rw [QC l1 hw,QC l2 hv,ht,hr] at q
   have : t=r:=by omega
   rw [this,Int.toNat_natCast,Int.toNat_natCast]
 ·
  obtain ⟨w,hw,Dp,ew⟩:=Er sh hx hy hz hb e
  have rb:=Fc sh hb
  obtain ⟨s,es⟩ : ∃ s : Nat,p.AL.to.getD b default=(s : Int):=⟨_,(Int.toNat_of_nonneg rb.2.1).symm⟩;rw [es,Int.toNat_natCast] at ew Dp
  have hs : s<p.AL.AF.toNat:=by omega
  have hbR:=iH b hb;rw [ew,L _ (QO hx hs Dp)]
  rcases meet sh hg hk e2 with ⟨h2,h3,e'⟩ | ⟨b',l,LX,hl,eb,rfl,e'⟩ | ⟨x',y',z',h2,TM,yH,SW,rfl,e'⟩ | ⟨x',y',z',l,hl,TM,yH,SW,eg,rfl,e'⟩
  ·omega
  ·obtain rfl : b'=b:=by omega
   have q':=sh.tI.1.yes b' l hb hl e'
   have q1' : 0≤B7 p.AL b' l∧B7 p.AL b' l<p.AL.AB.length:=q'.1
   obtain ⟨d,ed⟩ : ∃ d : Nat,B7 p.AL b' l=(d : Int):=⟨_,(Int.toNat_of_nonneg q1'.1).symm⟩
   have hd : d<p.AL.AB.length:=by omega
   have hdR:=iH d hd
   have qd : p.AL.AB.getD d default=p.AL.AB.getD b' default:=by have:=q'.2.1; rw [show (p.AL.comp.getD b' default).getD l default=(d : Int) from ed,AR] at this; exact this
   have qt : p.AL.to.getD d default=p.AL.to.getD l default:=by have:=q'.2.2; rw [show (p.AL.comp.getD b' default).getD l default=(d : Int) from ed,AR] at this; exact this
   have edP : Cv p (p.src.AB.length+b') (p.src.AB.length+l)=((p.src.AB.length+d : Nat) : Int):=by rw [Ek sh hb hl e',ed]; omega
   obtain ⟨t,ht,ht2,et⟩:=Er sh hx hs Dp hl (by rw [← e',es])
   obtain ⟨r,hr,CG,er⟩:=Er sh hx hy hz hd (by rw [qd,e]);rw [edP,Rr _ (by omega),et,er,qt]
   have law:=h.laws.hc (b' : Int) (l : Int) (x : Int) ⟨by omega,by simpa using hb⟩ ⟨by omega,by simpa using hl⟩ (by rw [AR,AR]; exact e') ⟨by omega,by omega⟩
   have ed2 : ix (ix p.AL.comp (b' : Int)) (l : Int)=(d : Int):=by rw [AR,AR]; exact ed
   rw [ed2] at law
   have lz : z<(p.bh b' x).length:=by rw [Fp sh hb hx,e]; exact hz
   rw [law,QC lz hw,ht] at hr
   have : r=t:=by omega
   rw [this]
  ·omega
  ·omega
theorem VY (h : p.Is) (ho : p.src.AF+p.AL.AF≤8) (hn : Ap p≤40) : (BA p).Is:=by
 have fl : (BA p).AB.length=Ap p:=Ci;refine ⟨Mn h.SZ ho hn,⟨fun f hf=>b9 h (by rw [fl] at hf; exact hf),fun f g k hf hg hk e1 e2=>?_⟩⟩;rw [fl] at hf hg hk;rw [Ll hf hg,Ll hg hk];exact Tn h hf hg hk e1 e2
end
end Go.Shf
