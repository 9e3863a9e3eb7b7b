/- Contracts, part 6. -/
import Derived.Test.YthflgdphhajkbaaGreatT5
set_option linter.unusedVariables false
set_option linter.unusedSimpArgs false
set_option linter.unusedSectionVars false
open Nat (reduceEqDiff reduceAdd reduceMul reduceLeDiff reduceLT)
namespace Go.AW
theorem k0 {P : Program} {B : Nat} {l : List Nat} {c : XC} {Q : AQ} {X0 : AB→Prop} {σ : Env} {H : AB} (lf : List Nat) {G : Type} (E : Nat→G→Env) (J : Nat→G→AB→Prop) (n : Nat) (g : G)
  (h0 : J 0 g H) (he : Env.B6 l σ=E 0 g++Env.B6 lf σ)
  (h : ∀ k g H,k≤n→J k g H→NJ P B c (nO l (fun m σ' H=>∃ k g,k≤n∧m=n - k∧J k g H∧σ'=E k g++Env.B6 lf σ) (n - k) Q) X0 (E k g++Env.B6 lf σ) H) :
  NJ P B (.loop l c) Q X0 σ H :=
 ⟨fun m σ' H=>∃ k g,k≤n∧m=n - k∧J k g H∧σ'=E k g++Env.B6 lf σ,n,_,_,⟨0,g,by omega,rfl,h0,he⟩,.refl _ _,
  fun m σ H ⟨k,g,h1,h2,h3,h4⟩=>h2 ▸ h4 ▸ h k g H h1 h3⟩
end Go.AW
namespace Go.Proofs.Shf
open Go.AW Go.Proofs Go.Shf
theorem cO (B : Nat) (f : SF) (h : f.Shape) (v : NQ) (cnt : AV) (x s : Nat) (L : List (List Int)) (H : AB) (i9 i5 i7 : Nat) (h9 : H.get i9=some (.cells 1 [BA L] 0)) (h5 : H.get i5=some (.cells 1 [.int .i64 x] 0)) (h7 : H.get i7=some (.cells 1 [.int .i64 s] 0))
  (hx : x<f.A4.length) (hvx : x<v.BI.length) (N5 : s<(v.BI.getD x default).length) (EZ : f.shape.Az x ((v.BI.getD x default).getD s default)) (hL : L.length≤1000) :
  GK Tryz.prog B 186 [.ref i9 0,.ptr [.ptr f.cells],.ref i5 0,.ptr [.ptr (v.cells cnt)],.ref i7 0] H (fun _ H'=>H.sub H'∧dec (∀ t,t∈L→DQ f x ((v.BI.getD x default).getD s default) t)=true)
   (fun H'=>H.sub H'∧dec (∀ t,t∈L→DQ f x ((v.BI.getD x default).getD s default) t)=false):=by
 have Np:=h.al
 have Fg:=h.sl
 have hz:=h.DH (y:=(x : Int)) ⟨by omega,by omega⟩
 have hgl:=fun t=>cV B f x ((v.BI.getD x default).getD s default) t ⟨by omega,by simpa using hx⟩ (by omega) (fun a ha=>by have:=EZ.arr ha; omega) (fun a ha=>by
  have hv:=EZ.arr ha
  have h1:=h.Cw hv.1.2;rw [hv.2] at h1;exact h1)
 generalize hS : (v.BI.getD x default).getD s default=S at *;refine GK.bH (hs:=xH) (s:=dG) (rvs:=[]) Tryz.func186 rfl (by kernel_rfl) kT (by kernel_rfl) (by rw [Tryz.ntmps186]; simp) fun _=>?_;unfold dG;refine tw h9 ?_;refine k0 [1,2,3,4,7,8] (G:=Unit) (fun k _=>[(9,some (.int .i64 (k : Int)))]) (fun k _ H'=>H'=H∧∀ i,i<k→DQ f x S (L.getD i default)) L.length () ⟨rfl,by simp⟩ rfl ?_
 rintro k _ H' hk ⟨rfl,Ak⟩;refine tt ?_;apply bk <;> intro h1
 ·have AR:=dd h1
  have w:=ws k;try simp only [go_sem,↓reduceIte,reduceEqDiff,reduceAdd,reduceMul,reduceLeDiff,reduceLT,h9,h5,h7]
  refine ⟨AR,hvx,N5, ?_⟩;rw [hS];refine (hgl (L.getD k default) H').mono ?_ ?_
  ·rintro r H ⟨⟨rfl,hu⟩,rfl⟩;refine tw w ?_;exact A5 () AR ⟨rfl,AG Ak hu⟩ rfl
  ·rintro H ⟨hu,rfl⟩;exact ⟨.refl _,Aa fun q=>hu (q _ (AE.mpr ⟨k,AR,rfl⟩))⟩
 ·refine tt ?_
  have AR:=dd h1;exact ⟨H',.refl _,.refl _,Aw (DZ.mpr fun i hi=>Ak i (by omega))⟩
def P9 (f : SF) (v : NQ) (x s : Nat) : Prop:=(v.marks.getD x default).getD s default=true→La f x ((v.BI.getD x default).getD s default)
def dJ (f : SF) (v : NQ) : Prop:=∀ x,x<v.marks.length→∀ s,s<(v.marks.getD x default).length→P9 f v x s
theorem Wy (B : Nat) (v : NQ) (cnt : AV) (f : SF) (h : f.Shape) (E6 : (v.marks.length : Int)=f.shape.AO) (Fg : v.BI.length=v.marks.length)
  (Jm : ∀ x,x<v.marks.length→(v.marks.getD x default).length≤(v.BI.getD x default).length∧(v.marks.getD x default).length≤1000000)
  (EZ : ∀ x,x<v.marks.length→∀ s,s<(v.BI.getD x default).length→f.shape.Az x ((v.BI.getD x default).getD s default)) :
  PB B 104 [.ptr (v.cells cnt),.ptr f.cells] (.bool (dec (dJ f v))):=by
 refine ⟨fun H0=>xS.go fun Gi=>?_⟩
 have F3:=h.is.1.o
 have Fc:=h.sl
 have jH:=cO B f h v cnt;refine tt ?_;refine AD [2,3,15,16] (G:=Unit) (fun k _=>[(17,some (.int .i64 (k : Int)))]) (fun k _ H=>H0.sub H∧∀ x,x<k→∀ s,s<(v.marks.getD x default).length→P9 f v x s) v.marks.length () ⟨.refl _,by simp⟩ rfl ?_
 rintro x _ H hk ⟨Cs,Ak⟩
 replace Cs : H0.sub H:=Cs
 have o : AA H0 H []:=⟨Cs,by simp,by simp,by simp⟩;refine tt ?_;apply bk <;> intro h1
 ·have AR:=dd h1
  have w:=ws x
  have mc:=Jm x AR;refine tt ?_;refine ⟨AR, ?_⟩;refine Ai o fun CP H o=>tt ?_;refine sw o fun H o=>tt ?_;refine AD [2,3,5,15,16,17,22,23] (G:=Unit) (fun k _=>[(24,some (.int .i64 (k : Int)))]) (fun k _ H=>AA H0 H [(CP,.cells 1 [.int .i64 (x : Int)] 0)]∧∀ s,s<k→P9 f v x s) (v.marks.getD x default).length () ⟨o,by simp⟩ rfl ?_;clear o
  rintro s _ H Hm ⟨o,Dd⟩
  replace o : AA H0 H [(CP,.cells 1 [.int .i64 (x : Int)] 0)]:=o;refine tt ?_;apply bk <;> intro h2
  ·have Ah:=dd h2
   have w2:=ws s;refine tt ?_;refine ⟨Ah, ?_⟩;refine Ai o fun Cq H o=>tt ?_;refine sw o fun H o=>tt ?_;apply bk <;> intro h3
   ·refine tw w2 ?_
    have B8 : (v.marks.getD x default).getD s default=false:=by simpa using h3
    exact A5 () (by omega) ⟨o.tl,AG Dd fun e=>by rw [B8] at e; cases e⟩ rfl
   ·have B8 : (v.marks.getD x default).getD s default=true:=by simpa using h3
    have hS:=EZ x AR s (by omega)
    have hq:=fun L hL H i9 h9 h5 h7=>jH x s L H i9 CP Cq h9 h5 h7 (by omega) (by omega) (by omega) hS hL;refine tt ?_;refine Af o.tl.h0 (by simp) (tt ?_);refine ⟨by omega, ?_⟩;refine Af o.h0 (by simp) (tt ?_);refine ⟨by omega,_,(Mo B f h x ((v.BI.getD x default).getD s default) hS 16 (by omega)).run, ?_⟩
    generalize vg : C8 f ((v.BI.getD x default).getD s default)=Fa at *;refine tt ?_;refine Ai o fun Gf H o=>tt ?_;refine sw o fun H o=>tt ?_
    by_cases Cr : Fa.length≤16
    ·have wU : Fa.take 17=Fa:=List.take_of_length_le (by omega);rw [wU] at o;rw [decide_eq_true Cr];refine tt ?_;refine bG (b:=dec (∀ t,t∈Fa→DQ f x ((v.BI.getD x default).getD s default) t)) (fun H1 Rh=>?_) ?_
     ·exact hq Fa (by omega) H1 Gf (Rh _ _ o.h0) (Rh _ _ o.tl.tl.h0) (Rh _ _ o.tl.h0)
     by_cases hu : ∀ t,t∈Fa→DQ f x ((v.BI.getD x default).getD s default) t
     ·rw [Aw hu];try simp only [go_sem,↓reduceIte,reduceEqDiff,reduceAdd,reduceMul,reduceLeDiff,reduceLT,Bool.not_true,w2]
      refine A5 () (by omega) ⟨o.tl.tl,AG Dd fun _=>⟨by rw [vg]; exact Cr,by rw [vg]; exact hu⟩⟩ rfl
     ·rw [Aa hu];refine tn ?_
      exact A6 (by rw [Aa]; exact fun q=>hu (by have:=(q x AR s (by omega) B8).2; rw [vg] at this; exact this)) o.sub
    ·rw [decide_eq_false Cr];refine tn ?_
     exact A6 (by rw [Aa]; exact fun q=>Cr (by have:=(q x AR s (by omega) B8).1; rw [vg] at this; exact this)) o.sub
  ·refine tw w ?_
   have Ah:=dd h2;exact A5 () (by omega) ⟨o.sub,AG Ak fun s hs=>Dd s (by omega)⟩ rfl
 ·refine tt ?_
  have AR:=dd h1;exact A6 (by rw [Aw]; exact fun x hx=>Ak x (by omega)) Cs
def dZ (f : SF) (V : List (List Int)) (x : Nat) : Prop:=∀ e : Nat,e<(ix f.A4 x).toNat→DQ f x (V.getD x default) (CE f (V.getD x default) e)
theorem NK (B : Nat) (f : SF) (h : f.Shape) (V : List (List Int)) (c : Ba f.shape V) : PB B 190 [.agg f.cells,BA V] (.bool (dec (∀ x,x<V.length→dZ f V x))):=by
 refine ⟨fun H0=>Vm.go fun Gi=>?_⟩
 have F3:=h.is.1.o
 have Fc:=h.sl
 have Np:=h.al
 have VZ:=c.len;refine tt ?_;refine AD [1,2] (G:=Unit) (fun k _=>[(5,some (.int .i64 (k : Int)))]) (fun k _ H=>H=H0∧∀ x,x<k→dZ f V x) V.length () ⟨rfl,by simp⟩ rfl ?_
 rintro x _ H hk ⟨rfl,Ak⟩;refine tt ?_;apply bk <;> intro h1
 ·have AR:=dd h1
  have w:=ws x
  have hz:=h.DH (y:=(x : Int)) ⟨by omega,by omega⟩
  have VP : ix f.A4 x=f.A4.getD x default:=by simp only [AH]
  have EZ:=c.sv x (by omega)
  have Rh : ∀ a,a∈V.getD x default→0≤a∧a.toNat<f.AU.length:=fun a ha=>by have:=EZ.arr ha; omega
  have QD : ∀ a,a∈V.getD x default→((ix f.AU a).length : Int)=ix f.A4 x:=fun a ha=>by
   have hv:=EZ.arr ha
   have h1:=h.Cw hv.1.2;rw [hv.2] at h1;exact h1
  refine tt ?_;refine AD [1,2,5] (G:=Unit) (fun k _=>[(6,some (.int .i64 (k : Int)))]) (fun k _ H'=>H'=H∧∀ e : Nat,e<k→DQ f x (V.getD x default) (CE f (V.getD x default) e)) (ix f.A4 x).toNat () ⟨rfl,by simp⟩ rfl ?_
  rintro e _ H Hm ⟨rfl,Dd⟩;refine tt ?_;refine ⟨by omega, ?_⟩;apply bk <;> intro h2
  ·have Ah:=dd h2
   have w2:=ws e;refine tt ?_;refine ⟨by omega,by omega,_,(Hv B f (V.getD x default) e Rh (by omega) (fun a ha=>by have:=QD a ha; omega)).run, ?_⟩;refine ⟨_,(Mx B f x (V.getD x default) (CE f (V.getD x default) e) ⟨by omega,by omega⟩ (by omega) Rh QD).run,tt ?_⟩;apply bk <;> intro h3
   ·refine tt ?_
    have B8:=dd h3;exact A6 (by rw [Aa]; intro q; have:=q x (by omega) e (by omega); simp only [DQ] at this; omega) (.refl _)
   ·refine tw w2 ?_
    have B8:=dd h3;exact A5 () (by omega) ⟨rfl,AG Dd (by simp only [DQ]; omega)⟩ rfl
  ·refine tw w ?_
   have Ah:=dd h2;exact A5 () (by omega) ⟨rfl,AG Ak fun e he=>Dd e (by omega)⟩ rfl
 ·refine tt ?_
  have AR:=dd h1;exact A6 (by rw [Aw]; exact fun x hx=>Ak x (by omega)) (.refl _)
theorem Uy (B : Nat) (f : SF) (h : f.Shape) (V : List (List Int)) (c : Ba f.shape V) : PB B 106 [.agg f.cells,BA V] (.bool (dec (BL f V))):=by
 refine ⟨fun H0=>zh.go fun Gi=>?_⟩
 have F3:=h.is.1.o
 have Fc:=h.sl
 have VZ:=c.len;refine tt ?_;refine (NK B f h V c).go fun _=>?_
 by_cases lY : ∀ x,x<V.length→dZ f V x
 rotate_left
 ·rw [Aa lY];refine tn ?_
  exact A6 (by rw [Aa]; exact fun q=>lY fun x hx=>(q x hx).1) (.refl _)
 rw [Aw lY];refine tn ?_
 refine AD [1,2] (G:=Unit) (fun k _=>[(5,some (.int .i64 (k : Int)))]) (fun k _ H=>H=H0∧∀ x : Nat,x<k→((C8 f (V.getD x default)).length : Int)=ix f.A4 x) V.length () ⟨rfl,by simp⟩ rfl ?_
 rintro x _ H hk ⟨rfl,Ak⟩;refine tt ?_;apply bk <;> intro h1
 ·have AR:=dd h1
  have w:=ws x
  have hz:=h.DH (y:=(x : Int)) ⟨by omega,by omega⟩
  have VP : ix f.A4 x=f.A4.getD x default:=by simp only [AH]
  obtain ⟨n,hn⟩ : ∃ n : Nat,f.A4.getD x default=(n : Int):=⟨(f.A4.getD x default).toNat,by omega⟩
  have wn:=ws n
  have IW:=JA B f x (V.getD x default) h (c.sv x (by omega)) (n+1) (by omega) (by omega);refine tt ?_;rw [hn];simp only [wn];refine ⟨by omega,by omega,_,IW.run,tt ?_⟩
  have hlen : ((C8 f (V.getD x default)).take (n+1)).length=min (n+1) (C8 f (V.getD x default)).length:=List.length_take;refine ⟨by omega, ?_⟩;apply bk <;> intro h3
  ·refine tt ?_
   have B8:=dd h3;exact A6 (by rw [Aa]; intro q; have:=(q x (by omega)).2; omega) (.refl _)
  ·refine tw w ?_
   have B8:=dd h3;exact A5 () (by omega) ⟨rfl,AG Ak (by omega)⟩ rfl
 ·refine tt ?_
  have AR:=dd h1;exact A6 (by rw [Aw]; exact fun x hx=>⟨lY x hx,Ak x (by omega)⟩) (.refl _)
theorem XI (B : Nat) (j : Dw) (f : SF) (cnt : AV) (h0 : codeF j f=0) : PB B 104 [.ptr ((BS j).cells cnt),.ptr f.cells] (.bool (dec (BL f (Aq j.shape j.AP)))):=by
 obtain ⟨hF,hf,JQ,FL⟩:=Ng h0
 have TK : Bg j.shape:=by
  unfold DO at JQ;rw [if_neg (fun e=>e hF)] at JQ;apply Classical.byContradiction; intro e;rw [if_pos e] at JQ; cases JQ
 have Gm : Ia j.shape j.AP:=by
  unfold DO at JQ;rw [if_neg (fun e=>e hF),if_neg (fun e=>e TK)] at JQ;apply Classical.byContradiction; intro e;rw [if_neg e] at JQ; cases JQ
 have tab:=Hj hF.is TK
 have E6 : (BS j).marks.length=(AN j.shape).length:=E1
 have K8 : DU (AN j.shape) (BS j).marks:=GH
 have EZ : (BS j).BI=AN j.shape:=rfl
 have l5 : (AN j.shape).length=j.AP.length:=by have:=tab.len; have:=hF.len; omega
 have K6 : ∀ x : Nat,x<j.AP.length→∀ s,s∈j.AP.getD x default→j.shape.Az x s:=fun x hx s hs=>by
  obtain ⟨k,hk,rfl⟩:=AE.mp hs;exact hF.sv x hx k hk
 have HM:=Wy B (BS j) cnt f hf.1 (by rw [E6,← FL]; exact tab.len) E6.symm (fun x hx=>by
  have IX : x<(AN j.shape).length:=by rw [← E6]; exact hx
  have h1:=K8.row x IX
  have h2:=tab.Yh x IX;rw [h1,EZ];exact ⟨Nat.le_refl _,by omega⟩) (fun x hx s hs=>by
  rw [EZ] at hs ⊢;rw [← FL];exact tab.sv (by rw [← E6]; exact hx) hs)
 have key : dJ f (BS j)↔BL f (Aq j.shape j.AP):=by
  have e:=ZH hf.1 hf.Ei (C:=j.AP) (by rw [← FL]; exact hF.len) (by rw [← FL]; exact K6) (by rw [← FL]; exact Gm);rw [← FL] at e;rw [← e]
  constructor
  ·intro q x hx s hs
   have IX : x<(AN j.shape).length:=by omega
   obtain ⟨k,hk,rfl⟩:=AE.mp (((tab.all x IX).mem s).mpr (K6 x hx s hs))
   have B3:=K8.row x IX;refine q x (by omega) k (by rw [B3]; exact hk) ?_
   show ((marksOf (AN j.shape) j.AP).getD x default).getD k default=true
   rw [Eh IX hk,decide_eq_true_eq];exact hs
  ·intro q x hx s hs hm
   have IX : x<(AN j.shape).length:=by omega
   have Hl : s<((AN j.shape).getD x default).length:=by rw [← K8.row x IX]; exact hs
   have wT : ((marksOf (AN j.shape) j.AP).getD x default).getD s default=true:=hm;rw [Eh IX Hl,decide_eq_true_eq] at wT;exact q x (by omega) _ wT
 rw [BX key] at HM;exact HM
end Go.Proofs.Shf
namespace Go.Shf
open Go.AW
section
variable {f : SF} {V : List (List Int)}
theorem YR (h : f.Shape) {x : Int} (hx : 0≤x∧x<f.shape.AO) : ix (BP f V) x=(List.range (ix f.A4 x).toNat).map fun e : Nat=>indexOf (C8 f (ix V x)) (CE f (ix V x) e):=by
 have hl:=h.sl;rw [ix,BP,AX _ _ (by omega),Di,Int.toNat_of_nonneg hx.1,List.map_map]; rfl
theorem S1 (h : f.Shape) {x e : Int} (hx : 0≤x∧x<f.shape.AO) (he : 0≤e∧e<ix f.A4 x) : ix (ix (BP f V) x) e=indexOf (C8 f (ix V x)) (CE f (ix V x) e):=by
 rw [YR h hx,ix,AX _ _ (by omega),Int.toNat_of_nonneg he.1]
theorem PH (h : f.Shape) (hc : f.DJ) (v : Ba f.shape V) {x e : Int} (hx : 0≤x∧x<f.shape.AO) (he : 0≤e∧e<ix f.A4 x) :
  (0≤ix (ix (BP f V) x) e∧ix (ix (BP f V) x) e<ix (BM f V) x)∧ix (C8 f (ix V x)) (ix (ix (BP f V) x) e)=CE f (ix V x) e:=by
 have:=j9 h v hx (HY h hc (v.at hx) he);rw [S1 h hx he,CL v hx];exact ⟨⟨this.1.1,by omega⟩,this.2⟩
theorem Db (h : f.Shape) (hc : f.DJ) (v : Ba f.shape V) : D5 f (AS f V) (BP f V):=by
 have hl:=h.sl;refine ⟨by simp [BP]; exact hl,fun x hx=>⟨?_,fun e he=>(PH h hc v hx he).1⟩,fun b hb e he=>?_⟩
 ·have:=h.DH hx;rw [YR h hx,List.length_map,List.length_range]; omega
 have JP:=h.is.1.Cn hb.2
 have DS:=h.is.1.Cb hb.2
 have hr:=YD h hb rfl he
 have u1:=PH h hc v JP he
 have D1:=CL v JP
 show _=ix (ix (BZ f V) b) _
 rw [S1 h DS hr,(GN h v hb (k:=ix (ix (BP f V) (ix f.shape.AJ b)) e) (by omega)).1,u1.2]
 congr 1
 refine JV (v.at DS).nodup (by simp [CE]) (by simp [Bz]) fun d hd=>?_
 have Yb:=(v.at DS).arr hd;rw [GI hd,DP hd,GI (v.st b hb d hd),hc b d hb Yb.1 Yb.2.symm _ (jY h hb rfl he)]
theorem Xv {p q : List (List Int)} {x e : Int} (hx : 0≤x∧x.toNat<p.length) (he : 0≤e∧e.toNat<(ix p x).length) : ix (ix (thenS p q) x) e=ix (ix q x) (ix (ix p x) e):=by
 have jJ : e.toNat<(p.getD x.toNat default).length:=he.2;rw [ix,ix,thenS,AX _ _ hx.2,BB _ jJ]; rfl
theorem D5.then {g k : SF} {p q : List (List Int)} (m : D5 f g p) (n : D5 g k q) (e : f.shape=g.shape) (hf : f.Shape) : D5 f k (thenS p q):=by
 have hl:=m.len
 have hln : ∀ x : Int,0≤x∧x<f.shape.AO→(ix (thenS p q) x).length=(ix p x).length:=fun x hx=>by rw [ix,thenS,AX _ _ (by omega),List.length_map]; rfl
 have Hs : ∀ x : Int,0≤x∧x<f.shape.AO→∀ y : Int,0≤y∧y<ix f.A4 x→ix (ix (thenS p q) x) y=ix (ix q x) (ix (ix p x) y):=fun x hx y hy=>Xv (by omega) (by have:=(m.pl x hx).1; omega);refine ⟨by simp [thenS]; exact hl,fun x hx=>⟨by rw [hln x hx]; exact (m.pl x hx).1,fun y hy=>?_⟩,fun b hb y hy=>?_⟩
 ·rw [Hs x hx y hy];exact (n.pl x (by rw [← e]; exact hx)).2 _ ((m.pl x hx).2 y hy)
 ·have JP:=hf.is.1.Cn hb.2
  have DS:=hf.is.1.Cb hb.2
  have hr:=YD hf hb rfl hy;rw [Hs _ DS _ hr,Hs _ JP _ hy,m.nl b hb y hy]
  have:=n.nl b (by rw [← e]; exact hb) (ix (ix p (ix f.shape.AJ b)) y) (by rw [← e]; exact (m.pl _ JP).2 y hy);rw [← e] at this;exact this
end
end Go.Shf
namespace Go.AW
open Go.Proofs Go.Shf Go.Proofs.Shf
theorem oZ.yB {P : Program} {B : Nat} {f : FuncId} {args : List AV} {r r' : AV} (h : oZ P B f args r) (hw : ∀ g v,Ab g r v→Ab g r' v) : oZ P B f args r':=by
 refine ⟨fun H=>⟨(h.run H).1,fun g w vs hW hv=>?_⟩⟩;refine ((h.run H).2 g w vs hW hv).mono fun e w' ⟨v,he,g',r2,H',q1,⟨q2,q3⟩,q4,q5,q6⟩=>?_;subst q2 q3;exact ⟨v,he,g',r',H',q1,⟨rfl,rfl⟩,hw _ _ q4,q5,q6⟩
end Go.AW
namespace Go.Proofs.Shf
open Go.AW Go.Proofs Go.Shf
def YI (a b : AV) : Prop:=∀ g v,Ab g a v→Ab g b v
theorem YI.refl (a : AV) : YI a a:=fun _ _ h=>h
theorem YI.nil : YI .A1 (.sl []):=fun g v h=>by cases h; exact .slnil none 0
inductive kU : List AV→List AV→Prop
 | nil : kU [] []
 | cons {a b : AV} {r s : List AV} (h : YI a b) (t : kU r s) : kU (a::r) (b::s)
theorem kU.get {r s : List AV} (h : kU r s) : r.length=s.length∧∀ i,i<r.length→YI (r.getD i nv) (s.getD i nv):=by
 induction h with
 | nil=>exact ⟨rfl,fun i hi=>by simp at hi⟩
 | cons h _ ih =>
  refine ⟨by simp [ih.1],fun i hi=>?_⟩
  cases i with
  | zero=>simpa using h
  | succ i=>simpa using ih.2 i (by simpa using hi)
theorem YI.agg {r s : List AV} (h : kU r s) : YI (.agg r) (.agg s):=fun g v hv=>by
 obtain ⟨hl,h⟩:=h.get
 cases hv with
 | agg _ vs hs hv=>exact .agg s vs (by omega) fun i hi=>h i (by omega) g _ (hv i (by omega))
theorem YI.CG {r s : List AV} (h : kU r s) : YI (.CG r) (.CG s):=fun g v hv=>by
 obtain ⟨hl,h⟩:=h.get
 cases hv with
 | CG _ vs hs hv=>exact .CG s vs (by omega) fun i hi=>h i (by omega) g _ (hv i (by omega))
theorem fb : kU [.int .i64 0,.A1,.A1,.A1,.A1,.A1,.A1,.int .i64 0,.A1,.A1,.A1,.A1,.A1,.A1,.A1] (SM.cells nK) :=
 .cons (.refl _) (.cons .nil (.cons .nil (.cons .nil (.cons .nil (.cons .nil (.cons .nil (.cons (.refl _) (.cons .nil (.cons .nil (.cons .nil (.cons .nil (.cons .nil (.cons .nil (.cons .nil .nil))))))))))))))
theorem YI.code {r s : List AV} {c : AV} (h : kU r s) : YI (.CG [.agg r,c]) (.CG [.agg s,c]):=.CG (.cons (.agg h) (.cons (.refl _) .nil))
theorem VD (B : Nat) (j : Dw) (f : SF) : PB B 38 [.agg j.cells,.agg f.cells] (.CG [.agg (SM.cells (LH j f)),.int .i64 (Dj j f)]):=by
 refine (T4 B j f).yB fun g v hv=>?_
 by_cases h : codeF j f=0∧CQ f (Aq j.shape j.AP)
 ·rw [WI,if_pos h] at hv;rw [LH,if_pos h]; exact hv
 ·rw [WI,if_neg h] at hv;rw [LH,if_neg h]; exact YI.code fb g v hv
theorem NH (B : Nat) (j : Dw) (f : SF) : PB B 37 [.agg j.cells,.agg f.cells] (.CG [.agg (SM.cells (LH j f)),.int .i64 (Dj j f)]):=Gk.pur (f:=fun m : SM=>.CG [.agg m.cells,.int .i64 (Dj j f)]) (yY.ib _) (LR B j f)
end Go.Proofs.Shf
namespace Go.Shf
open Go.AW
theorem Nd {f : SF} {V : List (List Int)} (h : f.Is) (v : Ba f.shape V) (hf : Bu f V) : (AS f V).Is:=by
 have hs:=CX h.1 v hf
 have hc:=HW h.1 v hf;refine ⟨hs,⟨fun x hx e he=>?_,fun a b ha hb HL e he=>?_⟩⟩
 ·replace hx : x<f.shape.Av.length:=hx
  have K9:=h.1.is.1.il
  have bA : 0≤(x : Int)∧(x : Int)<f.shape.AO:=by omega
  have ha:=h.1.is.1.Um bA;rw [AH] at ha
  show (ix (BZ f V) (f.shape.Av.getD x default)).getD e default=e
  replace he : e<(ix (BZ f V) (f.shape.Av.getD x default)).length:=he;rw [Gv ha.1,List.length_map] at he
  have s1:=GN h.1 v ha.1 (k:=(e : Int)) ⟨by omega,by simpa using he⟩;rw [← AH (ix (BZ f V) _),s1.1]
  have Gi:=Sb h.1 v (x:=ix f.shape.AJ (f.shape.Av.getD x default)) (by rw [ha.2.1]; exact bA) (k:=(e : Int)) ⟨by omega,by simpa using he⟩
  have hm : Bz f.shape V (f.shape.Av.getD x default) (ix (C8 f (ix V (ix f.shape.AJ (f.shape.Av.getD x default)))) e)=ix (C8 f (ix V (ix f.shape.AJ (f.shape.Av.getD x default)))) e:=by
   have h1:=Gi.1;rw [ha.2.1] at h1 ⊢;refine JV (v.at bA).nodup (by rw [Bz,List.length_map,ha.2.2]) h1.len fun b hb=>?_
   have QC:=(v.at bA).arr hb
   have:=DP (c:=f.shape) (V:=V) (a:=f.shape.Av.getD x default) (b:=b) (t:=ix (C8 f (ix V x)) e) (by rw [ha.2.2]; exact hb);rw [ha.2.2,ha.2.1] at this;rw [this]
   have hi:=h.1.is.ZO QC.1;rw [QC.2,AH] at hi;rw [hi]
  rw [hm]
  have h2:=Gi.2;rw [ha.2.1] at h2;rw [ha.2.1,ha.2.2];exact h2
 ·have:=hc a b ⟨by omega,by simpa using ha⟩ ⟨by omega,by simpa using hb⟩ (by simpa only [AH] using HL) e ⟨by omega,by simpa [AH] using he⟩
  simpa only [AH] using this
end Go.Shf
namespace Go.AW
def iB (b : UInt8) : AV:=.int .u8 (b.toNat : Int)
instance : One iB:=⟨fun _=>rfl,fun _=>rfl⟩
structure Src where
 code : List UInt8
 pl : Int
 hash : Int
def Src.cells (s : Src) : List AV:=[mL iB s.code,.int .i64 s.pl,.int .u64 s.hash]
def Src.Ok (s : Src) : Prop:=0≤s.pl∧s.code.length≤AL
def Src.obj (s : Src) : AF:=.cells 3 s.cells 0
def eh (id : Nat) (H0 : AB) (Q : AV→Prop) : Am:=fun r H'=>Q r∧∃ s' : Src,s'.Ok∧AA H0 H' [(id,s'.obj)]
theorem AA.self {H0 H : AB} {id : Nat} {o : AF} {l : List (Nat × AF)} (h : AA H0 H ((id,o)::l)) : AA (H.del id) H [(id,o)] where
 sub:=fun i x hx=>by
  by_cases e : i=id
  ·subst e; rw [AB.Cf] at hx; cases hx
  ·rwa [AB.C3 _ e] at hx
 get:=fun x hx=>by
  rw [List.mem_singleton] at hx; subst hx;exact h.get _ (by simp)
 nd:=by simp
 out:=fun x hx=>by
  rw [List.mem_singleton] at hx; subst hx;exact AB.Cf _ _
end Go.AW
namespace Go.Proofs.Shf
open Go.AW Go.Proofs Go.Shf
theorem Wx {a x : Int} (h : IntKind.i64.wrap (IntKind.u64.wrap ((BitVec.ofInt IntKind.u64.bits a &&& BitVec.ofInt IntKind.u64.bits 16777215).toNat : Int))=x) : 0≤x∧x≤16777215:=by
 have h1 : (BitVec.ofInt IntKind.u64.bits a &&& BitVec.ofInt IntKind.u64.bits 16777215).toNat≤16777215:=by
  rw [BitVec.toNat_and]
  have : (BitVec.ofInt IntKind.u64.bits 16777215).toNat=16777215:=rfl;rw [this];exact Nat.and_le_right
 generalize (BitVec.ofInt IntKind.u64.bits a &&& BitVec.ofInt IntKind.u64.bits 16777215).toNat=m at h h1
 have e : IntKind.u64.wrap (m : Int)=m:=by
  have : IntKind.u64.wrap (m : Int)=(m : Int) % 18446744073709551616:=by simp only [IntKind.wrap]; rfl
  omega
 rw [e,wrap_i64 (by omega) (by omega)] at h;omega
def Rd (B : Nat) (fn : FuncId) (args : List AV) (Q : AV→Prop) : Prop :=
 ∀ (id : Nat) (s : Src) (H0 H : AB),s.Ok→AA H0 H [(id,s.obj)]→CB B fn (.ref id 0::args) H (eh id H0 Q)
theorem Rd.go {B : Nat} {fn : FuncId} {args : List AV} {Q : AV→Prop} {id : Nat} {s : Src} {H0 H : AB} {l : List (Nat × AF)} {K : Am} (h : Rd B fn args Q) (hs : s.Ok) (o : AA H0 H ((id,s.obj)::l))
  (hk : ∀ (r : AV) (s' : Src) (H' : AB),r.EY→Q r→s'.Ok→AA H0 H' ((id,s'.obj)::l)→K r H') : CB B fn (.ref id 0::args) H K :=
 (h id s _ H hs o.self).Iu fun r H' hf ⟨q,s',Hl,o'⟩=>hk r s' H' hf q Hl (o.del.trans o')
theorem Ax {id : Nat} {s : Src} {H0 H : AB} {l : List (Nat × AF)} {Q : AV→Prop} {v : AV} (q : Q v) (hs : s.Ok) (o : AA H0 H ((id,s.obj)::l)) : Ik (eh id H0 Q) v H :=
 ⟨H,.refl H,q,s,hs,o.KW (by simp)⟩
def Jq (B : Nat) (fn : FuncId) (args : List AV) (Q : AV→Prop) : Prop:=∀ H,CB B fn args H fun r H'=>Q r∧H'=H
theorem Jq.go {B : Nat} {fn : FuncId} {args : List AV} {Q : AV→Prop} {H : AB} {K : Am} (h : Jq B fn args Q) (hk : ∀ r,r.EY→Q r→K r H) : CB B fn args H K :=
 (h H).Iu fun r H' hf ⟨q,e⟩=>by subst e; exact hk r hf q
theorem Bj {H0 H : AB} {Q : AV→Prop} {v : AV} (q : Q v) (h : H0.sub H) : Ik (fun r H'=>Q r∧H'=H0) v H:=⟨H0,h,q,rfl⟩
theorem AZ (B : Nat) (n : Int) : Rd B 85 [iI n] fun r=>∃ k : Int,r=iI k∧0≤k∧(1≤n→k<n)∧(n<1→k=0):=by
 intro id s H0 H hs o;refine c85.go fun hf=>?_;refine tt ?_;apply bk <;> intro h1
 ·have AR:=A7 h1;refine tt ?_;exact Ax ⟨0,rfl,by omega,by omega,fun _=>rfl⟩ hs o
 ·have AR:=A9 h1;refine tt ?_
  obtain ⟨code,pl,hash⟩:=s;simp only [Src.obj,Src.cells] at o;simp only [Src.Ok,AL] at hs;refine AK o (by simp) (tt ?_);refine sw o fun H o=>tt ?_;refine AK o (by simp) (tt ?_)
  generalize hx : IntKind.i64.wrap (IntKind.u64.wrap _)=x
  have Qk:=Wx hx;clear hx;refine ⟨by omega,AK o (by simp) ?_⟩;refine tt ?_;refine AK o (by simp) (tt ?_);apply bk <;> intro h2
  ·have Ah:=A7 h2;refine tt ?_;refine AK o (by simp) (tt ?_);refine AK o (by simp) (tt ?_);refine ⟨⟨hs.1,by omega⟩, ?_⟩
   have hb:=(ix code pl).toNat_lt;try simp only [go_sem,↓reduceIte,reduceEqDiff,reduceAdd,reduceMul,reduceLeDiff,reduceLT,iB]
   generalize (ix code pl).toNat=b at hb ⊢
   have e1 : IntKind.i64.wrap (b : Int)=b:=wrap_i64 (by omega) (by omega)
   have e2 : IntKind.i64.wrap (x+b)=x+b:=wrap_i64 (by omega) (by omega)
   have e3 : IntKind.i64.wrap (pl+1)=pl+1:=wrap_i64 (by omega) (by omega);refine t2 e1 e2 ?_
   refine AK o (by simp) ?_;refine tw e3 ?_;refine sw o fun H o=>tt ?_;refine ⟨by omega,Ax (s:=⟨code,pl+1,_⟩) ⟨(x+b).tmod n,rfl, ?_, ?_, ?_⟩ ⟨by show 0≤pl+1; omega,hs.2⟩ o⟩
   ·exact Int.tmod_nonneg _ (by omega)
   ·intro h; exact Int.tmod_lt_of_pos _ (by omega)
   ·intro h; omega
  ·refine tt ?_;refine ⟨by omega,Ax (s:=⟨code,pl,_⟩) ⟨x.tmod n,rfl, ?_, ?_, ?_⟩ hs o⟩
   ·exact Int.tmod_nonneg _ (by omega)
   ·intro h; exact Int.tmod_lt_of_pos _ (by omega)
   ·intro h; omega
theorem Ki (B : Nat) (l : List Int) (hl : l≠[]) : Rd B 162 [iL l] fun r=>∃ k : Int,r=iI k∧k∈l:=by
 intro id s H0 H hs o;refine c162.go fun hf=>?_
 have hp : 0<l.length:=List.length_pos_iff.mpr hl;refine tt ?_;refine (AZ B l.length).go hs o fun r s' H hr ⟨k,e,h0,h1,_⟩ hs o=>?_;subst e
 have h1:=h1 (by omega);refine tt ?_;refine ⟨⟨h0,by omega⟩,tt ?_⟩;exact Ax ⟨_,rfl,Bh (by omega)⟩ hs o
theorem SU (B : Nat) (n : Int) : Rd B 87 [iI n] fun r=>∃ k : Int,r=iI k:=by
 intro id s H0 H hs o;refine c87.go fun hf=>?_;refine tt ?_;refine (AZ B 40).go hs o fun r s' H hr ⟨k,e,h0,h1,_⟩ hs o=>?_;subst e;refine tt ?_;apply bk <;> intro h1
 ·refine tt ?_;refine ⟨?_, ?_⟩
  ·simp [AL]
  refine (Ki B [-1,n,9223372036854775807,-9223372036854775808] (by simp)).go hs o fun r s' H hr ⟨k,e,_⟩ hs o=>?_;subst e;refine tt ?_;exact Ax ⟨_,rfl⟩ hs o
 ·refine tt ?_;refine (AZ B n).go hs o fun r s' H hr ⟨k,e,h0,h1,_⟩ hs o=>?_;subst e;refine tt ?_;exact Ax ⟨_,rfl⟩ hs o
def nG (H0 : AB) : Am:=fun r H'=>∃ (id : Nat) (s : Src),r=.ref id 0∧s.Ok∧AA H0 H' [(id,s.obj)]
theorem W6 (B : Nat) (code : List UInt8) (H0 : AB) : CB B 56 [mL iB code] H0 (nG H0):=by
 refine zN.go fun ⟨hf,_⟩=>?_
 have hl:=AM hf
 have oH:=hl;simp only [AL] at oH;refine tt ?_;refine nb (.nil _) fun id H o=>tt ?_;refine AD [0,3] (G:=Int) (fun k _=>[(4,some (.int .i64 (k : Int)))]) (fun k h H=>AA H0 H [(id,.cells 3 [mL iB code,.int .i64 0,.int .u64 h] 0)]) code.length _ o rfl ?_;clear o
 rintro k h H hk o
 have o : AA H0 H [(id,.cells 3 [mL iB code,.int .i64 0,.int .u64 h] 0)]:=o
 have gP : nG H0 (.ref id 0) H:=⟨id,⟨code,0,h⟩,rfl,⟨Int.le_refl 0,hl⟩,o⟩;refine tt ?_;apply bk <;> intro h1
 ·have AR:=A7 h1;refine tw h1 ?_;apply bk <;> intro h2
  ·refine tt ?_;refine AK o (by simp) ?_
   have w:=ws k;try simp only [go_sem,↓reduceIte,reduceEqDiff,reduceAdd,reduceMul,reduceLeDiff,reduceLT,iB]
   refine ⟨by omega, ?_⟩;try simp only [go_sem,↓reduceIte,reduceEqDiff,reduceAdd,reduceMul,reduceLeDiff,reduceLT,iB]
   refine sw o fun H o=>?_;refine tw w ?_;exact A5 _ (by omega) o rfl
  ·refine tt ?_;exact ⟨H,.refl H,gP⟩
 ·refine tw h1 ?_;exact ⟨H,.refl H,gP⟩
theorem qY (B : Nat) (code : List UInt8) : PB B 8 [mL iB code] (.bool (decide (4096<code.length))):=by
 refine ⟨fun H0=>c8.go fun hf=>tt ?_⟩;refine A6 ?_ (.refl _)
 congr 1
 exact decide_eq_decide.mpr (by omega)
theorem FX (B : Nat) (a b : List Int) : PB B 24 [iL a,iL b] (.bool (dec (a=b))):=by
 refine ⟨fun H0=>c24.go fun ⟨hf,hg,_⟩=>?_⟩
 have hl:=AM hf
 have Ii:=AM hg;simp only [AL] at hl Ii;refine tt ?_;apply bk <;> intro h0
 ·refine tt ?_
  have Nn : a.length≠b.length:=by simpa using h0
  exact A6 (by rw [Aa]; rintro rfl; exact Nn rfl) (.refl _)
 have Nn : a.length=b.length:=by simpa using h0
 refine tt ?_;refine AD [0,1] (fun k _=>[(5,some (.int .i64 (k : Int)))]) (fun k _ H=>H=H0∧∀ i,i<k→a.getD i default=b.getD i default) a.length () ⟨rfl,by simp⟩ rfl ?_
 rintro k _ H hk ⟨rfl,Ak⟩;refine tt ?_;apply bk <;> intro h1
 ·have h1:=A7 h1
  have w1:=ws k;refine tt ?_;refine ⟨h1,by omega,tt ?_⟩;apply bk <;> intro h2
  ·refine tt ?_
   have Ah : a.getD k default≠b.getD k default:=by simpa using h2
   exact A6 (by rw [Aa]; rintro rfl; exact Ah rfl) (.refl _)
  ·refine tw w1 ?_
   have Ah : a.getD k default=b.getD k default:=by simpa using h2
   exact A5 () (by omega) ⟨rfl,AG Ak Ah⟩ rfl
 ·refine tt ?_
  have h1:=A9 h1;refine A6 ?_ (.refl _);rw [Aw];refine List.ext_getElem Nn fun i hi hj=>?_
  have:=Ak i (by omega)
  simpa [gE,hi,hj] using this
theorem dT5 {p : Decidable True} : @decide True p=true:=@decide_eq_true True p trivial
theorem KZ (B : Nat) (a : List (List Int)) : PB B 27 [BA a,BA a] (.bool true):=by
 refine ⟨fun H0=>c27.go fun ⟨hf,_⟩=>?_⟩
 have hl:=AM hf;simp only [AL] at hl;refine tt ?_;refine ⟨fun e=>(by simp at e),fun _=>At.mk ?_⟩;refine tt ?_;refine AD [0,1] (G:=Unit) (fun k _=>[(5,some (.int .i64 (k : Int)))]) (fun k _ H=>H=H0) a.length () rfl rfl ?_
 rintro k _ H hk rfl;refine tt ?_;apply bk <;> intro h1
 ·have AR : k<a.length:=A7 h1
  have w:=ws k;refine tt ?_;refine ⟨AR,AR,tt ?_⟩;refine ⟨_,(FX B _ _).run, ?_⟩;rw [Aw rfl];refine tw w ?_;exact A5 () (by omega) rfl rfl
 ·refine tt ?_;exact A6 rfl (.refl _)
theorem VG (B : Nat) (c : Ay) : PB B 17 [.agg c.cells,.agg c.cells] (.bool true):=by
 refine ⟨fun H0=>c17.go fun _=>?_⟩;refine td ?_;refine (FX B _ _).go fun _=>?_;rw [Aw rfl];refine td ?_;refine (FX B _ _).go fun _=>?_;rw [Aw rfl];refine td ?_;refine (FX B _ _).go fun _=>?_;rw [Aw rfl];refine td ?_;refine (KZ B _).go fun _=>?_;refine td ?_;exact A6 rfl (.refl _)
theorem Ky (B : Nat) (f : SF) : PB B 33 [.agg f.cells,.agg f.cells] (.bool true):=by
 refine ⟨fun H0=>c33.go fun _=>?_⟩;refine td ?_;refine (VG B f.shape).go fun _=>?_;refine td ?_;refine (FX B _ _).go fun _=>?_;rw [Aw rfl];refine td ?_;refine (KZ B _).go fun _=>?_;refine td ?_;exact A6 rfl (.refl _)
theorem IK (B : Nat) (m : SM) : PB B 39 [.agg m.cells,.agg m.cells] (.bool true):=by
 refine ⟨fun H0=>c39.go fun _=>?_⟩;refine td ?_;refine (Ky B m.src).go fun _=>?_;refine td ?_;refine (Ky B m.CA).go fun _=>?_;refine td ?_;refine (KZ B _).go fun _=>?_;refine td ?_;exact A6 rfl (.refl _)
end Go.Proofs.Shf
namespace Go.AW
@[go_sem] theorem qV : AV.FG.cells=[.FG]:=rfl
@[go_sem] theorem xQ : AV.FG.one=true:=rfl
@[go_sem] theorem dy : (3≤AL)=True:=by simp [AL]
@[go_sem] theorem zY : (4≤AL)=True:=by simp [AL]
@[go_sem] theorem az : (5≤AL)=True:=by simp [AL]
theorem permC {l r : Ob} (h : ∀ x,@List.count _ (@instBEqOfDecidableEq _ (Classical.typeDecidableEq _)) x l=@List.count _ (@instBEqOfDecidableEq _ (Classical.typeDecidableEq _)) x r) : l.Perm r:=by
 letI : DecidableEq (Nat × AF):=Classical.typeDecidableEq _
 exact List.perm_iff_count.mpr h
def qd {α : Type} (f : α→AV) (p : List (Nat × AF)) (X : AV) (A : List α) : Prop :=
 (p=[]∧X=.FG∧A=[])∨∃ id,p=[(id,.cells 1 (A.map f) 0)]∧X=.buf id A.length
theorem qd.o {α : Type} {f : α→AV} {H0 H : AB} {l p : List (Nat × AF)} {X : AV} {A : List α} (h : qd f p X A) (o : AA H0 H (p++l)) : uX f H0 H l X A:=by
 rcases h with ⟨rfl,h1,h2⟩ | ⟨id,rfl,h1⟩
 ·exact .inl ⟨h1,h2,o⟩
 ·exact .inr ⟨id,h1,o⟩
theorem rE {F : Env→AB→Prop} {σ : Env} {H0 H : AB} {l : List (Nat × AF)} {id sz fr : Nat} {cs : List AV} (k : Nat)
  (o : AA H0 H ((id,.cells sz cs fr)::l)) (hc : cs[k]? = some .FG) (hk : ∀ H',AA H0 H' ((id,.cells sz (cs.set k (.sl [])) fr)::l)→Gj F σ H') : Gj F σ H:=by
 have h1:=o.h0;simp only at h1;refine Da (σ1:=σ) ?_ (hk _ (o.put (.cells sz (cs.set k (.sl [])) fr)))
 intro g B w tm hW hE;refine ⟨g,.refl g,hW.XN h1 (by simp) fun j v hj hv=>?_,hE⟩
 by_cases e : j=k
 ·subst e
  have e1 : cs.getD j nv=.FG:=by rw [gE,hc]; rfl
  have e2 : (cs.set j (.sl [])).getD j nv=.sl []:=by simp [gE,hj]
  rw [e1] at hv; rw [e2]
  cases hv; exact .slnil _ 0
 ·have e2 : (cs.set k (.sl [])).getD j nv=cs.getD j nv:=by
   rw [gE,List.getElem?_set_ne (by omega),← gE]
  rw [e2]; exact hv
theorem yV {α : Type} [Inhabited α] {f : α→AV} [One f] {F : Env→AB→Prop} {σ : Env} {H0 H : AB} {l p : List (Nat × AF)} {id sz fr : Nat} {cs : List AV} {X : AV} {A : List α} (k : Nat)
  (h : qd f p X A) (o : AA H0 H (p++((id,.cells sz cs fr)::l))) (hc : cs[k]? = some X)
  (hk : ∀ H',AA H0 H' ((id,.cells sz (cs.set k (mL f A)) fr)::l)→Gj F σ H') : Gj F σ H:=by
 rcases h with ⟨rfl,rfl,rfl⟩ | ⟨ER,rfl,rfl⟩
 ·exact rE k o hc hk
 ·exact B5 k o.swap hc rfl hk
end Go.AW
namespace Go.Shf
open Go.AW
structure Ay.Sh (N : Nat) (c : Ay) : Prop where
 ob : 0≤c.AO∧c.AO≤N
 il : (c.Av.length : Int)=c.AO
 ml : c.AJ.length≤N
 tl : c.to.length=c.AJ.length
 cl : c.comp.length=c.AJ.length
 row : ∀ f : Nat,f<c.AJ.length→(c.comp.getD f default).length=c.AJ.length
theorem Ay.Sh.mono {N M : Nat} {c : Ay} (h : c.Sh N) (hm : N≤M) : c.Sh M:=⟨by have:=h.ob; omega,h.il,by have:=h.ml; omega,h.tl,h.cl,h.row⟩
def QN (N : Nat) (r : AV) : Prop:=∃ c : Ay,r=.agg c.cells∧c.Sh N
def oi (n : Nat) (T : List (List Int)) : Prop:=T.length≤n∧∀ i,i<T.length→(T.getD i default).length=T.length
def SqQ (n : Nat) (r : AV) : Prop:=∃ T : List (List Int),r=BA T∧oi n T
end Go.Shf
namespace Go.Proofs.Shf
open Go.AW Go.Proofs Go.Shf
theorem I6 (B : Nat) : Rd B 272 [] (SqQ 4):=by
 intro id s H0 H hs o;refine yx.go fun hf=>?_;refine tt ?_;refine (AZ B 8).go hs o fun r s' H hr ⟨k,e,h0,h1,_⟩ hs o=>?_;subst e;refine tt ?_;apply bk <;> intro q0
 ·refine tt ?_;exact Ax ⟨[[0]],rfl,by decide,by decide⟩ hs o
 refine tt ?_;apply bk <;> intro q1
 ·refine tt ?_;exact Ax ⟨[[0,1],[1,0]],rfl,by decide,by decide⟩ hs o
 refine tt ?_;apply bk <;> intro q2
 ·refine tt ?_;exact Ax ⟨[[0,1],[1,1]],rfl,by decide,by decide⟩ hs o
 refine tt ?_;apply bk <;> intro q3
 ·refine tt ?_;exact Ax ⟨[[0,1,2],[1,2,0],[2,0,1]],rfl,by decide,by decide⟩ hs o
 refine tt ?_;apply bk <;> intro q4
 ·refine tt ?_;exact Ax ⟨[[0,1,2],[1,1,2],[2,2,2]],rfl,by decide,by decide⟩ hs o
 refine tt ?_;apply bk <;> intro q5
 ·refine tt ?_;exact Ax ⟨[[0,1,2],[1,1,2],[2,1,2]],rfl,by decide,by decide⟩ hs o
 refine tt ?_;apply bk <;> intro q6
 ·refine tt ?_;exact Ax ⟨[[0,1,2,3],[1,0,2,3],[2,3,2,3],[3,2,2,3]],rfl,by decide,by decide⟩ hs o
 refine tt ?_;exact Ax ⟨[[0,1,2],[1,2,2],[2,2,2]],rfl,by decide,by decide⟩ hs o
theorem V4 (B : Nat) : Jq B 273 [] (QN 6):=by
 intro H0;refine c273.go fun hf=>?_;refine tt ?_;refine fun i1 n1=>tt ?_;refine Bj ⟨⟨2,[0,1,0,0,1],[0,1,0,1,0],[0,1],[[0,-1,2,3,-1],[-1,1,-1,-1,4],[2,-1,2,3,-1],[-1,3,-1,-1,2],[4,-1,4,1,-1]]⟩,rfl,by decide,by decide,by decide,by decide,by decide,by decide⟩ ?_
 repeat (first | exact .refl _ | refine C7 ?_ n1)
theorem OE (B : Nat) (c : Ay) : PB B 209 [.agg c.cells] (.bool (dec (c.AO≤8∧c.AJ.length≤40))):=by
 refine ⟨fun H0=>zy.go fun hf=>tt ?_⟩;apply bk <;> intro h1
 ·refine tw h1 ?_
  exact A6 (by
   have AR:=A7 h1
   congr 1
   rw [BK];exact BX ⟨fun h=>⟨AR,by omega⟩,fun h=>by have:=h.2; omega⟩) (.refl _)
 ·refine tw h1 ?_;exact A6 (by rw [Aa (fun h=>A9 h1 h.1)]) (.refl _)
theorem IH (B : Nat) (T : List (List Int)) (hT : oi 4 T) : Jq B 271 [BA T] (QN 4):=by
 intro H0;refine bp.go fun hf=>?_;refine tt ?_;refine Ai (.nil _) fun id H o=>tt ?_;refine ⟨_,(IB ..).run,tt ?_⟩
 have hT4:=hT.1
 have hc : (T.length : Int)≤T.length∧T.length≤AL∧T.length≤AL:=⟨by omega,by simp only [AL]; omega,by simp only [AL]; omega⟩;refine ⟨?_, ?_⟩
 ·refine ⟨hc,DD iI 0 rfl o fun i7 H o=>?_⟩;refine tt ?_;refine ⟨hc,DD iI 0 rfl o fun i9 H o=>?_⟩;refine tt ?_
  have o:=o.pull [_,_];simp only [List.cons_append,List.nil_append] at o;refine sw o fun H o=>tt ?_;refine B5 2 o rfl (by simp) fun H o=>?_;have o:=s1 o;refine B5 1 o rfl (by simp) fun H o=>AY ?_;have o:=s1 o;refine tt ?_
  have hr:=o.rc 5 0 (by simp);simp only [List.drop_zero] at hr;rw [hr];refine tt ?_;exact Bj ⟨⟨1,List.replicate T.length 0,List.replicate T.length 0,[0],T⟩,rfl,by simp,by simp,by simpa using hT4,by simp,by simp,fun f hf=>by simpa using hT.2 f (by simpa using hf)⟩ o.sub
 ·refine ⟨hc,DD iI 0 rfl o fun i9 H o=>?_⟩;refine tt ?_;refine ⟨hc,DD iI 0 rfl o fun i7 H o=>?_⟩;refine tt ?_
  have o:=o.pull [_,_];simp only [List.cons_append,List.nil_append] at o;refine sw o fun H o=>tt ?_;refine B5 1 o rfl (by simp) fun H o=>?_;have o:=s1 o;refine B5 2 o rfl (by simp) fun H o=>AY ?_;have o:=s1 o;refine tt ?_
  have hr:=o.rc 5 0 (by simp);simp only [List.drop_zero] at hr;rw [hr];refine tt ?_;exact Bj ⟨⟨1,List.replicate T.length 0,List.replicate T.length 0,[0],T⟩,rfl,by simp,by simp,by simpa using hT4,by simp,by simp,fun f hf=>by simpa using hT.2 f (by simpa using hf)⟩ o.sub
theorem cU (B : Nat) (N : Nat) (hN : N≤4096) (c : Ay) (hc : c.Sh N) : Jq B 274 [.agg c.cells] (QN N):=by
 intro H0;refine dc.go fun hf=>?_
 have F3:=hc.ob
 have E6:=hc.ml
 have IQ:=hc.tl
 have Md:=hc.cl
 have B3:=hc.row;refine tt ?_;refine Ai (.nil _) fun ER H o=>tt ?_;refine ⟨_,(Df ..).run,tt ?_⟩;refine ⟨_,(Df ..).run,tt ?_⟩;refine ⟨_,(Df ..).run,tt ?_⟩;refine Ai o fun Ce H o=>tt ?_;refine sw o fun H o=>tt ?_
 refine AD [1,2,3] (G:=AV × Ob × List (List Int)) (fun k _=>[(4,some (.int .i64 (k : Int)))])
  (fun k g H=>qd iL g.2.1 g.1 g.2.2∧g.2.2.length=k∧(∀ r,r∈g.2.2→r.length=c.AJ.length)∧AA H0 H (g.2.1++[(Ce,AF.cells 5 [iI c.AO,iL c.to,iL c.AJ,iL c.Av,g.1] 0),(ER,AF.cells 5 [iI 0,.A1,.A1,.A1,.A1] 0)])) c.AJ.length (.FG,[],[])
  ⟨.inl ⟨rfl,rfl,rfl⟩,rfl,by simp,o⟩ rfl ?_
 clear o
 rintro k ⟨X,p,A⟩ H hk ⟨hX,hA,hr,o⟩;dsimp only at hX hA hr o;refine tt ?_;apply bk <;> intro h1
 ·have AR:=A7 h1;refine tt ?_;refine Ae o fun BQ H o=>tt ?_
  refine AD [1,2,3,4] (G:=Nat × List Int) (fun j g=>[(5,some (.buf g.1 g.2.length)),(6,some (.int .i64 (j : Int)))])
   (fun j g H=>g.2.length=j∧AA H0 H ((g.1,.cells 1 (g.2.map iI) 0)::(p++[(Ce,AF.cells 5 [iI c.AO,iL c.to,iL c.AJ,iL c.Av,X] 0),(ER,AF.cells 5 [iI 0,.A1,.A1,.A1,.A1] 0)]))) c.AJ.length (BQ,[]) ⟨rfl,o⟩ rfl ?_
  clear o
  rintro j ⟨BQ,row⟩ H hj ⟨Mc,o⟩;dsimp only at Mc o;refine tt ?_;apply bk <;> intro h2
  ·have Ah:=A7 h2
   have w:=ws j
   have hrj:=B3 j Ah;refine tt ?_;refine ⟨by omega,by omega, ?_⟩;refine Ad _ o rfl rfl (by simp only [AL]; omega) fun BQ H o=>?_;refine tw w ?_;exact A5 (BQ,_) Ah ⟨by simp [Mc],o⟩ rfl
  ·have Ah:=A9 h2;refine tt ?_;refine Al o rfl fun H o=>tt ?_;refine Af (o.get (Ce,AF.cells 5 [iI c.AO,iL c.to,iL c.AJ,iL c.Av,X] 0) (by simp)) (by simp) (tt ?_);refine (hX.o o).app row rfl (by simp only [AL]; omega) fun CT H o=>tt ?_;refine sw o.swap fun H o=>?_
   have w:=ws k;refine tw w ?_
   exact A5 (_,[(CT,.cells 1 ((A++[row]).map iL) 0)],A++[row]) AR ⟨.inr ⟨CT,rfl,rfl⟩,by simp [hA],by
    intro r XV
    rcases List.mem_append.mp XV with h | h
    ·exact hr r h
    ·rw [List.mem_singleton] at h; subst h; omega,o.swap⟩ rfl
 ·have AR:=A9 h1;refine tt ?_;refine yV 4 hX o rfl fun H o=>AY ?_;have o:=s1 o;refine tt ?_;refine Ac o (by simp) (tt ?_);refine sw o.swap fun H o=>tt ?_
  have BV:=o.rc 5 0 (by simp);simp only [List.drop_zero] at BV;rw [BV];refine tt ?_
  exact Bj ⟨⟨c.AO,c.to,c.AJ,c.Av,A⟩,rfl,F3,hc.il,by show c.to.length≤N; omega,by show c.AJ.length=c.to.length; omega,by show A.length=c.to.length; omega,fun f hf=>by
   show (A.getD f default).length=c.to.length
   rw [hr _ (AE.mpr ⟨f,by have : f<c.to.length:=hf; omega,rfl⟩)]; omega⟩ o.sub
theorem DR (B : Nat) (R : List (List Int)) (hR : oi 4 R) : Jq B 210 [BA R] (QN 16):=by
 intro H0;refine yO.go fun hf=>?_
 obtain ⟨hR4,B3⟩:=hR;refine tt ?_;refine Ai (.nil _) fun ER H o=>tt ?_;refine Ae o fun Kq H o=>tt ?_;refine Ae o fun a H o=>tt ?_;refine Ae o fun b H o=>tt ?_;refine Ae o fun i H o=>tt ?_;refine Ae o fun d H o=>tt ?_;refine Ai o fun CP H o=>tt ?_;refine sw o fun H o=>tt ?_
 generalize hn : R.length=n at *
 refine AD [0,2,3,5] (G:=(Nat × List Int) × (Nat × List Int) × (Nat × List (List Int))) (fun k g=>[(4,some (.buf g.2.2.1 g.2.2.2.length)),(6,some (.int .i64 (k : Int)))])
  (fun k g H=>g.2.1.2.length=g.1.2.length∧g.1.2.length≤k*n∧(∀ y,y∈g.1.2→0≤y∧y<n)∧(∀ y,y∈g.2.1.2→0≤y∧y<n)∧g.2.2.2.length=k∧(∀ r,r∈g.2.2.2→r.length=n) ∧
   AA H0 H [(CP,AF.cells 5 [iI n,.buf g.1.1 g.1.2.length,.buf g.2.1.1 g.2.1.2.length,.buf i 0,.buf d 0] 0),(g.1.1,AF.cells 1 (g.1.2.map iI) 0),(g.2.1.1,AF.cells 1 (g.2.1.2.map iI) 0),(g.2.2.1,AF.cells 1 (g.2.2.2.map iL) 0),
    (i,AF.cells 1 [] 0),(d,AF.cells 1 [] 0),(ER,AF.cells 5 [iI 0,.A1,.A1,.A1,.A1] 0)]) n ((a,[]),(b,[]),(Kq,[]))
  ⟨rfl,by simp,by simp,by simp,rfl,by simp,o.pm⟩ rfl ?_
 clear o
 rintro k ⟨⟨a,A⟩,⟨b,C⟩,⟨Kq,rows⟩⟩ H hk ⟨hC,hA,Mi,aJ,Mc,jA,o⟩;dsimp only at hC hA Mi aJ Mc jA
 replace o : AA H0 H [(CP,AF.cells 5 [iI n,.buf a A.length,.buf b C.length,.buf i 0,.buf d 0] 0),(a,AF.cells 1 (A.map iI) 0),(b,AF.cells 1 (C.map iI) 0),(Kq,AF.cells 1 (rows.map iL) 0),
    (i,AF.cells 1 [] 0),(d,AF.cells 1 [] 0),(ER,AF.cells 5 [iI 0,.A1,.A1,.A1,.A1] 0)]:=o
 refine tt ?_;apply bk <;> intro h1
 ·have AR:=A7 h1;refine tt ?_;refine Ae o fun BQ H o=>tt ?_
  have sS : k*n+n≤16:=by
   have : (k+1)*n≤4*4:=Nat.mul_le_mul (by omega) (by omega);rw [Nat.succ_mul] at this; omega
  refine AD [0,2,3,4,5,6] (G:=(Nat × List Int) × (Nat × List Int) × (Nat × List Int)) (fun j g=>[(7,some (.buf g.1.1 g.1.2.length)),(8,some (.int .i64 (j : Int)))])
   (fun j g H=>g.1.2.length=j∧g.2.2.2.length=g.2.1.2.length∧g.2.1.2.length≤k*n+j∧(∀ y,y∈g.2.1.2→0≤y∧y<n)∧(∀ y,y∈g.2.2.2→0≤y∧y<n) ∧
    AA H0 H [(g.1.1,AF.cells 1 (g.1.2.map iI) 0),(CP,AF.cells 5 [iI n,.buf g.2.1.1 g.2.1.2.length,.buf g.2.2.1 g.2.2.2.length,.buf i 0,.buf d 0] 0),(g.2.1.1,AF.cells 1 (g.2.1.2.map iI) 0),(g.2.2.1,AF.cells 1 (g.2.2.2.map iI) 0),(Kq,AF.cells 1 (rows.map iL) 0),
    (i,AF.cells 1 [] 0),(d,AF.cells 1 [] 0),(ER,AF.cells 5 [iI 0,.A1,.A1,.A1,.A1] 0)]) n ((BQ,[]),(a,A),(b,C))
   ⟨rfl,hC,by omega,Mi,aJ,o⟩ rfl ?_
  clear o hA Mi aJ hC
  rintro j ⟨⟨BQ,row⟩,⟨a,A⟩,⟨b,C⟩⟩ H hj ⟨Rg,hC,hA,Mi,aJ,o⟩
  replace Rg : row.length=j:=Rg;dsimp only at hC hA Mi aJ
  replace o : AA H0 H [(BQ,AF.cells 1 (row.map iI) 0),(CP,AF.cells 5 [iI n,.buf a A.length,.buf b C.length,.buf i 0,.buf d 0] 0),(a,AF.cells 1 (A.map iI) 0),(b,AF.cells 1 (C.map iI) 0),(Kq,AF.cells 1 (rows.map iL) 0),
    (i,AF.cells 1 [] 0),(d,AF.cells 1 [] 0),(ER,AF.cells 5 [iI 0,.A1,.A1,.A1,.A1] 0)]:=o
  refine tt ?_;apply bk <;> intro h2
  ·have Ah:=A7 h2
   have w:=ws j;refine tt ?_;refine AK o.tl (by simp) (tt ?_);refine Ad _ o rfl rfl (by simp only [AL]; omega) fun BQ H o=>?_
   have hR1:=B3 k (by omega);refine tt ?_;refine ⟨by omega,by omega, ?_⟩;apply bk <;> intro h3
   ·refine tt ?_;refine AK o.tl (by simp) (tt ?_);refine Ad _ (o.pull [_,_]) rfl rfl (by simp only [AL]; omega) fun a H o=>tt ?_;refine sw (o.pull [_,_]) fun H o=>tt ?_;refine AK o (by simp) (tt ?_);refine Ad _ (o.pull [_,_,_]) rfl rfl (by simp only [AL]; omega) fun b H o=>tt ?_;refine sw o.swap fun H o=>?_;refine tw w ?_;refine A5 ((BQ,_),(a,A++[(k : Int)]),(b,C++[(j : Int)])) Ah ⟨by simp [Rg],by simp [hC],by simp; omega, ?_, ?_,o.pm⟩ rfl
    ·intro y hy
     rcases List.mem_append.mp hy with h | h
     ·exact Mi y h
     ·rw [List.mem_singleton] at h; subst h; omega
    ·intro y hy
     rcases List.mem_append.mp hy with h | h
     ·exact aJ y h
     ·rw [List.mem_singleton] at h; subst h; omega
   ·refine tw w ?_;exact A5 ((BQ,_),(a,A),(b,C)) Ah ⟨by simp [Rg],hC,by show A.length≤_; omega,Mi,aJ,o⟩ rfl
  ·have Ah:=A9 h2;refine tt ?_;refine Al o rfl fun H o=>tt ?_;refine Ad row (o.pull [_,_,_]) rfl rfl (by simp only [AL]; omega) fun Kq H o=>?_
   have w:=ws k;refine tw w ?_;refine A5 ((a,A),(b,C),(Kq,rows++[row])) AR ⟨hC,by show A.length≤_; rw [Nat.succ_mul]; omega,Mi,aJ,by simp [Mc], ?_,o.pm⟩ rfl
   intro r hr
   rcases List.mem_append.mp hr with h | h
   ·exact jA r h
   ·rw [List.mem_singleton] at h; subst h; omega
 ·have AR:=A9 h1
  have sS : k=n:=by omega
  subst sS
  have hA16 : A.length≤16:=Nat.le_trans hA (Nat.mul_le_mul hR4 hR4);refine tt ?_;refine Al (o.pull [_,_,_]) rfl fun H o=>tt ?_
  refine AD [2,3,4,5] (G:=(Nat × List Int)) (fun j g=>[(9,some (.int .i64 (j : Int)))])
   (fun j g H=>g.2.length=j∧AA H0 H [(CP,AF.cells 5 [iI k,.buf a A.length,.buf b C.length,.buf g.1 g.2.length,.buf d 0] 0),(g.1,AF.cells 1 (g.2.map iI) 0),(a,AF.cells 1 (A.map iI) 0),(b,AF.cells 1 (C.map iI) 0),
    (d,AF.cells 1 [] 0),(ER,AF.cells 5 [iI 0,.A1,.A1,.A1,.A1] 0)]) k (i,[]) ⟨rfl,o.pm⟩ rfl ?_
  clear o
  rintro j ⟨i,I⟩ H hj ⟨hI,o⟩;dsimp only at hI
  replace o : AA H0 H [(CP,AF.cells 5 [iI k,.buf a A.length,.buf b C.length,.buf i I.length,.buf d 0] 0),(i,AF.cells 1 (I.map iI) 0),(a,AF.cells 1 (A.map iI) 0),(b,AF.cells 1 (C.map iI) 0),
    (d,AF.cells 1 [] 0),(ER,AF.cells 5 [iI 0,.A1,.A1,.A1,.A1] 0)]:=o
  refine tt ?_;apply bk <;> intro h2
  ·have Ah:=A7 h2
   have w:=ws j
   have hrj:=jA (rows.getD j default) (AE.mpr ⟨j,by omega,rfl⟩);refine tt ?_;refine AK o (by simp) (tt ?_);refine ⟨by omega,by omega,tt ?_⟩;refine Ad _ o.swap rfl rfl (by simp only [AL]; omega) fun i H o=>tt ?_;refine sw o.swap fun H o=>?_;refine tw w ?_;exact A5 (i,_) Ah ⟨by simp [hI],o⟩ rfl
  ·have Ah:=A9 h2
   have hIk : I.length=k:=by omega
   refine tt ?_;refine B5 3 o rfl rfl fun H o=>?_;have o:=s1 o;refine B5 1 o rfl rfl fun H o=>?_;have o:=s1 o;refine B5 2 o rfl rfl fun H o=>AY ?_;have o:=s1 o;clear h2 Ah hj hI;refine tt ?_
   refine AD [2,4,5] (G:=(Nat × List (List Int))) (fun j g=>[(10,some (.int .i64 (j : Int)))])
    (fun j g H=>g.2.length=j∧(∀ r,r∈g.2→r.length=A.length)∧AA H0 H [(CP,AF.cells 5 [iI k,iL A,iL C,iL I,.buf g.1 g.2.length] 0),(g.1,AF.cells 1 (g.2.map iL) 0),(ER,AF.cells 5 [iI 0,.A1,.A1,.A1,.A1] 0)]) A.length (d,[]) ⟨rfl,by simp,o⟩ rfl ?_
   clear o
   rintro f ⟨d,D⟩ H tz ⟨hD,VY,o⟩;dsimp only at hD VY o;refine tt ?_;refine AK o (by simp) (tt ?_);apply bk <;> intro h2
   ·have Ah:=A7 h2;refine tt ?_;refine Ae o fun BQ H o=>tt ?_
    refine AD [2,4,5,10] (G:=Nat × List Int) (fun g r=>[(11,some (.buf r.1 r.2.length)),(12,some (.int .i64 (g : Int)))])
     (fun g r H=>r.2.length=g∧AA H0 H [(r.1,AF.cells 1 (r.2.map iI) 0),(CP,AF.cells 5 [iI k,iL A,iL C,iL I,.buf d D.length] 0),(d,AF.cells 1 (D.map iL) 0),(ER,AF.cells 5 [iI 0,.A1,.A1,.A1,.A1] 0)]) A.length (BQ,[]) ⟨rfl,o⟩ rfl ?_
    clear o
    rintro g ⟨BQ,row⟩ H hg ⟨mI,o⟩
    replace mI : row.length=g:=mI;dsimp only at o;refine tt ?_;refine AK o.tl (by simp) (tt ?_);apply bk <;> intro h3
    ·have B8:=A7 h3
     have w:=ws g;refine tt ?_;refine AK o.tl (by simp) (tt ?_);refine ⟨by omega, ?_⟩;refine AK o.tl (by simp) (tt ?_);refine ⟨by omega,tt ?_⟩
     have hAf:=Mi (A.getD f default) (AE.mpr ⟨f,Ah,rfl⟩)
     have hCg:=aJ (C.getD g default) (AE.mpr ⟨g,by omega,rfl⟩)
     have jF:=jA (ix rows (A.getD f default)) (Bh (by omega));apply bk <;> intro h4
     ·refine tt ?_;refine AK o.tl (by simp) (tt ?_);refine ⟨Ah,⟨by omega,by omega⟩, ?_⟩;refine AK o.tl (by simp) (tt ?_);refine ⟨by omega,⟨by omega,by omega⟩, ?_⟩;refine Ad _ o rfl rfl (by simp only [AL]; omega) fun BQ H o=>?_;refine tw w ?_;exact A5 (BQ,_) B8 ⟨by simp [mI],o⟩ rfl
     ·refine tt ?_;refine Ad _ o rfl rfl (by simp only [AL]; omega) fun BQ H o=>?_;refine tw w ?_;exact A5 (BQ,_) B8 ⟨by simp [mI],o⟩ rfl
    ·have B8:=A9 h3
     have w:=ws f;refine tt ?_;refine Al o rfl fun H o=>tt ?_;refine AK o (by simp) (tt ?_);refine Ad row o.swap rfl rfl (by simp only [AL]; omega) fun d H o=>tt ?_;refine sw o.swap fun H o=>?_;refine tw w ?_;refine A5 (d,D++[row]) Ah ⟨by simp [hD], ?_,o⟩ rfl
     intro r hr
     rcases List.mem_append.mp hr with h | h
     ·exact VY r h
     ·rw [List.mem_singleton] at h; subst h; omega
   ·have Ah:=A9 h2;refine tt ?_;refine B5 4 o rfl rfl fun H o=>AY ?_;have o:=s1 o;refine tt ?_;refine Ac o (by simp) (tt ?_);refine sw o.swap fun H o=>tt ?_
    have BV:=o.rc 5 0 (by simp);simp only [List.drop_zero] at BV;rw [BV];refine tt ?_
    have n4 : D.length=A.length:=by omega
    refine Bj ⟨⟨k,A,C,I,D⟩,rfl,⟨by show (0 : Int)≤(k : Int); omega,by show (k : Int)≤((16 : Nat) : Int); omega⟩,by show (I.length : Int)=k; omega,hA16,hC,n4,fun x hx=>?_⟩ o.sub;exact VY _ (AE.mpr ⟨x,by rw [n4]; exact hx,rfl⟩)
end Go.Proofs.Shf
namespace Go.AW
theorem Et.inner {α : Type} {f : α→AV} : ∀ (ms : List (Nat × List α)),Et f (ms.map CM) (ms.map Prod.snd) (inner f ms)
 | []=>.nil
 | m::ms=>Et.cons (p:=[(m.1,.cells 1 (m.2.map f) 0)]) (.inr ⟨m.1,rfl,rfl⟩) (Et.inner ms)
theorem BG {α : Type} [Inhabited α] {f : α→AV} [One f] {H0 H : AB} {l : Ob} {K : Am} {id fr n : Nat} {out : List α} (a : α) {v : AV} (h : AA H0 H ((id,.cells 1 (out.map f) fr)::l)) (hv : v=f a) (hn : n=out.length) (hm : out.length+1≤AL)
  (hk : ∀ CT H' A,A=out++[a]→A.length=out.length+1→AA H0 H' ((CT,.cells 1 (A.map f) fr)::l)→K (.buf CT A.length) H') : DW 1 (some (.buf id n)) (some (.sl [v])) K H :=
 Ad a h hv hn hm fun CT H' o=>hk CT H' _ rfl (by simp) o
end Go.AW
namespace Go.Proofs.Shf
open Go.AW Go.Proofs Go.Shf
theorem Mr (B : Nat) (T : List (List Int)) (H0 H : AB) (l : Ob) (o : AA H0 H l) :
  CB B 183 [BA T] H (fun r H'=>∃ d Xs ob,r=.buf d Xs.length∧Et iI Xs T ob∧AA H0 H' ((d,.cells 1 Xs 0)::(ob++l))):=by
 refine gw.go fun ⟨hf,_⟩=>?_
 have hl:=AM hf;simp only [AL] at hl;refine tt ?_;refine Ae o fun d H o=>tt ?_
 refine AD [0] (G:=Nat × List (Nat × List Int)) (fun k g=>[(3,some (.buf g.1 g.2.length)),(4,some (.int .i64 (k : Int)))])
  (fun k g H=>g.2.map Prod.snd=T.take k∧AA H0 H ((g.1,AF.cells 1 (g.2.map CM) 0)::(inner iI g.2++l))) T.length (d,[]) ⟨by simp,o⟩ rfl ?_
 clear o
 rintro k ⟨d,ms⟩ H hk ⟨Jm,o⟩;dsimp only at Jm o
 have E6 : ms.length=k:=by
  have:=congrArg List.length Jm
  simpa [Nat.min_eq_left hk] using this
 refine tt ?_;apply bk <;> intro h1
 ·have AR:=A7 h1
  have w:=ws k;refine tt ?_;refine ⟨AR, ?_⟩;refine (I7 B (T.getD k default) H0 H _ o).own fun id A H o hA=>?_;subst hA;refine tt ?_;refine Ad (f:=CM) (id,T.getD k default) o.swap rfl rfl (by simp only [AL]; omega) fun d H o=>?_;refine tw w ?_;refine A5 (d,ms++[(id,T.getD k default)]) AR ⟨by rw [List.map_append,Jm,Co T AR]; rfl, ?_⟩ rfl;refine o.perm (.cons _ ?_);simp only [inner,List.map_append,List.map_cons,List.map_nil,List.append_assoc,List.cons_append,List.nil_append];exact List.perm_middle.symm
 ·have AR:=A9 h1
  obtain rfl : k=T.length:=by omega
  rw [List.take_length] at Jm;refine tt ?_;refine ⟨H,.refl H,d,ms.map CM,inner iI ms,by simp, ?_,o⟩;rw [← Jm]; exact Et.inner ms
theorem Gk.go' {P : Program} {B : Nat} {fn : FuncId} {args : List AV} {O : Ob→AV→Prop} {H0 H : AB} {l : Ob} {K : Am} (h : Gk P B fn args O) (o : AA H0 H l) (hk : ∀ r p H',O p r→AA H0 H' (p++l)→H.sub H'→K r H') : B7 P B fn args H K :=
 (h.run H).mono fun r H' ⟨p,q1,q2⟩=>hk r p H' q1 (o.trans q2) q2.sub
def OLb (l : List Int) (p : Ob) (X : AV) : Prop:=∃ id,X=.buf id l.length∧p=[(id,.cells 1 (l.map iI) 0)]
theorem FE (B : Nat) (l : List Int) : Gk Tryz.prog B 84 [iL l] (OLb l) :=
 ⟨fun H=>(I7 B l H H [] (.nil H)).mono fun r H' ⟨id,A,e,o,q⟩=>by
  subst e q;exact ⟨_,⟨id,rfl,rfl⟩,o⟩⟩
def yu (T : List (List Int)) (p : Ob) (X : AV) : Prop:=∃ d Xs ob,X=.buf d Xs.length∧Et iI Xs T ob∧p=(d,.cells 1 Xs 0)::ob
theorem JF (B : Nat) (T : List (List Int)) : Gk Tryz.prog B 183 [BA T] (yu T) :=
 ⟨fun H=>(Mr B T H H [] (.nil H)).mono fun r H' ⟨d,Xs,ob,e,h,o⟩=>by
  rw [List.append_nil] at o;exact ⟨_,⟨d,Xs,ob,e,h,rfl⟩,o⟩⟩
def OCb (c : Ay) (p : Ob) (X : AV) : Prop:=∃ a b i d Xs ob,X=.agg [iI c.AO,.buf a c.AJ.length,.buf b c.to.length,.buf i c.Av.length,.buf d Xs.length]∧Et iI Xs c.comp ob ∧
 p=(a,.cells 1 (c.AJ.map iI) 0)::(b,.cells 1 (c.to.map iI) 0)::(i,.cells 1 (c.Av.map iI) 0)::(d,.cells 1 Xs 0)::ob
theorem PD (B : Nat) (c : Ay) : Gk Tryz.prog B 144 [.agg c.cells] (OCb c):=by
 refine ⟨fun H0=>wY.go fun _=>tt ?_⟩;refine Ai (.nil _) fun id H o=>tt ?_;refine Gk.go' (FE B c.AJ) o fun X1 p1 H ⟨a,e1,e2⟩ o hs=>⟨hs, ?_⟩;subst e1 e2;refine tt ?_;refine Gk.go' (FE B c.to) o fun X1 p1 H ⟨b,e1,e2⟩ o hs=>⟨hs, ?_⟩;subst e1 e2;refine tt ?_;refine Gk.go' (FE B c.Av) o fun X1 p1 H ⟨i,e1,e2⟩ o hs=>⟨hs, ?_⟩;subst e1 e2;refine tt ?_;refine Gk.go' (JF B c.comp) o fun X1 p1 H ⟨d,Xs,ob,e1,h,e2⟩ o hs=>⟨hs, ?_⟩;subst e1 e2;refine tt ?_
 have o : AA H0 H ((id,AF.cells 5 [iI 0,.A1,.A1,.A1,.A1] 0)::(a,AF.cells 1 (c.AJ.map iI) 0)::(b,AF.cells 1 (c.to.map iI) 0)::(i,AF.cells 1 (c.Av.map iI) 0)::(d,AF.cells 1 Xs 0)::ob):=o.pm;refine sw o fun H o=>tt ?_
 have hr:=o.rc 5 0 (by simp);simp only [List.drop_zero] at hr;rw [hr];exact ⟨H,.refl H,_,⟨a,b,i,d,Xs,ob,rfl,h,rfl⟩,o.tl⟩
end Go.Proofs.Shf
