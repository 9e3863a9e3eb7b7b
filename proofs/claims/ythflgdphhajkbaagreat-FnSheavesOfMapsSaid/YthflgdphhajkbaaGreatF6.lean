/- Contracts, part 6. -/
import Derived.Test.YthflgdphhajkbaaGreatF5
set_option linter.unusedVariables false
set_option linter.unusedSimpArgs false
set_option linter.unusedSectionVars false
open Nat (reduceEqDiff reduceAdd reduceMul reduceLeDiff reduceLT)
namespace Go.AW
theorem kT {P : Program} {B : Nat} {l : List Nat} {c : XC} {Q : AQ} {X0 : AA→Prop} {σ : Env} {H : AA} (lf : List Nat) {G : Type} (E : Nat→G→Env) (J : Nat→G→AA→Prop) (n : Nat) (g : G)
  (h0 : J 0 g H) (he : Env.BA l σ=E 0 g++Env.BA lf σ)
  (h : ∀ k g H,k≤n→J k g H→NI P B c (mY l (fun m σ' H=>∃ k g,k≤n∧m=n - k∧J k g H∧σ'=E k g++Env.BA lf σ) (n - k) Q) X0 (E k g++Env.BA lf σ) H) :
  NI P B (.loop l c) Q X0 σ H :=
 ⟨fun m σ' H=>∃ k g,k≤n∧m=n - k∧J k g H∧σ'=E k g++Env.BA lf σ,n,_,_,⟨0,g,by omega,rfl,h0,he⟩,.refl _ _,
  fun m σ H ⟨k,g,h1,h2,h3,h4⟩=>h2 ▸ h4 ▸ h k g H h1 h3⟩
end Go.AW
namespace Go.Proofs.Shf
open Go.AW Go.Proofs Go.Shf
theorem cB (B : Nat) (f : SF) (h : f.Shape) (v : NJ) (cnt : AV) (x s : Nat) (L : List (List Int)) (H : AA) (i9 i5 i7 : Nat) (h9 : H.get i9=some (.cells 1 [BD L] 0)) (h5 : H.get i5=some (.cells 1 [.int .i64 x] 0)) (h7 : H.get i7=some (.cells 1 [.int .i64 s] 0))
  (hx : x<f.A4.length) (rH : x<v.BM.length) (NA : s<(v.BM.getD x default).length) (EZ : f.shape.Ax x ((v.BM.getD x default).getD s default)) (hL : L.length≤1000) :
  GF Tryz.prog B 186 [.ref i9 0,.ptr [.ptr f.cells],.ref i5 0,.ptr [.ptr (v.cells cnt)],.ref i7 0] H (fun _ H'=>H.sub H'∧dec (∀ t,t∈L→EW f x ((v.BM.getD x default).getD s default) t)=true)
   (fun H'=>H.sub H'∧dec (∀ t,t∈L→EW f x ((v.BM.getD x default).getD s default) t)=false):=by
 have Pz:=h.al
 have Gd:=h.sl
 have hz:=h.Dk (y:=(x : Int)) ⟨by omega,by omega⟩
 have hgl:=fun t=>dU B f x ((v.BM.getD x default).getD s default) t ⟨by omega,by simpa using hx⟩ (by omega) (fun a ha=>by have:=EZ.arr ha; omega) (fun a ha=>by
  have hv:=EZ.arr ha
  have h1:=h.DN hv.1.2;rw [hv.2] at h1;exact h1)
 generalize hS : (v.BM.getD x default).getD s default=S at *;refine GF.cN (hs:=zB) (s:=c7) (rvs:=[]) Tryz.func186 rfl (by kernel_rfl) jP (by kernel_rfl) (by rw [Tryz.ntmps186]; simp) fun _=>?_;unfold c7;refine tw h9 ?_;refine kT [1,2,3,4,7,8] (G:=Unit) (fun k _=>[(9,some (.int .i64 (k : Int)))]) (fun k _ H'=>H'=H∧∀ i,i<k→EW f x S (L.getD i default)) L.length () ⟨rfl,by simp⟩ rfl ?_
 rintro k _ H' hk ⟨rfl,Aj⟩;refine tt ?_;apply bk <;> intro h1
 ·have AU:=dd h1
  have w:=ws k;try simp only [go_sem,↓reduceIte,reduceEqDiff,reduceAdd,reduceMul,reduceLeDiff,reduceLT,h9,h5,h7]
  refine ⟨AU,rH,NA, ?_⟩;rw [hS];refine (hgl (L.getD k default) H').mono ?_ ?_
  ·rintro r H ⟨⟨rfl,hu⟩,rfl⟩;refine tw w ?_;exact A5 () AU ⟨rfl,AG Aj hu⟩ rfl
  ·rintro H ⟨hu,rfl⟩;exact ⟨.refl _,Ab fun q=>hu (q _ (AE.mpr ⟨k,AU,rfl⟩))⟩
 ·refine tt ?_
  have AU:=dd h1;exact ⟨H',.refl _,.refl _,Ay (Db.mpr fun i hi=>Aj i (by omega))⟩
def P5 (f : SF) (v : NJ) (x s : Nat) : Prop:=(v.marks.getD x default).getD s default=true→Kv f x ((v.BM.getD x default).getD s default)
def fD (f : SF) (v : NJ) : Prop:=∀ x,x<v.marks.length→∀ s,s<(v.marks.getD x default).length→P5 f v x s
theorem Wd (B : Nat) (v : NJ) (cnt : AV) (f : SF) (h : f.Shape) (Dz : (v.marks.length : Int)=f.shape.AR) (Gd : v.BM.length=v.marks.length)
  (Jo : ∀ x,x<v.marks.length→(v.marks.getD x default).length≤(v.BM.getD x default).length∧(v.marks.getD x default).length≤1000000)
  (EZ : ∀ x,x<v.marks.length→∀ s,s<(v.BM.getD x default).length→f.shape.Ax x ((v.BM.getD x default).getD s default)) :
  PB B 104 [.ptr (v.cells cnt),.ptr f.cells] (.bool (dec (fD f v))):=by
 refine ⟨fun H0=>fi.go fun Gc=>?_⟩
 have Fh:=h.is.1.o
 have G7:=h.sl
 have iU:=cB B f h v cnt;refine tt ?_;refine AD [2,3,15,16] (G:=Unit) (fun k _=>[(17,some (.int .i64 (k : Int)))]) (fun k _ H=>H0.sub H∧∀ x,x<k→∀ s,s<(v.marks.getD x default).length→P5 f v x s) v.marks.length () ⟨.refl _,by simp⟩ rfl ?_
 rintro x _ H hk ⟨Cq,Aj⟩
 replace Cq : H0.sub H:=Cq
 have o : AB H0 H []:=⟨Cq,by simp,by simp,by simp⟩;refine tt ?_;apply bk <;> intro h1
 ·have AU:=dd h1
  have w:=ws x
  have fq:=Jo x AU;refine tt ?_;refine ⟨AU, ?_⟩;refine Am o fun CS H o=>tt ?_;refine sw o fun H o=>tt ?_;refine AD [2,3,5,15,16,17,22,23] (G:=Unit) (fun k _=>[(24,some (.int .i64 (k : Int)))]) (fun k _ H=>AB H0 H [(CS,.cells 1 [.int .i64 (x : Int)] 0)]∧∀ s,s<k→P5 f v x s) (v.marks.getD x default).length () ⟨o,by simp⟩ rfl ?_;clear o
  rintro s _ H IM ⟨o,E7⟩
  replace o : AB H0 H [(CS,.cells 1 [.int .i64 (x : Int)] 0)]:=o;refine tt ?_;apply bk <;> intro h2
  ·have Ah:=dd h2
   have w2:=ws s;refine tt ?_;refine ⟨Ah, ?_⟩;refine Am o fun Cv H o=>tt ?_;refine sw o fun H o=>tt ?_;apply bk <;> intro h3
   ·refine tw w2 ?_
    have BB : (v.marks.getD x default).getD s default=false:=by simpa using h3
    exact A5 () (by omega) ⟨o.tl,AG E7 fun e=>by rw [BB] at e; cases e⟩ rfl
   ·have BB : (v.marks.getD x default).getD s default=true:=by simpa using h3
    have hS:=EZ x AU s (by omega)
    have hq:=fun L hL H i9 h9 h5 h7=>iU x s L H i9 CS Cv h9 h5 h7 (by omega) (by omega) (by omega) hS hL;refine tt ?_;refine Al o.tl.h0 (by simp) (tt ?_);refine ⟨by omega, ?_⟩;refine Al o.h0 (by simp) (tt ?_);refine ⟨by omega,_,(Ml B f h x ((v.BM.getD x default).getD s default) hS 16 (by omega)).run, ?_⟩
    generalize ua : BQ f ((v.BM.getD x default).getD s default)=Fa at *;refine tt ?_;refine Am o fun HC H o=>tt ?_;refine sw o fun H o=>tt ?_
    by_cases DC : Fa.length≤16
    ·have vS : Fa.take 17=Fa:=List.take_of_length_le (by omega);rw [vS] at o;rw [decide_eq_true DC];refine tt ?_;refine dH (b:=dec (∀ t,t∈Fa→EW f x ((v.BM.getD x default).getD s default) t)) (fun H1 XJ=>?_) ?_
     ·exact hq Fa (by omega) H1 HC (XJ _ _ o.h0) (XJ _ _ o.tl.tl.h0) (XJ _ _ o.tl.h0)
     by_cases hu : ∀ t,t∈Fa→EW f x ((v.BM.getD x default).getD s default) t
     ·rw [Ay hu];try simp only [go_sem,↓reduceIte,reduceEqDiff,reduceAdd,reduceMul,reduceLeDiff,reduceLT,Bool.not_true,w2]
      refine A5 () (by omega) ⟨o.tl.tl,AG E7 fun _=>⟨by rw [ua]; exact DC,by rw [ua]; exact hu⟩⟩ rfl
     ·rw [Ab hu];refine tn ?_
      exact A6 (by rw [Ab]; exact fun q=>hu (by have:=(q x AU s (by omega) BB).2; rw [ua] at this; exact this)) o.sub
    ·rw [decide_eq_false DC];refine tn ?_
     exact A6 (by rw [Ab]; exact fun q=>DC (by have:=(q x AU s (by omega) BB).1; rw [ua] at this; exact this)) o.sub
  ·refine tw w ?_
   have Ah:=dd h2;exact A5 () (by omega) ⟨o.sub,AG Aj fun s hs=>E7 s (by omega)⟩ rfl
 ·refine tt ?_
  have AU:=dd h1;exact A6 (by rw [Ay]; exact fun x hx=>Aj x (by omega)) Cq
theorem VY (B : Nat) (j : Df) (f : SF) (cnt : AV) (h0 : codeF j f=0) : PB B 104 [.ptr ((BU j).cells cnt),.ptr f.cells] (.bool (dec (Bw f (Ag j.shape j.AP)))):=by
 obtain ⟨hF,hf,Fz,Ee⟩:=Jj h0
 have Py : Be j.shape:=by
  unfold DF at Fz;rw [if_neg (fun e=>e hF)] at Fz;apply Classical.byContradiction; intro e;rw [if_pos e] at Fz; cases Fz
 have Gl : Fl j.shape j.AP:=by
  unfold DF at Fz;rw [if_neg (fun e=>e hF),if_neg (fun e=>e Py)] at Fz;apply Classical.byContradiction; intro e;rw [if_neg e] at Fz; cases Fz
 have tab:=HT hF.is Py
 have Dz : (BU j).marks.length=(AM j.shape).length:=E2
 have KF : DV (AM j.shape) (BU j).marks:=GW
 have EZ : (BU j).BM=AM j.shape:=rfl
 have l9 : (AM j.shape).length=j.AP.length:=by have:=tab.len; have:=hF.len; omega
 have IK : ∀ x : Nat,x<j.AP.length→∀ s,s∈j.AP.getD x default→j.shape.Ax x s:=fun x hx s hs=>by
  obtain ⟨k,hk,rfl⟩:=AE.mp hs;exact hF.sv x hx k hk
 have HJ:=Wd B (BU j) cnt f hf.1 (by rw [Dz,← Ee]; exact tab.len) Dz.symm (fun x hx=>by
  have IZ : x<(AM j.shape).length:=by rw [← Dz]; exact hx
  have h1:=KF.row x IZ
  have h2:=tab.YH x IZ;rw [h1,EZ];exact ⟨Nat.le_refl _,by omega⟩) (fun x hx s hs=>by
  rw [EZ] at hs ⊢;rw [← Ee];exact tab.sv (by rw [← Dz]; exact hx) hs)
 have key : fD f (BU j)↔Bw f (Ag j.shape j.AP):=by
  have e:=Ze hf.1 hf.FR (C:=j.AP) (by rw [← Ee]; exact hF.len) (by rw [← Ee]; exact IK) (by rw [← Ee]; exact Gl);rw [← Ee] at e;rw [← e]
  constructor
  ·intro q x hx s hs
   have IZ : x<(AM j.shape).length:=by omega
   obtain ⟨k,hk,rfl⟩:=AE.mp (((tab.all x IZ).mem s).mpr (IK x hx s hs))
   have B4:=KF.row x IZ;refine q x (by omega) k (by rw [B4]; exact hk) ?_
   show ((marksOf (AM j.shape) j.AP).getD x default).getD k default=true
   rw [Et IZ hk,decide_eq_true_eq];exact hs
  ·intro q x hx s hs hm
   have IZ : x<(AM j.shape).length:=by omega
   have Hf : s<((AM j.shape).getD x default).length:=by rw [← KF.row x IZ]; exact hs
   have vM : ((marksOf (AM j.shape) j.AP).getD x default).getD s default=true:=hm;rw [Et IZ Hf,decide_eq_true_eq] at vM;exact q x (by omega) _ vM
 rw [Bc key] at HJ;exact HJ
end Go.Proofs.Shf
namespace Go.Shf
open Go.AW
section
variable {f : SF} {V : List (List Int)}
theorem Xv (h : f.Shape) {x : Int} (hx : 0≤x∧x<f.shape.AR) : ix (BR f V) x=(List.range (ix f.A4 x).toNat).map fun e : Nat=>indexOf (BQ f (ix V x)) (Bl f (ix V x) e):=by
 have hl:=h.sl;rw [ix,BR,AS _ _ (by omega),Dl,Int.toNat_of_nonneg hx.1,List.map_map]; rfl
theorem NW (h : f.Shape) {x e : Int} (hx : 0≤x∧x<f.shape.AR) (he : 0≤e∧e<ix f.A4 x) : ix (ix (BR f V) x) e=indexOf (BQ f (ix V x)) (Bl f (ix V x) e):=by
 rw [Xv h hx,ix,AS _ _ (by omega),Int.toNat_of_nonneg he.1]
theorem PH (h : f.Shape) (hc : f.DE) (v : BT f.shape V) {x e : Int} (hx : 0≤x∧x<f.shape.AR) (he : 0≤e∧e<ix f.A4 x) :
  (0≤ix (ix (BR f V) x) e∧ix (ix (BR f V) x) e<ix (B5 f V) x)∧ix (BQ f (ix V x)) (ix (ix (BR f V) x) e)=Bl f (ix V x) e:=by
 have:=Xl h v hx (JB h hc (v.at hx) he);rw [NW h hx he,BI v hx];exact ⟨⟨this.1.1,by omega⟩,this.2⟩
theorem Ct (h : f.Shape) (hc : f.DE) (v : BT f.shape V) : Cz f (AO f V) (BR f V):=by
 have hl:=h.sl;refine ⟨by simp [BR]; exact hl,fun x hx=>⟨?_,fun e he=>(PH h hc v hx he).1⟩,fun b hb e he=>?_⟩
 ·have:=h.Dk hx;rw [Xv h hx,List.length_map,List.length_range]; omega
 have IL:=h.is.1.Cl hb.2
 have Cu:=h.is.1.C7 hb.2
 have hr:=SE h hb rfl he
 have u1:=PH h hc v IL he
 have D3:=BI v IL
 show _=ix (ix (BK f V) b) _
 rw [NW h Cu hr,(DK h v hb (k:=ix (ix (BR f V) (ix f.shape.AH b)) e) (by omega)).1,u1.2]
 congr 1
 refine Er (v.at Cu).nodup (by simp [Bl]) (by simp [Bd]) fun d hd=>?_
 have YF:=(v.at Cu).arr hd;rw [D6 hd,C1 hd,D6 (v.st b hb d hd),hc b d hb YF.1 YF.2.symm _ (Xj h hb rfl he)]
theorem Xr {p q : List (List Int)} {x e : Int} (hx : 0≤x∧x.toNat<p.length) (he : 0≤e∧e.toNat<(ix p x).length) : ix (ix (thenS p q) x) e=ix (ix q x) (ix (ix p x) e):=by
 have iZ : e.toNat<(p.getD x.toNat default).length:=he.2;rw [ix,ix,thenS,AS _ _ hx.2,B8 _ iZ]; rfl
theorem Cz.then {g k : SF} {p q : List (List Int)} (m : Cz f g p) (n : Cz g k q) (e : f.shape=g.shape) (hf : f.Shape) : Cz f k (thenS p q):=by
 have hl:=m.len
 have hln : ∀ x : Int,0≤x∧x<f.shape.AR→(ix (thenS p q) x).length=(ix p x).length:=fun x hx=>by rw [ix,thenS,AS _ _ (by omega),List.length_map]; rfl
 have II : ∀ x : Int,0≤x∧x<f.shape.AR→∀ y : Int,0≤y∧y<ix f.A4 x→ix (ix (thenS p q) x) y=ix (ix q x) (ix (ix p x) y):=fun x hx y hy=>Xr (by omega) (by have:=(m.pl x hx).1; omega);refine ⟨by simp [thenS]; exact hl,fun x hx=>⟨by rw [hln x hx]; exact (m.pl x hx).1,fun y hy=>?_⟩,fun b hb y hy=>?_⟩
 ·rw [II x hx y hy];exact (n.pl x (by rw [← e]; exact hx)).2 _ ((m.pl x hx).2 y hy)
 ·have IL:=hf.is.1.Cl hb.2
  have Cu:=hf.is.1.C7 hb.2
  have hr:=SE hf hb rfl hy;rw [II _ Cu _ hr,II _ IL _ hy,m.nl b hb y hy]
  have:=n.nl b (by rw [← e]; exact hb) (ix (ix p (ix f.shape.AH b)) y) (by rw [← e]; exact (m.pl _ IL).2 y hy);rw [← e] at this;exact this
variable (h : f.Shape) (hc : f.DE) (v : BT f.shape V) (hi : O1 f.shape V) (hf : CG f V)
include h hc v hi hf
end
end Go.Shf
namespace Go.Proofs.Shf
open Go.AW Go.Proofs Go.Shf
end Go.Proofs.Shf
namespace Go.AW
open Go.Proofs Go.Shf Go.Proofs.Shf
theorem pU.zL {P : Program} {B : Nat} {f : FuncId} {args : List AV} {r r' : AV} (h : pU P B f args r) (hw : ∀ g v,Ad g r v→Ad g r' v) : pU P B f args r':=by
 refine ⟨fun H=>⟨(h.run H).1,fun g w vs hW hv=>?_⟩⟩;refine ((h.run H).2 g w vs hW hv).mono fun e w' ⟨v,he,g',r2,H',q1,⟨q2,q3⟩,q4,q5,q6⟩=>?_;subst q2 q3;exact ⟨v,he,g',r',H',q1,⟨rfl,rfl⟩,hw _ _ q4,q5,q6⟩
end Go.AW
namespace Go.Proofs.Shf
open Go.AW Go.Proofs Go.Shf
def Xu (a b : AV) : Prop:=∀ g v,Ad g a v→Ad g b v
theorem Xu.refl (a : AV) : Xu a a:=fun _ _ h=>h
theorem Xu.nil : Xu .A1 (.sl []):=fun g v h=>by cases h; exact .slnil none 0
inductive jQ : List AV→List AV→Prop
 | nil : jQ [] []
 | cons {a b : AV} {r s : List AV} (h : Xu a b) (t : jQ r s) : jQ (a::r) (b::s)
theorem jQ.get {r s : List AV} (h : jQ r s) : r.length=s.length∧∀ i,i<r.length→Xu (r.getD i nv) (s.getD i nv):=by
 induction h with
 | nil=>exact ⟨rfl,fun i hi=>by simp at hi⟩
 | cons h _ ih =>
  refine ⟨by simp [ih.1],fun i hi=>?_⟩
  cases i with
  | zero=>simpa using h
  | succ i=>simpa using ih.2 i (by simpa using hi)
theorem Xu.agg {r s : List AV} (h : jQ r s) : Xu (.agg r) (.agg s):=fun g v hv=>by
 obtain ⟨hl,h⟩:=h.get
 cases hv with
 | agg _ vs hs hv=>exact .agg s vs (by omega) fun i hi=>h i (by omega) g _ (hv i (by omega))
theorem Xu.CK {r s : List AV} (h : jQ r s) : Xu (.CK r) (.CK s):=fun g v hv=>by
 obtain ⟨hl,h⟩:=h.get
 cases hv with
 | CK _ vs hs hv=>exact .CK s vs (by omega) fun i hi=>h i (by omega) g _ (hv i (by omega))
theorem xR : jQ [.int .i64 0,.A1,.A1,.A1,.A1,.A1,.A1,.int .i64 0,.A1,.A1,.A1,.A1,.A1,.A1,.A1] (SM.cells iO) :=
 .cons (.refl _) (.cons .nil (.cons .nil (.cons .nil (.cons .nil (.cons .nil (.cons .nil (.cons (.refl _) (.cons .nil (.cons .nil (.cons .nil (.cons .nil (.cons .nil (.cons .nil (.cons .nil .nil))))))))))))))
theorem Xu.code {r s : List AV} {c : AV} (h : jQ r s) : Xu (.CK [.agg r,c]) (.CK [.agg s,c]):=.CK (.cons (.agg h) (.cons (.refl _) .nil))
theorem Mj (B : Nat) (j : Df) (f : SF) : PB B 38 [.agg j.cells,.agg f.cells] (.CK [.agg (SM.cells (KY j f)),.int .i64 (Cj j f)]):=by
 refine (S2 B j f).zL fun g v hv=>?_
 by_cases h : codeF j f=0∧CG f (Ag j.shape j.AP)
 ·rw [Wu,if_pos h] at hv;rw [KY,if_pos h]; exact hv
 ·rw [Wu,if_neg h] at hv;rw [KY,if_neg h]; exact Xu.code xR g v hv
theorem IU (B : Nat) (j : Df) (f : SF) : PB B 37 [.agg j.cells,.agg f.cells] (.CK [.agg (SM.cells (KY j f)),.int .i64 (Cj j f)]):=IX.xw (f:=fun m : SM=>.CK [.agg m.cells,.int .i64 (Cj j f)]) (oL.qD _) (LQ B j f)
end Go.Proofs.Shf
namespace Go.Shf
open Go.AW
end Go.Shf
namespace Go.Proofs.Shf
open Go.AW Go.Proofs Go.Shf
end Go.Proofs.Shf
namespace Go.Shf
open Go.AW
theorem JU {f : SF} {V : List (List Int)} (h : f.Is) (v : BT f.shape V) (hf : Bh f V) : (AO f V).Is:=by
 have hs:=Bx h.1 v hf
 have hc:=G4 h.1 v hf;refine ⟨hs,⟨fun x hx e he=>?_,fun a b ha hb Ic e he=>?_⟩⟩
 ·replace hx : x<f.shape.Aw.length:=hx
  have KD:=h.1.is.1.il
  have aM : 0≤(x : Int)∧(x : Int)<f.shape.AR:=by omega
  have ha:=h.1.is.1.Uk aM;rw [AJ] at ha
  show (ix (BK f V) (f.shape.Aw.getD x default)).getD e default=e
  replace he : e<(ix (BK f V) (f.shape.Aw.getD x default)).length:=he;rw [Gv ha.1,List.length_map] at he
  have s1:=DK h.1 v ha.1 (k:=(e : Int)) ⟨by omega,by simpa using he⟩;rw [← AJ (ix (BK f V) _),s1.1]
  have Gc:=Jh h.1 v (x:=ix f.shape.AH (f.shape.Aw.getD x default)) (by rw [ha.2.1]; exact aM) (k:=(e : Int)) ⟨by omega,by simpa using he⟩
  have hm : Bd f.shape V (f.shape.Aw.getD x default) (ix (BQ f (ix V (ix f.shape.AH (f.shape.Aw.getD x default)))) e)=ix (BQ f (ix V (ix f.shape.AH (f.shape.Aw.getD x default)))) e:=by
   have h1:=Gc.1;rw [ha.2.1] at h1 ⊢;refine Er (v.at aM).nodup (by rw [Bd,List.length_map,ha.2.2]) h1.len fun b hb=>?_
   have FY:=(v.at aM).arr hb
   have:=C1 (c:=f.shape) (V:=V) (a:=f.shape.Aw.getD x default) (b:=b) (t:=ix (BQ f (ix V x)) e) (by rw [ha.2.2]; exact hb);rw [ha.2.2,ha.2.1] at this;rw [this]
   have hi:=h.1.is.ZM FY.1;rw [FY.2,AJ] at hi;rw [hi]
  rw [hm]
  have h2:=Gc.2;rw [ha.2.1] at h2;rw [ha.2.1,ha.2.2];exact h2
 ·have:=hc a b ⟨by omega,by simpa using ha⟩ ⟨by omega,by simpa using hb⟩ (by simpa only [AJ] using Ic) e ⟨by omega,by simpa [AJ] using he⟩
  simpa only [AJ] using this
end Go.Shf
namespace Go.Proofs.Shf
open Go.AW Go.Proofs Go.Shf
theorem bJ {j : Df} {f : SF} (h : codeF j f=0) : Be j.shape∧Fl j.shape j.AP∧(j.AP.length : Int)=j.shape.AR∧∀ x : Nat,x<j.AP.length→∀ s,s∈j.AP.getD x default→j.shape.Ax x s:=by
 obtain ⟨hF,hf,Fz,Ee⟩:=Jj h
 have Py : Be j.shape:=by
  unfold DF at Fz;rw [if_neg (fun e=>e hF)] at Fz;apply Classical.byContradiction; intro e;rw [if_pos e] at Fz; cases Fz
 refine ⟨Py, ?_,hF.len,fun x hx s hs=>?_⟩
 ·unfold DF at Fz;rw [if_neg (fun e=>e hF),if_neg (fun e=>e Py)] at Fz;apply Classical.byContradiction; intro e;rw [if_neg e] at Fz; cases Fz
 ·obtain ⟨k,hk,rfl⟩:=AE.mp hs;exact hF.sv x hx k hk
theorem Xh {j : Df} {f : SF} (h : codeF j f=0) : O1 f.shape (Ag f.shape j.AP):=by
 obtain ⟨hF,hf,Fz,Ee⟩:=Jj h
 obtain ⟨_,ht,hl,hs⟩:=bJ h;rw [Ee] at ht hl hs;exact dS hf.1.is hl hs ht
end Go.Proofs.Shf
namespace Go.AW
def iB (b : UInt8) : AV:=.int .u8 (b.toNat : Int)
instance : One iB:=⟨fun _=>rfl,fun _=>rfl⟩
structure Src where
 code : List UInt8
 pl : Int
 hash : Int
def Src.cells (s : Src) : List AV:=[mL iB s.code,.int .i64 s.pl,.int .u64 s.hash]
def Src.Ok (s : Src) : Prop:=0≤s.pl∧s.code.length≤AK
def Src.obj (s : Src) : AF:=.cells 3 s.cells 0
def di (id : Nat) (H0 : AA) (Q : AV→Prop) : Ap:=fun r H'=>Q r∧∃ s' : Src,s'.Ok∧AB H0 H' [(id,s'.obj)]
theorem AB.self {H0 H : AA} {id : Nat} {o : AF} {l : List (Nat × AF)} (h : AB H0 H ((id,o)::l)) : AB (H.del id) H [(id,o)] where
 sub:=fun i x hx=>by
  by_cases e : i=id
  ·subst e; rw [AA.Ci] at hx; cases hx
  ·rwa [AA.CA _ e] at hx
 get:=fun x hx=>by
  rw [List.mem_singleton] at hx; subst hx;exact h.get _ (by simp)
 nd:=by simp
 out:=fun x hx=>by
  rw [List.mem_singleton] at hx; subst hx;exact AA.Ci _ _
end Go.AW
namespace Go.Proofs.Shf
open Go.AW Go.Proofs Go.Shf
theorem VR {a x : Int} (h : IntKind.i64.wrap (IntKind.u64.wrap ((BitVec.ofInt IntKind.u64.bits a &&& BitVec.ofInt IntKind.u64.bits 16777215).toNat : Int))=x) : 0≤x∧x≤16777215:=by
 have h1 : (BitVec.ofInt IntKind.u64.bits a &&& BitVec.ofInt IntKind.u64.bits 16777215).toNat≤16777215:=by
  rw [BitVec.toNat_and]
  have : (BitVec.ofInt IntKind.u64.bits 16777215).toNat=16777215:=rfl;rw [this];exact Nat.and_le_right
 generalize (BitVec.ofInt IntKind.u64.bits a &&& BitVec.ofInt IntKind.u64.bits 16777215).toNat=m at h h1
 have e : IntKind.u64.wrap (m : Int)=m:=by
  have : IntKind.u64.wrap (m : Int)=(m : Int) % 18446744073709551616:=by simp only [IntKind.wrap]; rfl
  omega
 rw [e,wrap_i64 (by omega) (by omega)] at h;omega
def Rd (B : Nat) (fn : FuncId) (args : List AV) (Q : AV→Prop) : Prop :=
 ∀ (id : Nat) (s : Src) (H0 H : AA),s.Ok→AB H0 H [(id,s.obj)]→CB B fn (.ref id 0::args) H (di id H0 Q)
theorem Rd.go {B : Nat} {fn : FuncId} {args : List AV} {Q : AV→Prop} {id : Nat} {s : Src} {H0 H : AA} {l : List (Nat × AF)} {K : Ap} (h : Rd B fn args Q) (hs : s.Ok) (o : AB H0 H ((id,s.obj)::l))
  (hk : ∀ (r : AV) (s' : Src) (H' : AA),r.Eb→Q r→s'.Ok→AB H0 H' ((id,s'.obj)::l)→K r H') : CB B fn (.ref id 0::args) H K :=
 (h id s _ H hs o.self).J7 fun r H' hf ⟨q,s',Hf,o'⟩=>hk r s' H' hf q Hf (o.del.trans o')
theorem Az {id : Nat} {s : Src} {H0 H : AA} {l : List (Nat × AF)} {Q : AV→Prop} {v : AV} (q : Q v) (hs : s.Ok) (o : AB H0 H ((id,s.obj)::l)) : Ig (di id H0 Q) v H :=
 ⟨H,.refl H,q,s,hs,o.MP (by simp)⟩
def LH (B : Nat) (fn : FuncId) (args : List AV) (Q : AV→Prop) : Prop:=∀ H,CB B fn args H fun r H'=>Q r∧H'=H
theorem LH.go {B : Nat} {fn : FuncId} {args : List AV} {Q : AV→Prop} {H : AA} {K : Ap} (h : LH B fn args Q) (hk : ∀ r,r.Eb→Q r→K r H) : CB B fn args H K :=
 (h H).J7 fun r H' hf ⟨q,e⟩=>by subst e; exact hk r hf q
theorem Ce {H0 H : AA} {Q : AV→Prop} {v : AV} (q : Q v) (h : H0.sub H) : Ig (fun r H'=>Q r∧H'=H0) v H:=⟨H0,h,q,rfl⟩
theorem AY (B : Nat) (n : Int) : Rd B 85 [iI n] fun r=>∃ k : Int,r=iI k∧0≤k∧(1≤n→k<n)∧(n<1→k=0):=by
 intro id s H0 H hs o;refine c85.go fun hf=>?_;refine tt ?_;apply bk <;> intro h1
 ·have AU:=A7 h1;refine tt ?_;exact Az ⟨0,rfl,by omega,by omega,fun _=>rfl⟩ hs o
 ·have AU:=A9 h1;refine tt ?_
  obtain ⟨code,pl,hash⟩:=s;simp only [Src.obj,Src.cells] at o;simp only [Src.Ok,AK] at hs;refine AN o (by simp) (tt ?_);refine sw o fun H o=>tt ?_;refine AN o (by simp) (tt ?_)
  generalize hx : IntKind.i64.wrap (IntKind.u64.wrap _)=x
  have QX:=VR hx;clear hx;refine ⟨by omega,AN o (by simp) ?_⟩;refine tt ?_;refine AN o (by simp) (tt ?_);apply bk <;> intro h2
  ·have Ah:=A7 h2;refine tt ?_;refine AN o (by simp) (tt ?_);refine AN o (by simp) (tt ?_);refine ⟨⟨hs.1,by omega⟩, ?_⟩
   have hb:=(ix code pl).toNat_lt;try simp only [go_sem,↓reduceIte,reduceEqDiff,reduceAdd,reduceMul,reduceLeDiff,reduceLT,iB]
   generalize (ix code pl).toNat=b at hb ⊢
   have e1 : IntKind.i64.wrap (b : Int)=b:=wrap_i64 (by omega) (by omega)
   have e2 : IntKind.i64.wrap (x+b)=x+b:=wrap_i64 (by omega) (by omega)
   have e3 : IntKind.i64.wrap (pl+1)=pl+1:=wrap_i64 (by omega) (by omega);refine t2 e1 e2 ?_
   refine AN o (by simp) ?_;refine tw e3 ?_;refine sw o fun H o=>tt ?_;refine ⟨by omega,Az (s:=⟨code,pl+1,_⟩) ⟨(x+b).tmod n,rfl, ?_, ?_, ?_⟩ ⟨by show 0≤pl+1; omega,hs.2⟩ o⟩
   ·exact Int.tmod_nonneg _ (by omega)
   ·intro h; exact Int.tmod_lt_of_pos _ (by omega)
   ·intro h; omega
  ·refine tt ?_;refine ⟨by omega,Az (s:=⟨code,pl,_⟩) ⟨x.tmod n,rfl, ?_, ?_, ?_⟩ hs o⟩
   ·exact Int.tmod_nonneg _ (by omega)
   ·intro h; exact Int.tmod_lt_of_pos _ (by omega)
   ·intro h; omega
theorem KW (B : Nat) (l : List Int) (hl : l≠[]) : Rd B 162 [iL l] fun r=>∃ k : Int,r=iI k∧k∈l:=by
 intro id s H0 H hs o;refine c162.go fun hf=>?_
 have hp : 0<l.length:=List.length_pos_iff.mpr hl;refine tt ?_;refine (AY B l.length).go hs o fun r s' H hr ⟨k,e,h0,h1,_⟩ hs o=>?_;subst e
 have h1:=h1 (by omega);refine tt ?_;refine ⟨⟨h0,by omega⟩,tt ?_⟩;exact Az ⟨_,rfl,Bi (by omega)⟩ hs o
theorem RW (B : Nat) (n : Int) : Rd B 87 [iI n] fun r=>∃ k : Int,r=iI k:=by
 intro id s H0 H hs o;refine c87.go fun hf=>?_;refine tt ?_;refine (AY B 40).go hs o fun r s' H hr ⟨k,e,h0,h1,_⟩ hs o=>?_;subst e;refine tt ?_;apply bk <;> intro h1
 ·refine tt ?_;refine ⟨?_, ?_⟩
  ·simp [AK]
  refine (KW B [-1,n,9223372036854775807,-9223372036854775808] (by simp)).go hs o fun r s' H hr ⟨k,e,_⟩ hs o=>?_;subst e;refine tt ?_;exact Az ⟨_,rfl⟩ hs o
 ·refine tt ?_;refine (AY B n).go hs o fun r s' H hr ⟨k,e,h0,h1,_⟩ hs o=>?_;subst e;refine tt ?_;exact Az ⟨_,rfl⟩ hs o
def mN (H0 : AA) : Ap:=fun r H'=>∃ (id : Nat) (s : Src),r=.ref id 0∧s.Ok∧AB H0 H' [(id,s.obj)]
theorem Vl (B : Nat) (code : List UInt8) (H0 : AA) : CB B 56 [mL iB code] H0 (mN H0):=by
 refine ys.go fun ⟨hf,_⟩=>?_
 have hl:=AL hf
 have n0:=hl;simp only [AK] at n0;refine tt ?_;refine nb (.nil _) fun id H o=>tt ?_;refine AD [0,3] (G:=Int) (fun k _=>[(4,some (.int .i64 (k : Int)))]) (fun k h H=>AB H0 H [(id,.cells 3 [mL iB code,.int .i64 0,.int .u64 h] 0)]) code.length _ o rfl ?_;clear o
 rintro k h H hk o
 have o : AB H0 H [(id,.cells 3 [mL iB code,.int .i64 0,.int .u64 h] 0)]:=o
 have gW : mN H0 (.ref id 0) H:=⟨id,⟨code,0,h⟩,rfl,⟨Int.le_refl 0,hl⟩,o⟩;refine tt ?_;apply bk <;> intro h1
 ·have AU:=A7 h1;refine tw h1 ?_;apply bk <;> intro h2
  ·refine tt ?_;refine AN o (by simp) ?_
   have w:=ws k;try simp only [go_sem,↓reduceIte,reduceEqDiff,reduceAdd,reduceMul,reduceLeDiff,reduceLT,iB]
   refine ⟨by omega, ?_⟩;try simp only [go_sem,↓reduceIte,reduceEqDiff,reduceAdd,reduceMul,reduceLeDiff,reduceLT,iB]
   refine sw o fun H o=>?_;refine tw w ?_;exact A5 _ (by omega) o rfl
  ·refine tt ?_;exact ⟨H,.refl H,gW⟩
 ·refine tw h1 ?_;exact ⟨H,.refl H,gW⟩
theorem pI (B : Nat) (code : List UInt8) : PB B 8 [mL iB code] (.bool (decide (4096<code.length))):=by
 refine ⟨fun H0=>c8.go fun hf=>tt ?_⟩;refine A6 ?_ (.refl _)
 congr 1
 exact decide_eq_decide.mpr (by omega)
theorem FO (B : Nat) (a b : List Int) : PB B 24 [iL a,iL b] (.bool (dec (a=b))):=by
 refine ⟨fun H0=>c24.go fun ⟨hf,hg,_⟩=>?_⟩
 have hl:=AL hf
 have Ia:=AL hg;simp only [AK] at hl Ia;refine tt ?_;apply bk <;> intro h0
 ·refine tt ?_
  have Nd : a.length≠b.length:=by simpa using h0
  exact A6 (by rw [Ab]; rintro rfl; exact Nd rfl) (.refl _)
 have Nd : a.length=b.length:=by simpa using h0
 refine tt ?_;refine AD [0,1] (fun k _=>[(5,some (.int .i64 (k : Int)))]) (fun k _ H=>H=H0∧∀ i,i<k→a.getD i default=b.getD i default) a.length () ⟨rfl,by simp⟩ rfl ?_
 rintro k _ H hk ⟨rfl,Aj⟩;refine tt ?_;apply bk <;> intro h1
 ·have h1:=A7 h1
  have w1:=ws k;refine tt ?_;refine ⟨h1,by omega,tt ?_⟩;apply bk <;> intro h2
  ·refine tt ?_
   have Ah : a.getD k default≠b.getD k default:=by simpa using h2
   exact A6 (by rw [Ab]; rintro rfl; exact Ah rfl) (.refl _)
  ·refine tw w1 ?_
   have Ah : a.getD k default=b.getD k default:=by simpa using h2
   exact A5 () (by omega) ⟨rfl,AG Aj Ah⟩ rfl
 ·refine tt ?_
  have h1:=A9 h1;refine A6 ?_ (.refl _);rw [Ay];refine List.ext_getElem Nd fun i hi hj=>?_
  have:=Aj i (by omega)
  simpa [gE,hi,hj] using this
theorem dT5 {p : Decidable True} : @decide True p=true:=@decide_eq_true True p trivial
theorem KX (B : Nat) (a : List (List Int)) : PB B 27 [BD a,BD a] (.bool true):=by
 refine ⟨fun H0=>c27.go fun ⟨hf,_⟩=>?_⟩
 have hl:=AL hf;simp only [AK] at hl;refine tt ?_;refine ⟨fun e=>(by simp at e),fun _=>At.mk ?_⟩;refine tt ?_;refine AD [0,1] (G:=Unit) (fun k _=>[(5,some (.int .i64 (k : Int)))]) (fun k _ H=>H=H0) a.length () rfl rfl ?_
 rintro k _ H hk rfl;refine tt ?_;apply bk <;> intro h1
 ·have AU : k<a.length:=A7 h1
  have w:=ws k;refine tt ?_;refine ⟨AU,AU,tt ?_⟩;refine ⟨_,(FO B _ _).run, ?_⟩;rw [Ay rfl];refine tw w ?_;exact A5 () (by omega) rfl rfl
 ·refine tt ?_;exact A6 rfl (.refl _)
theorem Tv (B : Nat) (c : B0) : PB B 17 [.agg c.cells,.agg c.cells] (.bool true):=by
 refine ⟨fun H0=>c17.go fun _=>?_⟩;refine td ?_;refine (FO B _ _).go fun _=>?_;rw [Ay rfl];refine td ?_;refine (FO B _ _).go fun _=>?_;rw [Ay rfl];refine td ?_;refine (FO B _ _).go fun _=>?_;rw [Ay rfl];refine td ?_;refine (KX B _).go fun _=>?_;refine td ?_;exact A6 rfl (.refl _)
theorem LP (B : Nat) (f : SF) : PB B 33 [.agg f.cells,.agg f.cells] (.bool true):=by
 refine ⟨fun H0=>c33.go fun _=>?_⟩;refine td ?_;refine (Tv B f.shape).go fun _=>?_;refine td ?_;refine (FO B _ _).go fun _=>?_;rw [Ay rfl];refine td ?_;refine (KX B _).go fun _=>?_;refine td ?_;exact A6 rfl (.refl _)
theorem Ek (B : Nat) (m : SM) : PB B 39 [.agg m.cells,.agg m.cells] (.bool true):=by
 refine ⟨fun H0=>c39.go fun _=>?_⟩;refine td ?_;refine (LP B m.src).go fun _=>?_;refine td ?_;refine (LP B m.Bm).go fun _=>?_;refine td ?_;refine (KX B _).go fun _=>?_;refine td ?_;exact A6 rfl (.refl _)
end Go.Proofs.Shf
namespace Go.AW
@[go_sem] theorem oE : AV.FI.cells=[.FI]:=rfl
@[go_sem] theorem xV : AV.FI.one=true:=rfl
@[go_sem] theorem cy : (3≤AK)=True:=by simp [AK]
@[go_sem] theorem zI : (4≤AK)=True:=by simp [AK]
@[go_sem] theorem xD : (5≤AK)=True:=by simp [AK]
theorem permC {l r : Ob} (h : ∀ x,@List.count _ (@instBEqOfDecidableEq _ (Classical.typeDecidableEq _)) x l=@List.count _ (@instBEqOfDecidableEq _ (Classical.typeDecidableEq _)) x r) : l.Perm r:=by
 letI : DecidableEq (Nat × AF):=Classical.typeDecidableEq _
 exact List.perm_iff_count.mpr h
def ly {α : Type} (f : α→AV) (p : List (Nat × AF)) (X : AV) (A : List α) : Prop :=
 (p=[]∧X=.FI∧A=[])∨∃ id,p=[(id,.cells 1 (A.map f) 0)]∧X=.buf id A.length
theorem ly.o {α : Type} {f : α→AV} {H0 H : AA} {l p : List (Nat × AF)} {X : AV} {A : List α} (h : ly f p X A) (o : AB H0 H (p++l)) : uG f H0 H l X A:=by
 rcases h with ⟨rfl,h1,h2⟩ | ⟨id,rfl,h1⟩
 ·exact .inl ⟨h1,h2,o⟩
 ·exact .inr ⟨id,h1,o⟩
theorem oO {F : Env→AA→Prop} {σ : Env} {H0 H : AA} {l : List (Nat × AF)} {id sz fr : Nat} {cs : List AV} (k : Nat)
  (o : AB H0 H ((id,.cells sz cs fr)::l)) (hc : cs[k]? = some .FI) (hk : ∀ H',AB H0 H' ((id,.cells sz (cs.set k (.sl [])) fr)::l)→Gb F σ H') : Gb F σ H:=by
 have h1:=o.h0;simp only at h1;refine DZ (σ1:=σ) ?_ (hk _ (o.put (.cells sz (cs.set k (.sl [])) fr)))
 intro g B w tm hW hE;refine ⟨g,.refl g,hW.WI h1 (by simp) fun j v hj hv=>?_,hE⟩
 by_cases e : j=k
 ·subst e
  have e1 : cs.getD j nv=.FI:=by rw [gE,hc]; rfl
  have e2 : (cs.set j (.sl [])).getD j nv=.sl []:=by simp [gE,hj]
  rw [e1] at hv; rw [e2]
  cases hv; exact .slnil _ 0
 ·have e2 : (cs.set k (.sl [])).getD j nv=cs.getD j nv:=by
   rw [gE,List.getElem?_set_ne (by omega),← gE]
  rw [e2]; exact hv
theorem zP {α : Type} [Inhabited α] {f : α→AV} [One f] {F : Env→AA→Prop} {σ : Env} {H0 H : AA} {l p : List (Nat × AF)} {id sz fr : Nat} {cs : List AV} {X : AV} {A : List α} (k : Nat)
  (h : ly f p X A) (o : AB H0 H (p++((id,.cells sz cs fr)::l))) (hc : cs[k]? = some X)
  (hk : ∀ H',AB H0 H' ((id,.cells sz (cs.set k (mL f A)) fr)::l)→Gb F σ H') : Gb F σ H:=by
 rcases h with ⟨rfl,rfl,rfl⟩ | ⟨ES,rfl,rfl⟩
 ·exact oO k o hc hk
 ·exact B7 k o.swap hc rfl hk
end Go.AW
namespace Go.Shf
open Go.AW
structure B0.Sh (N : Nat) (c : B0) : Prop where
 ob : 0≤c.AR∧c.AR≤N
 il : (c.Aw.length : Int)=c.AR
 ml : c.AH.length≤N
 tl : c.to.length=c.AH.length
 cl : c.comp.length=c.AH.length
 row : ∀ f : Nat,f<c.AH.length→(c.comp.getD f default).length=c.AH.length
theorem B0.Sh.mono {N M : Nat} {c : B0} (h : c.Sh N) (hm : N≤M) : c.Sh M:=⟨by have:=h.ob; omega,h.il,by have:=h.ml; omega,h.tl,h.cl,h.row⟩
def QC (N : Nat) (r : AV) : Prop:=∃ c : B0,r=.agg c.cells∧c.Sh N
def rk (n : Nat) (T : List (List Int)) : Prop:=T.length≤n∧∀ i,i<T.length→(T.getD i default).length=T.length
def SqQ (n : Nat) (r : AV) : Prop:=∃ T : List (List Int),r=BD T∧rk n T
end Go.Shf
namespace Go.Proofs.Shf
open Go.AW Go.Proofs Go.Shf
theorem Hv (B : Nat) : Rd B 272 [] (SqQ 4):=by
 intro id s H0 H hs o;refine c272.go fun hf=>?_;refine tt ?_;refine (AY B 8).go hs o fun r s' H hr ⟨k,e,h0,h1,_⟩ hs o=>?_;subst e;refine tt ?_;apply bk <;> intro q0
 ·refine tt ?_;exact Az ⟨[[0]],rfl,by decide,by decide⟩ hs o
 refine tt ?_;apply bk <;> intro q1
 ·refine tt ?_;exact Az ⟨[[0,1],[1,0]],rfl,by decide,by decide⟩ hs o
 refine tt ?_;apply bk <;> intro q2
 ·refine tt ?_;exact Az ⟨[[0,1],[1,1]],rfl,by decide,by decide⟩ hs o
 refine tt ?_;apply bk <;> intro q3
 ·refine tt ?_;exact Az ⟨[[0,1,2],[1,2,0],[2,0,1]],rfl,by decide,by decide⟩ hs o
 refine tt ?_;apply bk <;> intro q4
 ·refine tt ?_;exact Az ⟨[[0,1,2],[1,1,2],[2,2,2]],rfl,by decide,by decide⟩ hs o
 refine tt ?_;apply bk <;> intro q5
 ·refine tt ?_;exact Az ⟨[[0,1,2],[1,1,2],[2,1,2]],rfl,by decide,by decide⟩ hs o
 refine tt ?_;apply bk <;> intro q6
 ·refine tt ?_;exact Az ⟨[[0,1,2,3],[1,0,2,3],[2,3,2,3],[3,2,2,3]],rfl,by decide,by decide⟩ hs o
 refine tt ?_;exact Az ⟨[[0,1,2],[1,2,2],[2,2,2]],rfl,by decide,by decide⟩ hs o
theorem Tl (B : Nat) : LH B 273 [] (QC 6):=by
 intro H0;refine c273.go fun hf=>?_;refine tt ?_;refine fun i1 n1=>tt ?_;refine Ce ⟨⟨2,[0,1,0,0,1],[0,1,0,1,0],[0,1],[[0,-1,2,3,-1],[-1,1,-1,-1,4],[2,-1,2,3,-1],[-1,3,-1,-1,2],[4,-1,4,1,-1]]⟩,rfl,by decide,by decide,by decide,by decide,by decide,by decide⟩ ?_
 repeat (first | exact .refl _ | refine CE ?_ n1)
theorem Nr (B : Nat) (c : B0) : PB B 209 [.agg c.cells] (.bool (dec (c.AR≤8∧c.AH.length≤40))):=by
 refine ⟨fun H0=>yg.go fun hf=>tt ?_⟩;apply bk <;> intro h1
 ·refine tw h1 ?_
  exact A6 (by
   have AU:=A7 h1
   congr 1
   rw [BO];exact Bc ⟨fun h=>⟨AU,by omega⟩,fun h=>by have:=h.2; omega⟩) (.refl _)
 ·refine tw h1 ?_;exact A6 (by rw [Ab (fun h=>A9 h1 h.1)]) (.refl _)
theorem IA (B : Nat) (T : List (List Int)) (hT : rk 4 T) : LH B 271 [BD T] (QC 4):=by
 intro H0;refine cr.go fun hf=>?_;refine tt ?_;refine Am (.nil _) fun id H o=>tt ?_;refine ⟨_,(Hq ..).run,tt ?_⟩
 have hT4:=hT.1
 have hc : (T.length : Int)≤T.length∧T.length≤AK∧T.length≤AK:=⟨by omega,by simp only [AK]; omega,by simp only [AK]; omega⟩;refine ⟨?_, ?_⟩
 ·refine ⟨hc,DL iI 0 rfl o fun i7 H o=>?_⟩;refine tt ?_;refine ⟨hc,DL iI 0 rfl o fun i9 H o=>?_⟩;refine tt ?_
  have o:=o.pull [_,_];simp only [List.cons_append,List.nil_append] at o;refine sw o fun H o=>tt ?_;refine B7 2 o rfl (by simp) fun H o=>?_;have o:=s1 o;refine B7 1 o rfl (by simp) fun H o=>AX ?_;have o:=s1 o;refine tt ?_
  have hr:=o.rc 5 0 (by simp);simp only [List.drop_zero] at hr;rw [hr];refine tt ?_;exact Ce ⟨⟨1,List.replicate T.length 0,List.replicate T.length 0,[0],T⟩,rfl,by simp,by simp,by simpa using hT4,by simp,by simp,fun f hf=>by simpa using hT.2 f (by simpa using hf)⟩ o.sub
 ·refine ⟨hc,DL iI 0 rfl o fun i9 H o=>?_⟩;refine tt ?_;refine ⟨hc,DL iI 0 rfl o fun i7 H o=>?_⟩;refine tt ?_
  have o:=o.pull [_,_];simp only [List.cons_append,List.nil_append] at o;refine sw o fun H o=>tt ?_;refine B7 1 o rfl (by simp) fun H o=>?_;have o:=s1 o;refine B7 2 o rfl (by simp) fun H o=>AX ?_;have o:=s1 o;refine tt ?_
  have hr:=o.rc 5 0 (by simp);simp only [List.drop_zero] at hr;rw [hr];refine tt ?_;exact Ce ⟨⟨1,List.replicate T.length 0,List.replicate T.length 0,[0],T⟩,rfl,by simp,by simp,by simpa using hT4,by simp,by simp,fun f hf=>by simpa using hT.2 f (by simpa using hf)⟩ o.sub
theorem bX (B : Nat) (N : Nat) (hN : N≤4096) (c : B0) (hc : c.Sh N) : LH B 274 [.agg c.cells] (QC N):=by
 intro H0;refine wQ.go fun hf=>?_
 have Fh:=hc.ob
 have Dz:=hc.ml
 have Hg:=hc.tl
 have Ma:=hc.cl
 have B4:=hc.row;refine tt ?_;refine Am (.nil _) fun ES H o=>tt ?_;refine ⟨_,(Dg ..).run,tt ?_⟩;refine ⟨_,(Dg ..).run,tt ?_⟩;refine ⟨_,(Dg ..).run,tt ?_⟩;refine Am o fun Ch H o=>tt ?_;refine sw o fun H o=>tt ?_
 refine AD [1,2,3] (G:=AV × Ob × List (List Int)) (fun k _=>[(4,some (.int .i64 (k : Int)))])
  (fun k g H=>ly iL g.2.1 g.1 g.2.2∧g.2.2.length=k∧(∀ r,r∈g.2.2→r.length=c.AH.length)∧AB H0 H (g.2.1++[(Ch,AF.cells 5 [iI c.AR,iL c.to,iL c.AH,iL c.Aw,g.1] 0),(ES,AF.cells 5 [iI 0,.A1,.A1,.A1,.A1] 0)])) c.AH.length (.FI,[],[])
  ⟨.inl ⟨rfl,rfl,rfl⟩,rfl,by simp,o⟩ rfl ?_
 clear o
 rintro k ⟨X,p,A⟩ H hk ⟨hX,hA,hr,o⟩;dsimp only at hX hA hr o;refine tt ?_;apply bk <;> intro h1
 ·have AU:=A7 h1;refine tt ?_;refine Af o fun BW H o=>tt ?_
  refine AD [1,2,3,4] (G:=Nat × List Int) (fun j g=>[(5,some (.buf g.1 g.2.length)),(6,some (.int .i64 (j : Int)))])
   (fun j g H=>g.2.length=j∧AB H0 H ((g.1,.cells 1 (g.2.map iI) 0)::(p++[(Ch,AF.cells 5 [iI c.AR,iL c.to,iL c.AH,iL c.Aw,X] 0),(ES,AF.cells 5 [iI 0,.A1,.A1,.A1,.A1] 0)]))) c.AH.length (BW,[]) ⟨rfl,o⟩ rfl ?_
  clear o
  rintro j ⟨BW,row⟩ H hj ⟨Lu,o⟩;dsimp only at Lu o;refine tt ?_;apply bk <;> intro h2
  ·have Ah:=A7 h2
   have w:=ws j
   have hrj:=B4 j Ah;refine tt ?_;refine ⟨by omega,by omega, ?_⟩;refine Ac _ o rfl rfl (by simp only [AK]; omega) fun BW H o=>?_;refine tw w ?_;exact A5 (BW,_) Ah ⟨by simp [Lu],o⟩ rfl
  ·have Ah:=A9 h2;refine tt ?_;refine Ak o rfl fun H o=>tt ?_;refine Al (o.get (Ch,AF.cells 5 [iI c.AR,iL c.to,iL c.AH,iL c.Aw,X] 0) (by simp)) (by simp) (tt ?_);refine (hX.o o).app row rfl (by simp only [AK]; omega) fun Ca H o=>tt ?_;refine sw o.swap fun H o=>?_
   have w:=ws k;refine tw w ?_
   exact A5 (_,[(Ca,.cells 1 ((A++[row]).map iL) 0)],A++[row]) AU ⟨.inr ⟨Ca,rfl,rfl⟩,by simp [hA],by
    intro r Wy
    rcases List.mem_append.mp Wy with h | h
    ·exact hr r h
    ·rw [List.mem_singleton] at h; subst h; omega,o.swap⟩ rfl
 ·have AU:=A9 h1;refine tt ?_;refine zP 4 hX o rfl fun H o=>AX ?_;have o:=s1 o;refine tt ?_;refine AZ o (by simp) (tt ?_);refine sw o.swap fun H o=>tt ?_
  have BZ:=o.rc 5 0 (by simp);simp only [List.drop_zero] at BZ;rw [BZ];refine tt ?_
  exact Ce ⟨⟨c.AR,c.to,c.AH,c.Aw,A⟩,rfl,Fh,hc.il,by show c.to.length≤N; omega,by show c.AH.length=c.to.length; omega,by show A.length=c.to.length; omega,fun f hf=>by
   show (A.getD f default).length=c.to.length
   rw [hr _ (AE.mpr ⟨f,by have : f<c.to.length:=hf; omega,rfl⟩)]; omega⟩ o.sub
theorem DQ (B : Nat) (R : List (List Int)) (hR : rk 4 R) : LH B 210 [BD R] (QC 16):=by
 intro H0;refine zV.go fun hf=>?_
 obtain ⟨hR4,B4⟩:=hR;refine tt ?_;refine Am (.nil _) fun ES H o=>tt ?_;refine Af o fun aB H o=>tt ?_;refine Af o fun a H o=>tt ?_;refine Af o fun b H o=>tt ?_;refine Af o fun i H o=>tt ?_;refine Af o fun d H o=>tt ?_;refine Am o fun CS H o=>tt ?_;refine sw o fun H o=>tt ?_
 generalize hn : R.length=n at *
 refine AD [0,2,3,5] (G:=(Nat × List Int) × (Nat × List Int) × (Nat × List (List Int))) (fun k g=>[(4,some (.buf g.2.2.1 g.2.2.2.length)),(6,some (.int .i64 (k : Int)))])
  (fun k g H=>g.2.1.2.length=g.1.2.length∧g.1.2.length≤k*n∧(∀ y,y∈g.1.2→0≤y∧y<n)∧(∀ y,y∈g.2.1.2→0≤y∧y<n)∧g.2.2.2.length=k∧(∀ r,r∈g.2.2.2→r.length=n) ∧
   AB H0 H [(CS,AF.cells 5 [iI n,.buf g.1.1 g.1.2.length,.buf g.2.1.1 g.2.1.2.length,.buf i 0,.buf d 0] 0),(g.1.1,AF.cells 1 (g.1.2.map iI) 0),(g.2.1.1,AF.cells 1 (g.2.1.2.map iI) 0),(g.2.2.1,AF.cells 1 (g.2.2.2.map iL) 0),
    (i,AF.cells 1 [] 0),(d,AF.cells 1 [] 0),(ES,AF.cells 5 [iI 0,.A1,.A1,.A1,.A1] 0)]) n ((a,[]),(b,[]),(aB,[]))
  ⟨rfl,by simp,by simp,by simp,rfl,by simp,o.pm⟩ rfl ?_
 clear o
 rintro k ⟨⟨a,A⟩,⟨b,C⟩,⟨aB,rows⟩⟩ H hk ⟨hC,hA,Mf,aD,Lu,iY,o⟩;dsimp only at hC hA Mf aD Lu iY
 replace o : AB H0 H [(CS,AF.cells 5 [iI n,.buf a A.length,.buf b C.length,.buf i 0,.buf d 0] 0),(a,AF.cells 1 (A.map iI) 0),(b,AF.cells 1 (C.map iI) 0),(aB,AF.cells 1 (rows.map iL) 0),
    (i,AF.cells 1 [] 0),(d,AF.cells 1 [] 0),(ES,AF.cells 5 [iI 0,.A1,.A1,.A1,.A1] 0)]:=o
 refine tt ?_;apply bk <;> intro h1
 ·have AU:=A7 h1;refine tt ?_;refine Af o fun BW H o=>tt ?_
  have rB : k*n+n≤16:=by
   have : (k+1)*n≤4*4:=Nat.mul_le_mul (by omega) (by omega);rw [Nat.succ_mul] at this; omega
  refine AD [0,2,3,4,5,6] (G:=(Nat × List Int) × (Nat × List Int) × (Nat × List Int)) (fun j g=>[(7,some (.buf g.1.1 g.1.2.length)),(8,some (.int .i64 (j : Int)))])
   (fun j g H=>g.1.2.length=j∧g.2.2.2.length=g.2.1.2.length∧g.2.1.2.length≤k*n+j∧(∀ y,y∈g.2.1.2→0≤y∧y<n)∧(∀ y,y∈g.2.2.2→0≤y∧y<n) ∧
    AB H0 H [(g.1.1,AF.cells 1 (g.1.2.map iI) 0),(CS,AF.cells 5 [iI n,.buf g.2.1.1 g.2.1.2.length,.buf g.2.2.1 g.2.2.2.length,.buf i 0,.buf d 0] 0),(g.2.1.1,AF.cells 1 (g.2.1.2.map iI) 0),(g.2.2.1,AF.cells 1 (g.2.2.2.map iI) 0),(aB,AF.cells 1 (rows.map iL) 0),
    (i,AF.cells 1 [] 0),(d,AF.cells 1 [] 0),(ES,AF.cells 5 [iI 0,.A1,.A1,.A1,.A1] 0)]) n ((BW,[]),(a,A),(b,C))
   ⟨rfl,hC,by omega,Mf,aD,o⟩ rfl ?_
  clear o hA Mf aD hC
  rintro j ⟨⟨BW,row⟩,⟨a,A⟩,⟨b,C⟩⟩ H hj ⟨YW,hC,hA,Mf,aD,o⟩
  replace YW : row.length=j:=YW;dsimp only at hC hA Mf aD
  replace o : AB H0 H [(BW,AF.cells 1 (row.map iI) 0),(CS,AF.cells 5 [iI n,.buf a A.length,.buf b C.length,.buf i 0,.buf d 0] 0),(a,AF.cells 1 (A.map iI) 0),(b,AF.cells 1 (C.map iI) 0),(aB,AF.cells 1 (rows.map iL) 0),
    (i,AF.cells 1 [] 0),(d,AF.cells 1 [] 0),(ES,AF.cells 5 [iI 0,.A1,.A1,.A1,.A1] 0)]:=o
  refine tt ?_;apply bk <;> intro h2
  ·have Ah:=A7 h2
   have w:=ws j;refine tt ?_;refine AN o.tl (by simp) (tt ?_);refine Ac _ o rfl rfl (by simp only [AK]; omega) fun BW H o=>?_
   have hR1:=B4 k (by omega);refine tt ?_;refine ⟨by omega,by omega, ?_⟩;apply bk <;> intro h3
   ·refine tt ?_;refine AN o.tl (by simp) (tt ?_);refine Ac _ (o.pull [_,_]) rfl rfl (by simp only [AK]; omega) fun a H o=>tt ?_;refine sw (o.pull [_,_]) fun H o=>tt ?_;refine AN o (by simp) (tt ?_);refine Ac _ (o.pull [_,_,_]) rfl rfl (by simp only [AK]; omega) fun b H o=>tt ?_;refine sw o.swap fun H o=>?_;refine tw w ?_;refine A5 ((BW,_),(a,A++[(k : Int)]),(b,C++[(j : Int)])) Ah ⟨by simp [YW],by simp [hC],by simp; omega, ?_, ?_,o.pm⟩ rfl
    ·intro y hy
     rcases List.mem_append.mp hy with h | h
     ·exact Mf y h
     ·rw [List.mem_singleton] at h; subst h; omega
    ·intro y hy
     rcases List.mem_append.mp hy with h | h
     ·exact aD y h
     ·rw [List.mem_singleton] at h; subst h; omega
   ·refine tw w ?_;exact A5 ((BW,_),(a,A),(b,C)) Ah ⟨by simp [YW],hC,by show A.length≤_; omega,Mf,aD,o⟩ rfl
  ·have Ah:=A9 h2;refine tt ?_;refine Ak o rfl fun H o=>tt ?_;refine Ac row (o.pull [_,_,_]) rfl rfl (by simp only [AK]; omega) fun aB H o=>?_
   have w:=ws k;refine tw w ?_;refine A5 ((a,A),(b,C),(aB,rows++[row])) AU ⟨hC,by show A.length≤_; rw [Nat.succ_mul]; omega,Mf,aD,by simp [Lu], ?_,o.pm⟩ rfl
   intro r hr
   rcases List.mem_append.mp hr with h | h
   ·exact iY r h
   ·rw [List.mem_singleton] at h; subst h; omega
 ·have AU:=A9 h1
  have rB : k=n:=by omega
  subst rB
  have hA16 : A.length≤16:=Nat.le_trans hA (Nat.mul_le_mul hR4 hR4);refine tt ?_;refine Ak (o.pull [_,_,_]) rfl fun H o=>tt ?_
  refine AD [2,3,4,5] (G:=(Nat × List Int)) (fun j g=>[(9,some (.int .i64 (j : Int)))])
   (fun j g H=>g.2.length=j∧AB H0 H [(CS,AF.cells 5 [iI k,.buf a A.length,.buf b C.length,.buf g.1 g.2.length,.buf d 0] 0),(g.1,AF.cells 1 (g.2.map iI) 0),(a,AF.cells 1 (A.map iI) 0),(b,AF.cells 1 (C.map iI) 0),
    (d,AF.cells 1 [] 0),(ES,AF.cells 5 [iI 0,.A1,.A1,.A1,.A1] 0)]) k (i,[]) ⟨rfl,o.pm⟩ rfl ?_
  clear o
  rintro j ⟨i,I⟩ H hj ⟨hI,o⟩;dsimp only at hI
  replace o : AB H0 H [(CS,AF.cells 5 [iI k,.buf a A.length,.buf b C.length,.buf i I.length,.buf d 0] 0),(i,AF.cells 1 (I.map iI) 0),(a,AF.cells 1 (A.map iI) 0),(b,AF.cells 1 (C.map iI) 0),
    (d,AF.cells 1 [] 0),(ES,AF.cells 5 [iI 0,.A1,.A1,.A1,.A1] 0)]:=o
  refine tt ?_;apply bk <;> intro h2
  ·have Ah:=A7 h2
   have w:=ws j
   have hrj:=iY (rows.getD j default) (AE.mpr ⟨j,by omega,rfl⟩);refine tt ?_;refine AN o (by simp) (tt ?_);refine ⟨by omega,by omega,tt ?_⟩;refine Ac _ o.swap rfl rfl (by simp only [AK]; omega) fun i H o=>tt ?_;refine sw o.swap fun H o=>?_;refine tw w ?_;exact A5 (i,_) Ah ⟨by simp [hI],o⟩ rfl
  ·have Ah:=A9 h2
   have hIk : I.length=k:=by omega
   refine tt ?_;refine B7 3 o rfl rfl fun H o=>?_;have o:=s1 o;refine B7 1 o rfl rfl fun H o=>?_;have o:=s1 o;refine B7 2 o rfl rfl fun H o=>AX ?_;have o:=s1 o;clear h2 Ah hj hI;refine tt ?_
   refine AD [2,4,5] (G:=(Nat × List (List Int))) (fun j g=>[(10,some (.int .i64 (j : Int)))])
    (fun j g H=>g.2.length=j∧(∀ r,r∈g.2→r.length=A.length)∧AB H0 H [(CS,AF.cells 5 [iI k,iL A,iL C,iL I,.buf g.1 g.2.length] 0),(g.1,AF.cells 1 (g.2.map iL) 0),(ES,AF.cells 5 [iI 0,.A1,.A1,.A1,.A1] 0)]) A.length (d,[]) ⟨rfl,by simp,o⟩ rfl ?_
   clear o
   rintro f ⟨d,D⟩ H tg ⟨hD,VH,o⟩;dsimp only at hD VH o;refine tt ?_;refine AN o (by simp) (tt ?_);apply bk <;> intro h2
   ·have Ah:=A7 h2;refine tt ?_;refine Af o fun BW H o=>tt ?_
    refine AD [2,4,5,10] (G:=Nat × List Int) (fun g r=>[(11,some (.buf r.1 r.2.length)),(12,some (.int .i64 (g : Int)))])
     (fun g r H=>r.2.length=g∧AB H0 H [(r.1,AF.cells 1 (r.2.map iI) 0),(CS,AF.cells 5 [iI k,iL A,iL C,iL I,.buf d D.length] 0),(d,AF.cells 1 (D.map iL) 0),(ES,AF.cells 5 [iI 0,.A1,.A1,.A1,.A1] 0)]) A.length (BW,[]) ⟨rfl,o⟩ rfl ?_
    clear o
    rintro g ⟨BW,row⟩ H hg ⟨lT,o⟩
    replace lT : row.length=g:=lT;dsimp only at o;refine tt ?_;refine AN o.tl (by simp) (tt ?_);apply bk <;> intro h3
    ·have BB:=A7 h3
     have w:=ws g;refine tt ?_;refine AN o.tl (by simp) (tt ?_);refine ⟨by omega, ?_⟩;refine AN o.tl (by simp) (tt ?_);refine ⟨by omega,tt ?_⟩
     have hAf:=Mf (A.getD f default) (AE.mpr ⟨f,Ah,rfl⟩)
     have hCg:=aD (C.getD g default) (AE.mpr ⟨g,by omega,rfl⟩)
     have jJ:=iY (ix rows (A.getD f default)) (Bi (by omega));apply bk <;> intro h4
     ·refine tt ?_;refine AN o.tl (by simp) (tt ?_);refine ⟨Ah,⟨by omega,by omega⟩, ?_⟩;refine AN o.tl (by simp) (tt ?_);refine ⟨by omega,⟨by omega,by omega⟩, ?_⟩;refine Ac _ o rfl rfl (by simp only [AK]; omega) fun BW H o=>?_;refine tw w ?_;exact A5 (BW,_) BB ⟨by simp [lT],o⟩ rfl
     ·refine tt ?_;refine Ac _ o rfl rfl (by simp only [AK]; omega) fun BW H o=>?_;refine tw w ?_;exact A5 (BW,_) BB ⟨by simp [lT],o⟩ rfl
    ·have BB:=A9 h3
     have w:=ws f;refine tt ?_;refine Ak o rfl fun H o=>tt ?_;refine AN o (by simp) (tt ?_);refine Ac row o.swap rfl rfl (by simp only [AK]; omega) fun d H o=>tt ?_;refine sw o.swap fun H o=>?_;refine tw w ?_;refine A5 (d,D++[row]) Ah ⟨by simp [hD], ?_,o⟩ rfl
     intro r hr
     rcases List.mem_append.mp hr with h | h
     ·exact VH r h
     ·rw [List.mem_singleton] at h; subst h; omega
   ·have Ah:=A9 h2;refine tt ?_;refine B7 4 o rfl rfl fun H o=>AX ?_;have o:=s1 o;refine tt ?_;refine AZ o (by simp) (tt ?_);refine sw o.swap fun H o=>tt ?_
    have BZ:=o.rc 5 0 (by simp);simp only [List.drop_zero] at BZ;rw [BZ];refine tt ?_
    have nE : D.length=A.length:=by omega
    refine Ce ⟨⟨k,A,C,I,D⟩,rfl,⟨by show (0 : Int)≤(k : Int); omega,by show (k : Int)≤((16 : Nat) : Int); omega⟩,by show (I.length : Int)=k; omega,hA16,hC,nE,fun x hx=>?_⟩ o.sub;exact VH _ (AE.mpr ⟨x,by rw [nE]; exact hx,rfl⟩)
end Go.Proofs.Shf
namespace Go.AW
theorem Ez.inner {α : Type} {f : α→AV} : ∀ (ms : List (Nat × List α)),Ez f (ms.map CQ) (ms.map Prod.snd) (inner f ms)
 | []=>.nil
 | m::ms=>Ez.cons (p:=[(m.1,.cells 1 (m.2.map f) 0)]) (.inr ⟨m.1,rfl,rfl⟩) (Ez.inner ms)
theorem BJ {α : Type} [Inhabited α] {f : α→AV} [One f] {H0 H : AA} {l : Ob} {K : Ap} {id fr n : Nat} {out : List α} (a : α) {v : AV} (h : AB H0 H ((id,.cells 1 (out.map f) fr)::l)) (hv : v=f a) (hn : n=out.length) (hm : out.length+1≤AK)
  (hk : ∀ Ca H' A,A=out++[a]→A.length=out.length+1→AB H0 H' ((Ca,.cells 1 (A.map f) fr)::l)→K (.buf Ca A.length) H') : Ds 1 (some (.buf id n)) (some (.sl [v])) K H :=
 Ac a h hv hn hm fun Ca H' o=>hk Ca H' _ rfl (by simp) o
end Go.AW
namespace Go.Proofs.Shf
open Go.AW Go.Proofs Go.Shf
theorem N4 (B : Nat) (T : List (List Int)) (H0 H : AA) (l : Ob) (o : AB H0 H l) :
  CB B 183 [BD T] H (fun r H'=>∃ d Xs ob,r=.buf d Xs.length∧Ez iI Xs T ob∧AB H0 H' ((d,.cells 1 Xs 0)::(ob++l))):=by
 refine du.go fun ⟨hf,_⟩=>?_
 have hl:=AL hf;simp only [AK] at hl;refine tt ?_;refine Af o fun d H o=>tt ?_
 refine AD [0] (G:=Nat × List (Nat × List Int)) (fun k g=>[(3,some (.buf g.1 g.2.length)),(4,some (.int .i64 (k : Int)))])
  (fun k g H=>g.2.map Prod.snd=T.take k∧AB H0 H ((g.1,AF.cells 1 (g.2.map CQ) 0)::(inner iI g.2++l))) T.length (d,[]) ⟨by simp,o⟩ rfl ?_
 clear o
 rintro k ⟨d,ms⟩ H hk ⟨Jo,o⟩;dsimp only at Jo o
 have Dz : ms.length=k:=by
  have:=congrArg List.length Jo
  simpa [Nat.min_eq_left hk] using this
 refine tt ?_;apply bk <;> intro h1
 ·have AU:=A7 h1
  have w:=ws k;refine tt ?_;refine ⟨AU, ?_⟩;refine (ID B (T.getD k default) H0 H _ o).own fun id A H o hA=>?_;subst hA;refine tt ?_;refine Ac (f:=CQ) (id,T.getD k default) o.swap rfl rfl (by simp only [AK]; omega) fun d H o=>?_;refine tw w ?_;refine A5 (d,ms++[(id,T.getD k default)]) AU ⟨by rw [List.map_append,Jo,D8 T AU]; rfl, ?_⟩ rfl;refine o.perm (.cons _ ?_);simp only [inner,List.map_append,List.map_cons,List.map_nil,List.append_assoc,List.cons_append,List.nil_append];exact List.perm_middle.symm
 ·have AU:=A9 h1
  obtain rfl : k=T.length:=by omega
  rw [List.take_length] at Jo;refine tt ?_;refine ⟨H,.refl H,d,ms.map CQ,inner iI ms,by simp, ?_,o⟩;rw [← Jo]; exact Ez.inner ms
theorem IX.go' {P : Program} {B : Nat} {fn : FuncId} {args : List AV} {O : Ob→AV→Prop} {H0 H : AA} {l : Ob} {K : Ap} (h : IX P B fn args O) (o : AB H0 H l) (hk : ∀ r p H',O p r→AB H0 H' (p++l)→H.sub H'→K r H') : BG P B fn args H K :=
 (h.run H).mono fun r H' ⟨p,q1,q2⟩=>hk r p H' q1 (o.trans q2) q2.sub
def OLb (l : List Int) (p : Ob) (X : AV) : Prop:=∃ id,X=.buf id l.length∧p=[(id,.cells 1 (l.map iI) 0)]
theorem FA (B : Nat) (l : List Int) : IX Tryz.prog B 84 [iL l] (OLb l) :=
 ⟨fun H=>(ID B l H H [] (.nil H)).mono fun r H' ⟨id,A,e,o,q⟩=>by
  subst e q;exact ⟨_,⟨id,rfl,rfl⟩,o⟩⟩
def OLLb (T : List (List Int)) (p : Ob) (X : AV) : Prop:=∃ d Xs ob,X=.buf d Xs.length∧Ez iI Xs T ob∧p=(d,.cells 1 Xs 0)::ob
theorem Iq (B : Nat) (T : List (List Int)) : IX Tryz.prog B 183 [BD T] (OLLb T) :=
 ⟨fun H=>(N4 B T H H [] (.nil H)).mono fun r H' ⟨d,Xs,ob,e,h,o⟩=>by
  rw [List.append_nil] at o;exact ⟨_,⟨d,Xs,ob,e,h,rfl⟩,o⟩⟩
def OCb (c : B0) (p : Ob) (X : AV) : Prop:=∃ a b i d Xs ob,X=.agg [iI c.AR,.buf a c.AH.length,.buf b c.to.length,.buf i c.Aw.length,.buf d Xs.length]∧Ez iI Xs c.comp ob ∧
 p=(a,.cells 1 (c.AH.map iI) 0)::(b,.cells 1 (c.to.map iI) 0)::(i,.cells 1 (c.Aw.map iI) 0)::(d,.cells 1 Xs 0)::ob
theorem Nh (B : Nat) (c : B0) : IX Tryz.prog B 144 [.agg c.cells] (OCb c):=by
 refine ⟨fun H0=>bo.go fun _=>tt ?_⟩;refine Am (.nil _) fun id H o=>tt ?_;refine IX.go' (FA B c.AH) o fun X1 p1 H ⟨a,e1,e2⟩ o hs=>⟨hs, ?_⟩;subst e1 e2;refine tt ?_;refine IX.go' (FA B c.to) o fun X1 p1 H ⟨b,e1,e2⟩ o hs=>⟨hs, ?_⟩;subst e1 e2;refine tt ?_;refine IX.go' (FA B c.Aw) o fun X1 p1 H ⟨i,e1,e2⟩ o hs=>⟨hs, ?_⟩;subst e1 e2;refine tt ?_;refine IX.go' (Iq B c.comp) o fun X1 p1 H ⟨d,Xs,ob,e1,h,e2⟩ o hs=>⟨hs, ?_⟩;subst e1 e2;refine tt ?_
 have o : AB H0 H ((id,AF.cells 5 [iI 0,.A1,.A1,.A1,.A1] 0)::(a,AF.cells 1 (c.AH.map iI) 0)::(b,AF.cells 1 (c.to.map iI) 0)::(i,AF.cells 1 (c.Aw.map iI) 0)::(d,AF.cells 1 Xs 0)::ob):=o.pm;refine sw o fun H o=>tt ?_
 have hr:=o.rc 5 0 (by simp);simp only [List.drop_zero] at hr;rw [hr];exact ⟨H,.refl H,_,⟨a,b,i,d,Xs,ob,rfl,h,rfl⟩,o.tl⟩
end Go.Proofs.Shf
