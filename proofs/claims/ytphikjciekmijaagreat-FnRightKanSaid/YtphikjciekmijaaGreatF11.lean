/- A part of a proof. -/
import Derived.Test.YtphikjciekmijaaGreatF10
set_option linter.unusedVariables false
set_option linter.unusedSimpArgs false
set_option linter.unusedSectionVars false
set_option maxRecDepth 100000
open Nat (reduceEqDiff reduceAdd reduceMul reduceLeDiff reduceLT)
namespace Go.Shf
open Go.AW
section
variable {f : SF} {V : List (List Int)}
theorem Vz {p q : List (List Int)} {x e : Int} (hx : 0≤x∧x.toNat<p.length) (he : 0≤e∧e.toNat<(ix p x).length) : ix (ix (thenS p q) x) e=ix (ix q x) (ix (ix p x) e):=by
 have Xu : e.toNat<(p.getD x.toNat default).length:=he.2;rw [ix,ix,thenS,Ab _ _ hx.2,BC _ Xu]; rfl
theorem Dm.then {g k : SF} {p q : List (List Int)} (m : Dm f g p) (n : Dm g k q) (e : f.shape=g.shape) (hf : f.Shape) : Dm f k (thenS p q):=by
 have hl:=m.len
 have hln : ∀ x : Int,0≤x∧x<f.shape.AF→(ix (thenS p q) x).length=(ix p x).length:=fun x hx=>by rw [ix,thenS,Ab _ _ (by omega),List.length_map]; rfl
 have GX : ∀ x : Int,0≤x∧x<f.shape.AF→∀ y : Int,0≤y∧y<ix f.A1 x→ix (ix (thenS p q) x) y=ix (ix q x) (ix (ix p x) y):=fun x hx y hy=>Vz (by omega) (by have:=(m.pl x hx).1; omega);refine ⟨by simp [thenS]; exact hl,fun x hx=>⟨by rw [hln x hx]; exact (m.pl x hx).1,fun y hy=>?_⟩,fun b hb y hy=>?_⟩
 ·rw [GX x hx y hy];exact (n.pl x (by rw [← e]; exact hx)).2 _ ((m.pl x hx).2 y hy)
 ·have xw:=hf.is.1.C3 hb.2
  have Nx:=hf.is.1.DJ hb.2
  have hr:=bQ hf hb rfl hy;rw [GX _ Nx _ hr,GX _ xw _ hy,m.nl b hb y hy]
  have:=n.nl b (by rw [← e]; exact hb) (ix (ix p (ix f.shape.AB b)) y) (by rw [← e]; exact (m.pl _ xw).2 y hy);rw [← e] at this;exact this
end
end Go.Shf
namespace Go.AW
open Go.Proofs Go.Shf Go.Proofs.Shf
theorem RC.Lm {P : Program} {B : Nat} {f : FuncId} {args : List AV} {r r' : AV} (h : RC P B f args r) (hw : ∀ g v,Aa g r v→Aa g r' v) : RC P B f args r':=by
 refine ⟨fun H=>⟨(h.run H).1,fun g w vs hW hv=>?_⟩⟩;refine ((h.run H).2 g w vs hW hv).mono fun e w' ⟨v,he,g',r2,H',q1,⟨q2,q3⟩,q4,q5,q6⟩=>?_;subst q2 q3;exact ⟨v,he,g',r',H',q1,⟨rfl,rfl⟩,hw _ _ q4,q5,q6⟩
end Go.AW
namespace Go.Proofs.Shf
open Go.AW Go.Proofs Go.Shf
def MB (a b : AV) : Prop:=∀ g v,Aa g a v→Aa g b v
theorem MB.refl (a : AV) : MB a a:=fun _ _ h=>h
theorem MB.nil : MB .A0 (.sl []):=fun g v h=>by cases h; exact .slnil none 0
inductive cO : List AV→List AV→Prop
 | nil : cO [] []
 | cons {a b : AV} {r s : List AV} (h : MB a b) (t : cO r s) : cO (a::r) (b::s)
theorem cO.get {r s : List AV} (h : cO r s) : r.length=s.length∧∀ i,i<r.length→MB (r.getD i nv) (s.getD i nv):=by
 induction h with
 | nil=>exact ⟨rfl,fun i hi=>by simp at hi⟩
 | cons h _ ih =>
  refine ⟨by simp [ih.1],fun i hi=>?_⟩
  cases i with
  | zero=>simpa using h
  | succ i=>simpa using ih.2 i (by simpa using hi)
theorem MB.agg {r s : List AV} (h : cO r s) : MB (.agg r) (.agg s):=fun g v hv=>by
 obtain ⟨hl,h⟩:=h.get
 cases hv with
 | agg _ vs hs hv=>exact .agg s vs (by omega) fun i hi=>h i (by omega) g _ (hv i (by omega))
theorem MB.CQ {r s : List AV} (h : cO r s) : MB (.CQ r) (.CQ s):=fun g v hv=>by
 obtain ⟨hl,h⟩:=h.get
 cases hv with
 | CQ _ vs hs hv=>exact .CQ s vs (by omega) fun i hi=>h i (by omega) g _ (hv i (by omega))
theorem Lr : cO [.int .i64 0,.A0,.A0,.A0,.A0,.A0,.A0,.int .i64 0,.A0,.A0,.A0,.A0,.A0,.A0,.A0] (SM.cells rG) :=
 .cons (.refl _) (.cons .nil (.cons .nil (.cons .nil (.cons .nil (.cons .nil (.cons .nil (.cons (.refl _) (.cons .nil (.cons .nil (.cons .nil (.cons .nil (.cons .nil (.cons .nil (.cons .nil .nil))))))))))))))
theorem MB.code {r s : List AV} {c : AV} (h : cO r s) : MB (.CQ [.agg r,c]) (.CQ [.agg s,c]):=.CQ (.cons (.agg h) (.cons (.refl _) .nil))
end Go.Proofs.Shf
namespace Go.Shf
open Go.AW Go.Proofs.Shf
theorem SM.Is.cI {m : SM} (h : m.Is) : Dm m.src m.AL m.parts:=by
 have hs:=h.s.1
 have hp:=h.p
 have Im:=hs.sl;refine ⟨by rw [hp.1]; exact Im,fun x hx=>?_,fun b hb e he=>?_⟩
 ·have:=hp.2 x.toNat (by rw [hp.1]; omega);simp only [Mg] at this;simp only [ix];exact ⟨this.1,fun e he=>this.2 _ (AE.mpr ⟨e.toNat,by omega,rfl⟩)⟩
 ·have Tc:=hs.al
  have ha:=(hs.act b.toNat (by omega)).1
  have hn:=h.n b.toNat (by omega) e.toNat (by simp only [ix] at he ha ⊢; omega);simp only [Oy] at hn;exact hn
def Bb : List AV:=[.int .i64 0,.A0,.A0,.A0,.A0,.A0,.A0,.int .i64 0,.A0,.A0,.A0,.A0,.A0,.A0,.A0]
end Go.Shf
namespace Go.Proofs.Shf
open Go.AW Go.Proofs Go.Shf
theorem JX {f g : SF} : f=g↔f.shape=g.shape∧f.A1=g.A1∧f.AJ=g.AJ:=by
 constructor
 ·rintro rfl; exact ⟨rfl,rfl,rfl⟩
 ·rintro ⟨h1,h2,h3⟩
  cases f; cases g;simp only at h1 h2 h3;subst h1 h2 h3; rfl
theorem JG (B : Nat) (f g : SF) : PB B 141 [.agg f.cells,.agg g.cells] (.bool (dec (f=g))):=by
 refine ⟨fun H0=>su.go fun _=>tt ?_⟩;refine (Da B f.shape g.shape).go fun _=>?_
 by_cases h1 : f.shape=g.shape
 rotate_left
 ·rw [Ad h1];refine tt ?_;exact A5 (congrArg AV.bool (Ad fun q=>h1 (JX.mp q).1).symm) (.refl _)
 rw [Av h1];refine tt ?_;refine (D7 B f.A1 g.A1).go fun _=>?_
 by_cases h2 : f.A1=g.A1
 rotate_left
 ·rw [Ad h2];refine tt ?_;exact A5 (congrArg AV.bool (Ad fun q=>h2 (JX.mp q).2.1).symm) (.refl _)
 rw [Av h2];refine tt ?_;refine (LG B f.AJ g.AJ).go fun _=>tt ?_;exact A5 (congrArg AV.bool (BJ ⟨fun h3=>JX.mpr ⟨h1,h2,h3⟩,fun q=>(JX.mp q).2.2⟩)) (.refl _)
open Classical in
noncomputable def Cb (k : FU) (f : SF) (c : Ax) : Int:=if k.Is∧f.Is then (if f.shape=c then 0 else 5) else 1
open Classical in
noncomputable def Cv (k : FU) (g : SF) (m : SM) : Int:=if k.Is∧g.Is∧m.Is then (if g.shape=k.AL∧m.src.shape=k.src then 0 else 5) else 1
theorem Tn (B : Nat) (k : FU) (f : SF) (c : Ax) : PB B 235 [.agg k.cells,.agg f.cells,.agg c.cells] (iI (Cb k f c)):=by
 refine ⟨fun H0=>oi.go fun _=>tt ?_⟩;refine (GU B k).go fun _=>?_
 by_cases hk : k.Is
 rotate_left
 ·rw [Ad hk];refine tt ?_;exact A5 (by rw [Cb,if_neg fun q=>hk q.1]) (.refl _)
 rw [Av hk];refine tt ?_;refine (Hz B f).go fun _=>?_
 by_cases hf : f.Is
 rotate_left
 ·rw [Ad hf];refine tt ?_;exact A5 (by rw [Cb,if_neg fun q=>hf q.2]) (.refl _)
 rw [Av hf];refine tt ?_;refine (Da B f.shape c).go fun _=>?_
 by_cases e : f.shape=c
 ·rw [Av e];refine tt ?_;exact A5 (by rw [Cb,if_pos ⟨hk,hf⟩,if_pos e]) (.refl _)
 ·rw [Ad e];refine tt ?_;exact A5 (by rw [Cb,if_pos ⟨hk,hf⟩,if_neg e]) (.refl _)
theorem Gu (B : Nat) (k : FU) (g : SF) (m : SM) : PB B 140 [.agg k.cells,.agg g.cells,.agg m.cells] (iI (Cv k g m)):=by
 refine ⟨fun H0=>oj.go fun _=>tt ?_⟩;refine (GU B k).go fun _=>?_
 by_cases hk : k.Is
 rotate_left
 ·rw [Ad hk];refine tt ?_;exact A5 (by rw [Cv,if_neg fun q=>hk q.1]) (.refl _)
 rw [Av hk];refine tt ?_;refine (Hz B g).go fun _=>?_
 by_cases hf : g.Is
 rotate_left
 ·rw [Ad hf];refine tt ?_;exact A5 (by rw [Cv,if_neg fun q=>hf q.2.1]) (.refl _)
 rw [Av hf];refine tt ?_;refine (Fw B m).go fun _=>?_
 by_cases hm : m.Is
 rotate_left
 ·rw [Ad hm];refine tt ?_;exact A5 (by rw [Cv,if_neg fun q=>hm q.2.2]) (.refl _)
 rw [Av hm];refine tt ?_;refine (Da B g.shape k.AL).go fun _=>?_
 by_cases e : g.shape=k.AL
 rotate_left
 ·rw [Ad e];refine tt ?_;exact A5 (by rw [Cv,if_pos ⟨hk,hf,hm⟩,if_neg fun q=>e q.1]) (.refl _)
 rw [Av e];refine tt ?_;refine (Da B m.src.shape k.src).go fun _=>?_
 by_cases e2 : m.src.shape=k.src
 ·rw [Av e2];refine tt ?_;exact A5 (by rw [Cv,if_pos ⟨hk,hf,hm⟩,if_pos ⟨e,e2⟩]) (.refl _)
 ·rw [Ad e2];refine tt ?_;exact A5 (by rw [Cv,if_pos ⟨hk,hf,hm⟩,if_neg fun q=>e2 q.2]) (.refl _)
theorem NF {m : SM} (hm : m.Is) : (m.parts.length : Int)=m.src.shape.AF:=by
 have h1:=hm.s.1.sl
 have h2:=hm.p.1;omega
theorem Wh (B : Nat) {k : FU} {m : SM} (hk : k.Is) (hm : m.Is) (e : k.AL=m.src.shape) : PB B 155 [.agg k.cells,.agg m.cells] (.agg (Y9 k m).cells):=by
 refine ⟨fun H0=>wH.go fun _=>?_⟩
 have so:=hk.sI.1.o
 have ol:=hk.fit.ol
 have hs:=hm.s
 have ht:=hm.t
 have he:=hm.eq
 have mp:=NF hm;rw [← e] at mp
 have o : A9 H0 H0 []:=.nil _;refine tt ?_;refine nb o fun B1 H o=>tt ?_;refine AP o fun b5 H o=>?_
 have o : A9 H0 H [(b5,.cells 1 (((k.ob.take 0).map (ix m.parts)).map iL) 0),(B1,.cells 15 Bb 0)]:=o;refine tt ?_;refine AD [2,3,4] (G:=Nat) (fun n b=>[(5,some (.buf b n)),(6,some (.int .i64 (n : Int)))]) (fun n b H=>A9 H0 H [(b,.cells 1 (((k.ob.take n).map (ix m.parts)).map iL) 0),(B1,.cells 15 Bb 0)]) k.ob.length b5 o rfl ?_;clear o
 rintro n b5 H hn o
 replace o : A9 H0 H [(b5,.cells 1 (((k.ob.take n).map (ix m.parts)).map iL) 0),(B1,.cells 15 Bb 0)]:=o;refine tt ?_;apply bk <;> intro h1
 ·have AU:=A6 h1
  have w:=ws n
  have hy:=hk.fit.gS _ (AE.mpr ⟨n,AU,rfl⟩)
  have V3 : 0≤k.ob.getD n default∧(k.ob.getD n default).toNat<m.parts.length:=⟨hy.1,by omega⟩
  have hl : ((k.ob.take n).map (ix m.parts)).length=n:=by rw [List.length_map,List.length_take]; omega
  refine tt ?_;refine ⟨AU,V3, ?_⟩;refine Ae (f:=iL) (ix m.parts (k.ob.getD n default)) o rfl hl.symm (by rw [hl]; simp only [AN]; omega) fun b5 H o=>?_
  have et : ((k.ob.take (n+1)).map (ix m.parts))=((k.ob.take n).map (ix m.parts))++[ix m.parts (k.ob.getD n default)]:=by rw [Ar _ AU,List.map_append]; rfl
  have Ce : ((k.ob.take (n+1)).map (ix m.parts)).length=n+1:=by rw [List.length_map,List.length_take]; omega
  rw [← et] at o ⊢;rw [Ce];refine tw w ?_;exact A4 b5 AU o rfl
 have AU:=A7 h1
 obtain rfl : n=k.ob.length:=by omega
 have oU : k.ob.take k.ob.length=k.ob:=List.take_length;rw [oU] at o;refine tt ?_;refine Am (f:=iL) o (by simp) fun H o=>tt ?_;refine ⟨_,(Dd B hk hs e).run,tt ?_⟩;refine ⟨_,(Dd B hk ht (e.trans he)).run,tt ?_⟩;refine ⟨_,(F3 B _ _ _).run,tt ?_⟩;refine AS o (by simp [Bb]) (by (try simp only [go_sem]); (try simp)) (by first | (simp only [go_sem]; done) | ((try simp only [go_sem]); simp [AV.one,Ay])) fun H o=>?_;unfold Bb at o;have o:=s2 o;refine tt ?_;rw [o.rc 15 0 (by simp)];refine tt ?_;exact A5 rfl o.sub
open Classical in
noncomputable def Ec (k : FU) (m : SM) : Int:=if k.Is∧m.Is then (if m.src.shape=k.AL then 0 else 5) else 1
open Classical in
noncomputable def aH (k : FU) (m : SM) : AV:=.CQ [.agg (if Ec k m=0 then Y9 k m else rG).cells,iI (Ec k m)]
theorem Pv (B : Nat) (k : FU) (m : SM) : PB B 47 [.agg k.cells,.agg m.cells] (aH k m):=by
 by_cases aN : k.Is∧m.Is
 ·obtain ⟨hk,hm⟩:=aN
  by_cases e : m.src.shape=k.AL
  ·have hc : Ec k m=0:=by rw [Ec,if_pos ⟨hk,hm⟩,if_pos e]
   rw [aH,if_pos hc,hc];refine ⟨fun H0=>iN.go fun _=>?_⟩
   have o : A9 H0 H0 []:=.nil _;refine tt ?_;refine nb o fun B1 H o=>tt ?_;refine (GU B k).go fun _=>?_;rw [Av hk];refine tt ?_;refine (Fw B m).go fun _=>?_;rw [Av hm];refine tt ?_;refine (Da B m.src.shape k.AL).go fun _=>?_;rw [Av e];refine tt ?_;refine (Wh B hk hm e.symm).go fun _=>tt ?_;refine sw o fun H o=>tt ?_;rw [o.rc 15 0 (by simp)];refine tt ?_;exact A5 rfl o.sub
  ·have hc : Ec k m=5:=by rw [Ec,if_pos ⟨hk,hm⟩,if_neg e]
   rw [aH,hc,if_neg (by decide)];refine RC.Lm (r:=.CQ [.agg Bb,iI 5]) ⟨fun H0=>iN.go fun _=>?_⟩ (MB.code Lr)
   have o : A9 H0 H0 []:=.nil _;refine tt ?_;refine nb o fun B1 H o=>tt ?_;refine (GU B k).go fun _=>?_;rw [Av hk];refine tt ?_;refine (Fw B m).go fun _=>?_;rw [Av hm];refine tt ?_;refine (Da B m.src.shape k.AL).go fun _=>?_;rw [Ad e];refine tt ?_;refine sw o fun H o=>tt ?_;rw [o.rc 15 0 (by simp)];refine tt ?_;exact A5 rfl o.sub
 ·have hc : Ec k m=1:=by rw [Ec,if_neg aN]
  rw [aH,hc,if_neg (by decide)];refine RC.Lm (r:=.CQ [.agg Bb,iI 1]) ⟨fun H0=>iN.go fun _=>?_⟩ (MB.code Lr)
  have o : A9 H0 H0 []:=.nil _;refine tt ?_;refine nb o fun B1 H o=>tt ?_;refine (GU B k).go fun _=>?_
  by_cases hk : k.Is
  case' pos =>
   rw [Av hk];refine tt ?_;refine (Fw B m).go fun _=>?_;rw [Ad fun hm=>aN ⟨hk,hm⟩];refine tt ?_
  case' neg =>
   rw [Ad hk];refine tt ?_
  all_goals
   refine sw o fun H o=>tt ?_;rw [o.rc 15 0 (by simp)];refine tt ?_;exact A5 rfl o.sub
noncomputable def CK (k : FU) (f : SF) : List AV:=rC k.AL (iL (Bl k f).A1) (B5 (Bl k f).AJ) (BE (BR k k.AL.AF.toNat)) (BE (Bi k f k.AL.AF.toNat)) true
open Classical in
noncomputable def Cw (k : FU) (f : SF) : Int:=if Cb k f k.src=0 then (if G8 k f then 0 else 3) else Cb k f k.src
open Classical in
noncomputable def YL (k : FU) (f : SF) : AV:=.CQ [.agg (if Cw k f=0 then CK k f else HW),iI (Cw k f)]
theorem Qk {k : FU} {f : SF} {c : Ax} (h : Cb k f c=0) : k.Is∧f.Is∧f.shape=c:=by
 unfold Cb at h
 split at h
 ·rename_i h1
  split at h
  ·rename_i h2; exact ⟨h1.1,h1.2,h2⟩
  ·omega
 ·omega
theorem dA {k : FU} {f : SF} (h : Cw k f=0) : k.Is∧f.Is∧f.shape=k.src∧G8 k f:=by
 unfold Cw at h
 split at h
 ·rename_i h1
  have:=Qk h1
  split at h
  ·rename_i h2; exact ⟨this.1,this.2.1,this.2.2,h2⟩
  ·omega
 ·rename_i h1; exact absurd h h1
theorem HC (B : Nat) (k : FU) (f : SF) : Dt B 149 [.agg k.cells,.agg f.cells] (fun r=>r=YL k f):=by
 intro H0;refine kq.go fun _=>?_
 have o : A9 H0 H0 []:=.nil _;refine tt ?_;refine nb o fun B1 H o=>tt ?_;refine (Tn B k f k.src).go fun _=>?_
 by_cases h0 : Cb k f k.src=0
 rotate_left
 ·have hc : Cw k f=Cb k f k.src:=by rw [Cw,if_neg h0]
  have hr : YL k f=.CQ [.agg HW,iI (Cb k f k.src)]:=by rw [YL,hc,if_neg h0]
  rw [hr]
  generalize Cb k f k.src=cd at h0;refine tt ?_;rw [decide_eq_false h0];refine tt ?_;refine sw o fun H o=>tt ?_;rw [o.rc 10 0 (by simp)];refine tt ?_;exact B0 rfl o.sub
 obtain ⟨hk,hf,sh⟩:=Qk h0;rw [h0];refine td ?_;refine (Hs B hk hf sh).go fun r _ ⟨hy,hn⟩=>?_
 by_cases fit : G8 k f
 ·have hc : Cw k f=0:=by rw [Cw,if_pos h0,if_pos fit]
  have hr : YL k f=.CQ [.agg (CK k f),iI 0]:=by rw [YL,if_pos hc,hc]
  rw [hr,hy fit];refine tt ?_;refine nb o fun CT H o=>tt ?_;refine AS o (by simp) rfl (H6 rfl rfl rfl rfl) fun H o=>?_
  have o : A9 H0 H [(CT,.cells 10 (CK k f) 0),(B1,.cells 10 HW 0)]:=o;refine tt ?_;refine AH o (by simp [CK,rC]) ?_
  have e9 : (CK k f).getD 9 nv=.bool true:=rfl;refine tw e9 ?_;refine AO o (by simp [CK,rC]) ?_;rw [show ((CK k f).drop 0).take 10=CK k f from rfl];refine tt ?_;refine AS o.swap (by simp [HW]) rfl (H6 rfl rfl rfl rfl) fun H o=>?_;rw [show wr HW 0 (CK k f)=CK k f from rfl] at o;refine tt ?_;rw [o.rc 10 0 (by simp [CK,rC])];refine tt ?_;exact B0 rfl o.sub
 ·have hc : Cw k f=3:=by rw [Cw,if_pos h0,if_neg fit]
  have hr : YL k f=.CQ [.agg HW,iI 3]:=by rw [YL,hc,if_neg (by decide)]
  obtain ⟨Z,A,S,L,e⟩:=hn fit;rw [hr,e];refine tt ?_;refine nb o fun CT H o=>tt ?_;refine AS o (by simp) rfl (H6 rfl rfl rfl rfl) fun H o=>?_
  have o : A9 H0 H [(CT,.cells 10 (rC k.AL (iL Z) (B5 A) (BE S) (BE L) false) 0),(B1,.cells 10 HW 0)]:=o;refine tt ?_;refine AH o (by simp [rC]) ?_
  have e9 : (rC k.AL (iL Z) (B5 A) (BE S) (BE L) false).getD 9 nv=.bool false:=rfl;refine tw e9 ?_;refine AS o.swap (by simp [HW]) (by (try simp only [go_sem]); (try simp)) (by first | (simp only [go_sem]; done) | ((try simp only [go_sem]); simp [AV.one,Ay])) fun H o=>?_
  have o : A9 H0 H [(B1,.cells 10 HW 0),(CT,.cells 10 (rC k.AL (iL Z) (B5 A) (BE S) (BE L) false) 0)]:=o;refine tt ?_;rw [o.rc 10 0 (by simp [HW])];refine tt ?_;exact B0 rfl o.sub
theorem YX (k : FU) (f : SF) {y : Int} (hy : k.AL.ES y) : (0≤y∧y.toNat<(Bi k f k.AL.AF.toNat).length)∧ix (Bi k f k.AL.AF.toNat) y=Ap k f y:=by
 have h1:=hy.1
 have h2 : y.toNat<k.AL.AF.toNat:=by have:=hy.2; omega
 refine ⟨⟨h1,by simpa [Bi] using h2⟩, ?_⟩;rw [ix,Bi,Ab _ _ h2,Int.toNat_of_nonneg h1]
theorem YS (k : FU) {y : Int} (hy : k.AL.ES y) : (0≤y∧y.toNat<(BR k k.AL.AF.toNat).length)∧ix (BR k k.AL.AF.toNat) y=AK k y:=by
 have h1:=hy.1
 have h2 : y.toNat<k.AL.AF.toNat:=by have:=hy.2; omega
 refine ⟨⟨h1,by simpa [BR] using h2⟩, ?_⟩;rw [ix,BR,Ab _ _ h2,Int.toNat_of_nonneg h1]
theorem Vv {k : FU} (hk : k.Is) {x : Int} (hx : k.src.ES x) : DN k (ix k.ob x) [x,ix k.AL.Ac (ix k.ob x)]:=by
 have hy : k.AL.ES (ix k.ob x):=(hk.JD hx).2
 have id:=hk.tI.1.HJ hy;exact ⟨rfl,hx,id.1,id.2.1,id.2.2⟩
theorem QC (B : Nat) {k : FU} {f : SF} (hk : k.Is) (hf : f.Is) (sh : f.shape=k.src) (fit : G8 k f) : PB B 150 [.agg k.cells,.agg (CK k f)] (B5 (BX k f)):=by
 refine ⟨fun H0=>qB.go fun _=>?_⟩
 have so:=hk.sI.1.o
 have o : A9 H0 H0 []:=.nil _
 have f7 : ((CK k f).getD 7 nv)=BE (BR k k.AL.AF.toNat):=rfl
 have f8 : ((CK k f).getD 8 nv)=BE (Bi k f k.AL.AF.toNat):=rfl;unfold CK rC;refine tt ?_;refine AP o fun b5 H o=>?_
 have o : A9 H0 H [(b5,.cells 1 (((BX k f).take 0).map iL) 0)]:=o;refine tt ?_
 have RG : (BX k f).length=k.src.AF.toNat:=by simp [BX]
 refine AD [2,3] (G:=Nat) (fun n b=>[(5,some (.buf b n)),(6,some (.int .i64 (n : Int)))]) (fun n b H=>A9 H0 H [(b,.cells 1 (((BX k f).take n).map iL) 0)]) k.src.AF.toNat b5 o rfl ?_;clear o
 rintro n b5 H hn o
 replace o : A9 H0 H [(b5,.cells 1 (((BX k f).take n).map iL) 0)]:=o;refine tt ?_;apply bk <;> intro h1
 rotate_left
 ·have AU:=A7 h1
  have e : (BX k f).take n=BX k f:=List.take_of_length_le (by omega);rw [e] at o;refine tt ?_;refine Am (f:=iL) o (by omega) fun H o=>tt ?_;exact A5 rfl o.sub
 have AU:=A6 h1
 have w:=ws n
 have W8 : k.src.ES n:=⟨by omega,AU⟩
 have xo:=hk.JD W8
 have xo1 : n<k.ob.length:=by have:=xo.1; simpa using this
 have L9 : k.AL.ES (ix k.ob n):=xo.2
 have Sy:=YS k L9
 have Ly:=YX k f L9
 have mZ:=hk.tI.1.mZ L9
 have ids:=BO (Vv hk W8).mem;refine tt ?_;refine ⟨xo1,tt ?_⟩;refine ⟨Sy.1,mZ, ?_⟩;rw [show ix (BR k k.AL.AF.toNat) (k.ob.getD n default)=AK k (ix k.ob n) from Sy.2];refine ⟨_,(F8 B (AK k (ix k.ob n)) [(n : Int),ix k.AL.Ac (ix k.ob n)]).run, ?_⟩
 obtain ⟨at',GX⟩ : ∃ a,indexOf (AK k (ix k.ob n)) [(n : Int),ix k.AL.Ac (ix k.ob n)]=a:=⟨_,rfl⟩;rw [GX] at ids ⊢
 have hcp : HL k f n=(Ap k f (ix k.ob n)).map fun t=>ix t at':=by rw [← GX]; rfl
 refine tt ?_;refine AP o fun b9 H o=>?_
 have o : A9 H0 H [(b9,.cells 1 ((((Ap k f (ix k.ob n)).take 0).map fun t=>ix t at').map iI) 0),(b5,.cells 1 (((BX k f).take n).map iL) 0)]:=o;refine tt ?_
 have TY:=(fit _ L9).2;refine AD [2,3,5,6,7,8] (G:=Nat) (fun i b=>[(9,some (.buf b i)),(10,some (.int .i64 (i : Int)))]) (fun i b H=>A9 H0 H [(b,.cells 1 ((((Ap k f (ix k.ob n)).take i).map fun t=>ix t at').map iI) 0),(b5,.cells 1 (((BX k f).take n).map iL) 0)]) (Ap k f (ix k.ob n)).length b9 o rfl ?_;clear o
 rintro i b9 H hi o
 replace o : A9 H0 H [(b9,.cells 1 ((((Ap k f (ix k.ob n)).take i).map fun t=>ix t at').map iI) 0),(b5,.cells 1 (((BX k f).take n).map iL) 0)]:=o;refine tt ?_;refine ⟨Ly.1, ?_⟩;rw [show ix (Bi k f k.AL.AF.toNat) (k.ob.getD n default)=Ap k f (ix k.ob n) from Ly.2]
 have TJ : (((Ap k f (ix k.ob n)).take i).map fun t=>ix t at').length=i:=by rw [List.length_map,List.length_take]; omega
 apply bk <;> intro h2
 ·have Aq:=A6 h2
  have w2:=ws i
  obtain ⟨t,ht⟩ : ∃ t,(Ap k f (ix k.ob n)).getD i default=t:=⟨_,rfl⟩
  have Jc : t.length=(AK k (ix k.ob n)).length:=GH hk hf sh (by rw [← ht]; exact AE.mpr ⟨i,Aq,rfl⟩);refine tt ?_;refine ⟨Ly.1, ?_⟩;rw [show ix (Bi k f k.AL.AF.toNat) (k.ob.getD n default)=Ap k f (ix k.ob n) from Ly.2];refine ⟨Aq, ?_⟩;rw [ht];refine ⟨⟨ids.1,by rw [Jc]; exact ids.2.1⟩, ?_⟩;refine Ae (ix t at') o rfl TJ.symm (by rw [TJ]; simp only [AN]; omega) fun b9 H o=>?_
  have et : (((Ap k f (ix k.ob n)).take (i+1)).map fun t=>ix t at')=(((Ap k f (ix k.ob n)).take i).map fun t=>ix t at')++[ix t at']:=by rw [Ar _ Aq,List.map_append,ht]; rfl
  have Ce : (((Ap k f (ix k.ob n)).take (i+1)).map fun t=>ix t at').length=i+1:=by rw [List.length_map,List.length_take]; omega
  rw [← et] at o ⊢;rw [Ce];refine tw w2 ?_;exact A4 b9 Aq o rfl
 ·have Aq:=A7 h2
  have e : (Ap k f (ix k.ob n)).take i=Ap k f (ix k.ob n):=List.take_of_length_le (by omega);rw [e] at o TJ;rw [← hcp] at o TJ
  have Ga : ((BX k f).take n).length=n:=by rw [List.length_take]; omega
  refine tt ?_;refine Am (f:=iI) o TJ.symm fun H o=>tt ?_;refine Ae (f:=iL) (HL k f n) o rfl Ga.symm (by rw [Ga]; simp only [AN]; omega) fun b5 H o=>?_
  have et:=Ar (BX k f) (k:=n) (by omega);rw [show (BX k f).getD n default=HL k f n by rw [BX,Ab _ _ (by omega)]] at et
  have Ce : ((BX k f).take (n+1)).length=n+1:=by rw [List.length_take]; omega
  rw [← et] at o ⊢;rw [Ce];refine tw w ?_;exact A4 b5 (by omega) o rfl
open Classical in
noncomputable def bO (k : FU) (f : SF) : AV:=.CQ [.agg (if Cw k f=0 then V8 k f else rG).cells,iI (Cw k f)]
theorem Lb (B : Nat) (k : FU) (f : SF) : PB B 45 [.agg k.cells,.agg f.cells] (bO k f):=by
 by_cases hc : Cw k f=0
 ·obtain ⟨hk,hf,sh,fit⟩:=dA hc
  have hr : YL k f=.CQ [.agg (CK k f),iI 0]:=by rw [YL,if_pos hc,hc]
  have hs:=M9 hk hf sh fit;rw [bO,if_pos hc,hc];refine ⟨fun H0=>sG.go fun _=>?_⟩
  have o : A9 H0 H0 []:=.nil _;refine tt ?_;refine nb o fun B1 H o=>tt ?_;refine (HC B k f).go fun r _ e=>?_;rw [hr] at e;subst e;refine tt ?_;refine nb o fun Ba H o=>tt ?_;refine AS o (by simp) rfl (H6 rfl rfl rfl rfl) fun H o=>?_
  have o : A9 H0 H [(Ba,.cells 10 (CK k f) 0),(B1,.cells 15 Bb 0)]:=o;refine tt ?_;refine Ca 6 o rfl fun H o=>AX ?_;unfold CK rC;refine td ?_;refine ⟨_,(Dd B (g:=Bl k f) hk hs rfl).run,tt ?_⟩;refine ⟨_,(show HG Tryz.prog B 150 [.agg k.cells,.agg (CK k f)] _ from (QC B hk hf sh fit).run),tt ?_⟩;refine ⟨_,(F3 B _ _ _).run,tt ?_⟩;refine AS o (by simp [Bb]) (by (try simp only [go_sem]); (try simp)) (by first | (simp only [go_sem]; done) | ((try simp only [go_sem]); simp [AV.one,Ay])) fun H o=>?_;unfold Bb at o;have o:=s2 o;refine tt ?_;rw [o.rc 15 0 (by simp)];refine tt ?_;exact A5 rfl o.sub
 ·have hr : YL k f=.CQ [.agg HW,iI (Cw k f)]:=by rw [YL,if_neg hc]
  rw [bO,if_neg hc];refine RC.Lm (r:=.CQ [.agg Bb,iI (Cw k f)]) ⟨fun H0=>sG.go fun _=>?_⟩ (MB.code Lr)
  have o : A9 H0 H0 []:=.nil _;refine tt ?_;refine nb o fun B1 H o=>tt ?_;refine (HC B k f).go fun r _ e=>?_;rw [hr] at e;subst e
  generalize Cw k f=cd at hc;unfold HW;refine tt ?_;refine nb o fun Ba H o=>tt ?_;refine sw o fun H o=>tt ?_;refine AX ?_;refine tt ?_;rw [decide_eq_false hc];refine tt ?_;refine sw o.swap fun H o=>tt ?_;rw [o.rc 15 0 (by simp)];refine tt ?_;exact A5 rfl o.sub
open Classical in
noncomputable def DL (k : FU) (g : SF) (m : SM) : Int:=if Cv k g m=0 then (if m.src=Ag k g then (if G8 k m.AL then 0 else 3) else 5) else Cv k g m
open Classical in
noncomputable def Y8 (k : FU) (g : SF) (m : SM) : AV:=.CQ [.agg (if DL k g m=0 then Yc k g m else rG).cells,iI (DL k g m)]
theorem Qo {k : FU} {g : SF} {m : SM} (h : Cv k g m=0) : k.Is∧g.Is∧m.Is∧g.shape=k.AL∧m.src.shape=k.src:=by
 unfold Cv at h
 split at h
 ·rename_i h1
  split at h
  ·rename_i h2; exact ⟨h1.1,h1.2.1,h1.2.2,h2.1,h2.2⟩
  ·omega
 ·omega
structure MQ (k : FU) (g : SF) (m : SM) : Prop where
 ki : k.Is
 gi : g.Is
 mi : m.Is
 gs : g.shape=k.AL
 ms : m.src.shape=k.src
 al : m.src=Ag k g
 fit : G8 k m.AL
theorem Qq {k : FU} {g : SF} {m : SM} (h : DL k g m=0) : MQ k g m:=by
 unfold DL at h
 split at h
 ·rename_i h1
  obtain ⟨a,b,c,d,e⟩:=Qo h1
  split at h
  ·rename_i h2
   split at h
   ·rename_i h3; exact ⟨a,b,c,d,e,h2,h3⟩
   ·omega
  ·omega
 ·rename_i h1; exact absurd h h1
theorem MQ.ts {k : FU} {g : SF} {m : SM} (h : MQ k g m) : m.AL.shape=k.src:=by rw [← h.mi.eq,h.ms]
theorem MQ.entry {k : FU} {g : SF} {m : SM} (h : MQ k g m) {y : Int} {s : List Int} (hs : s∈AK k y) {e : Int} (he : 0≤e∧e<ix g.A1 y) :
  (0≤s.getD 0 default∧(s.getD 0 default).toNat<m.parts.length)∧(0≤s.getD 1 default∧(s.getD 1 default).toNat<g.AJ.length)∧(0≤e∧e.toNat<(ix g.AJ (s.getD 1 default)).length) ∧
   (0≤ix (ix g.AJ (s.getD 1 default)) e∧(ix (ix g.AJ (s.getD 1 default)) e).toNat<(ix m.parts (s.getD 0 default)).length) ∧
   (0≤ix (ix g.AJ (s.getD 1 default)) e∧ix (ix g.AJ (s.getD 1 default)) e<ix g.A1 (ix k.ob (s.getD 0 default))):=by
 have so:=Ci hs
 have hp:=NF h.mi;rw [h.ms] at hp
 have ga:=h.gi.1.al;rw [h.gs] at ga
 have am:=Il h.gi.1 (a:=s.getD 1 default) (by rw [h.gs]; exact so.h);rw [h.gs,so.fr,so.to] at am
 have al:=am.len
 have av:=am.at he
 have hx:=so.x
 have E8:=h.mi.p.2 (s.getD 0 default).toNat (by have:=hx.1; have:=hx.2; omega)
 have lS : ((ix m.parts (s.getD 0 default)).length : Int)=ix m.src.A1 (s.getD 0 default):=E8.1;rw [h.al,CM h.ki hx] at lS;exact ⟨⟨hx.1,by have:=hx.1; have:=hx.2; omega⟩,⟨so.h.1,by rw [ga]; exact so.h.2⟩,⟨he.1,by omega⟩,⟨av.1,by omega⟩,av⟩
theorem Po (B : Nat) (k : FU) (g : SF) (m : SM) : PB B 42 [.agg k.cells,.agg g.cells,.agg m.cells] (Y8 k g m):=by
 by_cases hE : Cv k g m=0
 rotate_left
 ·have hc : DL k g m=Cv k g m:=by rw [DL,if_neg hE]
  rw [Y8,hc,if_neg hE];refine RC.Lm (r:=.CQ [.agg Bb,iI (Cv k g m)]) ⟨fun H0=>cY.go fun _=>?_⟩ (MB.code Lr)
  have o : A9 H0 H0 []:=.nil _;refine tt ?_;refine nb o fun Ba H o=>tt ?_;refine (Gu B k g m).go fun _=>?_
  generalize Cv k g m=cd at hE;refine tt ?_;rw [decide_eq_false hE];refine tt ?_;refine sw o fun H o=>tt ?_;rw [o.rc 15 0 (by simp)];refine tt ?_;exact A5 rfl o.sub
 obtain ⟨hk,hg,hm,gs,ms⟩:=Qo hE
 by_cases ha : m.src=Ag k g
 rotate_left
 ·have hc : DL k g m=5:=by rw [DL,if_pos hE,if_neg ha]
  rw [Y8,hc,if_neg (by decide)];refine RC.Lm (r:=.CQ [.agg Bb,iI 5]) ⟨fun H0=>cY.go fun _=>?_⟩ (MB.code Lr)
  have o : A9 H0 H0 []:=.nil _;refine tt ?_;refine nb o fun Ba H o=>tt ?_;refine (Gu B k g m).go fun _=>?_;rw [hE];refine td ?_;refine ⟨_,(Dd B hk hg gs.symm).run,tt ?_⟩;refine ⟨_,(JG B m.src (Ag k g)).run, ?_⟩;rw [Ad ha];refine tt ?_;refine sw o fun H o=>tt ?_;rw [o.rc 15 0 (by simp)];refine tt ?_;exact A5 rfl o.sub
 have ts : m.AL.shape=k.src:=by rw [← hm.eq,ms]
 by_cases fit : G8 k m.AL
 rotate_left
 ·have hc : DL k g m=3:=by rw [DL,if_pos hE,if_pos ha,if_neg fit]
  rw [Y8,hc,if_neg (by decide)];refine RC.Lm (r:=.CQ [.agg Bb,iI 3]) ⟨fun H0=>cY.go fun _=>?_⟩ (MB.code Lr)
  have o : A9 H0 H0 []:=.nil _;refine tt ?_;refine nb o fun Ba H o=>tt ?_;refine (Gu B k g m).go fun _=>?_;rw [hE];refine td ?_;refine ⟨_,(Dd B hk hg gs.symm).run,tt ?_⟩;refine ⟨_,(JG B m.src (Ag k g)).run, ?_⟩;rw [Av ha];refine tt ?_;refine (Hs B hk hm.t ts).go fun r _ ⟨hy,hn⟩=>?_
  obtain ⟨Z,A,S,L,e⟩:=hn fit;rw [e];refine tt ?_;refine nb o fun CT H o=>tt ?_;refine AS o (by simp) rfl (H6 rfl rfl rfl rfl) fun H o=>?_
  have o : A9 H0 H [(CT,.cells 10 (rC k.AL (iL Z) (B5 A) (BE S) (BE L) false) 0),(Ba,.cells 15 Bb 0)]:=o;refine tt ?_;refine Ca 9 o rfl fun H o=>AX ?_;unfold rC;refine tt ?_;refine AS o (by simp [Bb]) (by (try simp only [go_sem]); (try simp)) (by first | (simp only [go_sem]; done) | ((try simp only [go_sem]); simp [AV.one,Ay])) fun H o=>?_;unfold Bb at o;have o:=s2 o;refine tt ?_;rw [o.rc 15 0 (by simp)];refine tt ?_;exact A5 rfl o.sub
 have hc : DL k g m=0:=by rw [DL,if_pos hE,if_pos ha,if_pos fit]
 have X:=Qq hc;rw [Y8,if_pos hc,hc];refine ⟨fun H0=>cY.go fun _=>?_⟩
 have so:=hk.tI.1.o
 have gsl:=hg.1.sl;rw [gs] at gsl
 have o : A9 H0 H0 []:=.nil _;refine tt ?_;refine nb o fun Ba H o=>tt ?_;refine (Gu B k g m).go fun _=>?_;rw [hE];refine td ?_;refine ⟨_,(Dd B hk hg gs.symm).run,tt ?_⟩;refine ⟨_,(JG B m.src (Ag k g)).run, ?_⟩;rw [Av ha];refine tt ?_;refine (Hs B hk hm.t ts).go fun r _ ⟨hy,hn⟩=>?_;rw [hy fit]
 obtain ⟨N,hN⟩ : ∃ N,k.AL.AF.toNat=N:=⟨_,rfl⟩;refine tt ?_;refine nb o fun CT H o=>tt ?_;refine AS o (by simp) rfl (H6 rfl rfl rfl rfl) fun H o=>?_
 have o : A9 H0 H [(CT,.cells 10 (CK k m.AL) 0),(Ba,.cells 15 Bb 0)]:=o;refine tt ?_;refine Ca 9 o rfl fun H o=>AX ?_;unfold CK rC;refine tt ?_;refine AP o fun b10 H o=>?_
 have o : A9 H0 H [(b10,.cells 1 (((Bj k g m).take 0).map iL) 0),(Ba,.cells 15 Bb 0)]:=o
 have Pd : (Bj k g m).length=N:=by rw [← hN]; simp [Bj]
 have yQ : (BR k k.AL.AF.toNat).length=N:=by rw [← hN]; simp [BR]
 refine tt ?_;refine AD [4,5,6,9] (G:=Nat) (fun n b=>[(10,some (.buf b n)),(11,some (.int .i64 (n : Int)))]) (fun n b H=>A9 H0 H [(b,.cells 1 (((Bj k g m).take n).map iL) 0),(Ba,.cells 15 Bb 0)]) N b10 o rfl ?_;clear o
 rintro n b10 H hn o
 replace o : A9 H0 H [(b10,.cells 1 (((Bj k g m).take n).map iL) 0),(Ba,.cells 15 Bb 0)]:=o;refine tw yQ ?_;apply bk <;> intro h1
 rotate_left
 ·have AU:=A7 h1
  have e : (Bj k g m).take n=Bj k g m:=List.take_of_length_le (by omega);rw [e] at o;refine tt ?_;refine Am (f:=iL) o (by omega) fun H o=>tt ?_;refine (F3 B g (Bl k m.AL) (Bj k g m)).go fun _=>tt ?_;refine AS o (by simp [Bb]) (by (try simp only [go_sem]); (try simp)) (by first | (simp only [go_sem]; done) | ((try simp only [go_sem]); simp [AV.one,Ay])) fun H o=>?_;unfold Bb at o;have o:=s2 o;refine tt ?_;rw [o.rc 15 0 (by simp)];refine tt ?_;exact A5 rfl o.sub
 have AU : n<N:=A6 h1
 have w:=ws n
 have L9 : k.AL.ES n:=⟨by omega,by omega⟩
 have Sy:=YS k L9
 have Ly:=YX k m.AL L9
 have Sy2 : (BR k k.AL.AF.toNat).getD n default=AK k n:=Sy.2
 have Ly2 : (Bi k m.AL k.AL.AF.toNat).getD n default=Ap k m.AL n:=Ly.2
 have Ln : n<(Bi k m.AL k.AL.AF.toNat).length:=by have:=Ly.1.2; simpa using this
 have gn : n<g.A1.length:=by omega
 have gz:=hg.1.HA (y:=(n : Int)) (by rw [gs]; exact L9)
 obtain ⟨Z,hZ⟩ : ∃ Z : Nat,ix g.A1 (n : Int)=Z:=⟨_,(Int.toNat_of_nonneg gz.1).symm⟩
 have hZ2 : g.A1.getD n default=(Z : Int):=hZ
 have xg : Kv k g m n=(List.range Z).map fun e : Nat=>indexOf (Ap k m.AL n) (C6 k g m n e):=by rw [Kv,hZ]; rfl
 have Td:=(fit _ L9).1;refine tt ?_;refine AP o fun b12 H o=>?_
 have o : A9 H0 H [(b12,.cells 1 ((((List.range 0).map fun e : Nat=>indexOf (Ap k m.AL n) (C6 k g m n e))).map iI) 0),(b10,.cells 1 (((Bj k g m).take n).map iL) 0),(Ba,.cells 15 Bb 0)]:=o;refine tt ?_;refine AD [4,5,6,9,10,11] (G:=Nat) (fun e b=>[(12,some (.buf b e)),(13,some (.int .i64 (e : Int)))]) (fun e b H=>A9 H0 H [(b,.cells 1 ((((List.range e).map fun e : Nat=>indexOf (Ap k m.AL n) (C6 k g m n e))).map iI) 0),(b10,.cells 1 (((Bj k g m).take n).map iL) 0),(Ba,.cells 15 Bb 0)]) Z b12 o rfl ?_;clear o
 rintro e b12 H he o
 replace o : A9 H0 H [(b12,.cells 1 ((((List.range e).map fun e : Nat=>indexOf (Ap k m.AL n) (C6 k g m n e))).map iI) 0),(b10,.cells 1 (((Bj k g m).take n).map iL) 0),(Ba,.cells 15 Bb 0)]:=o
 have Nu : ((List.range e).map fun e : Nat=>indexOf (Ap k m.AL n) (C6 k g m n e)).length=e:=by simp
 refine tt ?_;refine ⟨gn, ?_⟩;rw [hZ2];apply bk <;> intro h2
 rotate_left
 ·have Aq:=A7 h2
  obtain rfl : e=Z:=by omega
  rw [← xg] at o Nu
  have Ga : ((Bj k g m).take n).length=n:=by rw [List.length_take]; omega
  refine tt ?_;refine Am (f:=iI) o Nu.symm fun H o=>tt ?_;refine Ae (f:=iL) (Kv k g m n) o rfl Ga.symm (by rw [Ga]; simp only [AN]; omega) fun b10 H o=>?_
  have et:=Ar (Bj k g m) (k:=n) (by omega);rw [show (Bj k g m).getD n default=Kv k g m n by rw [Bj,Ab _ _ (by omega)]] at et
  have Ce : ((Bj k g m).take (n+1)).length=n+1:=by rw [List.length_take]; omega
  rw [← et] at o ⊢;rw [Ce];refine tw w ?_;exact A4 b10 AU o rfl
 have Aq : e<Z:=by have:=A6 h2; omega
 have w2:=ws e;refine tt ?_;refine AP o fun b14 H o=>?_
 have o : A9 H0 H [(b14,.cells 1 ((((AK k n).take 0).map fun s=>ix (ix m.parts (s.getD 0 default)) (ix (ix g.AJ (s.getD 1 default)) e)).map iI) 0),(b12,.cells 1 ((((List.range e).map fun e : Nat=>indexOf (Ap k m.AL n) (C6 k g m n e))).map iI) 0),(b10,.cells 1 (((Bj k g m).take n).map iL) 0),(Ba,.cells 15 Bb 0)]:=o;refine tt ?_;refine AD [4,5,6,9,10,11,12,13] (G:=Nat) (fun j b=>[(14,some (.buf b j)),(15,some (.int .i64 (j : Int)))]) (fun j b H=>A9 H0 H [(b,.cells 1 ((((AK k n).take j).map fun s=>ix (ix m.parts (s.getD 0 default)) (ix (ix g.AJ (s.getD 1 default)) e)).map iI) 0),(b12,.cells 1 ((((List.range e).map fun e : Nat=>indexOf (Ap k m.AL n) (C6 k g m n e))).map iI) 0),(b10,.cells 1 (((Bj k g m).take n).map iL) 0),(Ba,.cells 15 Bb 0)]) (AK k n).length b14 o rfl ?_;clear o
 rintro j b14 H hj o
 replace o : A9 H0 H [(b14,.cells 1 ((((AK k n).take j).map fun s=>ix (ix m.parts (s.getD 0 default)) (ix (ix g.AJ (s.getD 1 default)) e)).map iI) 0),(b12,.cells 1 ((((List.range e).map fun e : Nat=>indexOf (Ap k m.AL n) (C6 k g m n e))).map iI) 0),(b10,.cells 1 (((Bj k g m).take n).map iL) 0),(Ba,.cells 15 Bb 0)]:=o
 have Fb : (((AK k n).take j).map fun s=>ix (ix m.parts (s.getD 0 default)) (ix (ix g.AJ (s.getD 1 default)) e)).length=j:=by rw [List.length_map,List.length_take]; omega
 have Sn : n<(BR k k.AL.AF.toNat).length:=by omega
 refine tt ?_;refine ⟨Sn, ?_⟩;rw [Sy2];apply bk <;> intro h3
 rotate_left
 ·have BH:=A7 h3
  have ej : (AK k n).take j=AK k n:=List.take_of_length_le (by omega);rw [ej] at o Fb;refine tt ?_;refine Am (f:=iI) o Fb.symm fun H o=>tt ?_;refine ⟨Ln, ?_⟩;rw [Ly2];refine (F8 B (Ap k m.AL n) (C6 k g m n e)).go fun _=>tt ?_;refine Ae (indexOf (Ap k m.AL n) (C6 k g m n e)) o rfl Nu.symm (by rw [Nu]; simp only [AN]; omega) fun b12 H o=>?_
  have et : ((List.range (e+1)).map fun e : Nat=>indexOf (Ap k m.AL n) (C6 k g m n e))=((List.range e).map fun e : Nat=>indexOf (Ap k m.AL n) (C6 k g m n e))++[indexOf (Ap k m.AL n) (C6 k g m n e)]:=by simp [List.range_succ]
  have Ce : ((List.range (e+1)).map fun e : Nat=>indexOf (Ap k m.AL n) (C6 k g m n e)).length=e+1:=by simp
  rw [← et] at o ⊢;rw [Ce];refine tw w2 ?_;exact A4 b12 Aq o rfl
 have BH:=A6 h3
 have w3:=ws j
 obtain ⟨s,hs⟩ : ∃ s,(AK k n).getD j default=s:=⟨_,rfl⟩
 have sm : s∈AK k n:=by rw [← hs]; exact AE.mpr ⟨j,BH,rfl⟩
 have sl:=(Ci sm).len
 have sl0 : (0 : Int)≤0∧Int.toNat 0<s.length:=⟨by decide,by rw [sl]; decide⟩
 have sl1 : (0 : Int)≤1∧Int.toNat 1<s.length:=⟨by decide,by rw [sl]; decide⟩
 have en:=X.entry sm (e:=(e : Int)) ⟨by omega,by rw [hZ]; omega⟩
 have en3 : e<(ix g.AJ (s.getD 1 default)).length:=by have:=en.2.2.1.2; simpa using this
 have en4 : 0≤(ix g.AJ (s.getD 1 default)).getD e default∧((ix g.AJ (s.getD 1 default)).getD e default).toNat<(ix m.parts (s.getD 0 default)).length:=en.2.2.2.1;refine tt ?_;refine ⟨Sn, ?_⟩;rw [Sy2];refine ⟨BH, ?_⟩;rw [hs];refine tt ?_
 (repeat (refine ⟨by first | exact sl0 | exact en.1 | exact sl1 | exact en.2.1 | exact en3 | exact en4, ?_⟩))
 refine Ae (ix (ix m.parts (s.getD 0 default)) (ix (ix g.AJ (s.getD 1 default)) e)) o rfl Fb.symm (by rw [Fb]; simp only [AN]; omega) fun b14 H o=>?_
 have et : (((AK k n).take (j+1)).map fun s=>ix (ix m.parts (s.getD 0 default)) (ix (ix g.AJ (s.getD 1 default)) e))=(((AK k n).take j).map fun s=>ix (ix m.parts (s.getD 0 default)) (ix (ix g.AJ (s.getD 1 default)) e))++[ix (ix m.parts (s.getD 0 default)) (ix (ix g.AJ (s.getD 1 default)) e)]:=by rw [Ar _ BH,List.map_append,hs]; rfl
 have Ce : (((AK k n).take (j+1)).map fun s=>ix (ix m.parts (s.getD 0 default)) (ix (ix g.AJ (s.getD 1 default)) e)).length=j+1:=by rw [List.length_map,List.length_take]; omega
 rw [← et] at o ⊢;rw [Ce];refine tw w3 ?_;exact A4 b14 BH o rfl
def eY (k : FU) (a : Nat) : Prop:=ix k.AL.AB (k.ar.getD a default)=ix k.ob (k.src.AB.getD a default)∧ix k.AL.to (k.ar.getD a default)=ix k.ob (k.src.to.getD a default)
def fQ (k : FU) (x : Nat) : Prop:=ix k.ar (k.src.Ac.getD x default)=ix k.AL.Ac (k.ob.getD x default)
def YN (k : FU) (a b : Nat) : Prop:=0≤(k.src.comp.getD a default).getD b default→ix k.ar ((k.src.comp.getD a default).getD b default)=ix (ix k.AL.comp (k.ar.getD a default)) (k.ar.getD b default)
theorem WH (B : Nat) (k : FU) (hc : k.src.Shape) (hd : k.AL.Shape) : PB B 237 [.ptr k.cells] (.bool (dec (k.Fit∧k.Laws))):=by
 refine ⟨fun H0=>wK.go fun Zj=>?_⟩
 have Zd:=hc.m
 have hdm:=hd.m
 have Ze:=hc.o
 have gV:=hd.o
 have hctl:=hc.L5
 have hdtl:=hd.L5;refine tt ?_
 by_cases f1 : (k.ob.length : Int)=k.src.AF
 rotate_left
 ·have f1':=decide_eq_false f1;try simp only [go_sem,↓reduceIte,reduceEqDiff,reduceAdd,reduceMul,reduceLeDiff,reduceLT,f1',Bool.not_false]
  exact A5 (congrArg AV.bool (Ad fun h=>f1 h.1.ol).symm) (.refl _)
 have f1':=decide_eq_true f1;try simp only [go_sem,↓reduceIte,reduceEqDiff,reduceAdd,reduceMul,reduceLeDiff,reduceLT,f1',Bool.not_true]
 refine ⟨_,(GO B k.src).run, ?_⟩
 by_cases f2 : (k.ar.length : Int)=k.src.AB.length
 rotate_left
 ·have f2':=decide_eq_false f2;try simp only [go_sem,↓reduceIte,reduceEqDiff,reduceAdd,reduceMul,reduceLeDiff,reduceLT,f2',Bool.not_false]
  exact A5 (congrArg AV.bool (Ad fun h=>f2 (by have:=h.1.al; omega)).symm) (.refl _)
 have f2':=decide_eq_true f2;try simp only [go_sem,↓reduceIte,reduceEqDiff,reduceAdd,reduceMul,reduceLeDiff,reduceLT,f2',Bool.not_true]
 refine ⟨_,(E4 B k.ob k.AL.AF (by omega)).run, ?_⟩
 by_cases f3 : ∀ y,y∈k.ob→0≤y∧y<k.AL.AF
 rotate_left
 ·rw [Ad f3];refine tn ?_
  exact A5 (congrArg AV.bool (Ad fun h=>f3 h.1.gS).symm) (.refl _)
 rw [Av f3];refine tn ?_
 refine ⟨_,(GO B k.AL).run,tt ?_⟩;refine ⟨_,(E4 B k.ar k.AL.AB.length (by omega)).run, ?_⟩
 by_cases f4 : ∀ y,y∈k.ar→0≤y∧y<(k.AL.AB.length : Int)
 rotate_left
 ·rw [Ad f4];refine tn ?_
  exact A5 (congrArg AV.bool (Ad fun h=>f4 h.1.arr).symm) (.refl _)
 rw [Av f4]
 have hF : k.Fit:=⟨f1,by omega,f3,f4⟩;refine tn ?_
 refine AD [0,3,4,64,65] (fun a _=>[(66,some (.int .i64 (a : Int)))]) (fun a _ H=>H=H0∧∀ i,i<a→eY k i) k.ar.length () ⟨rfl,by simp⟩ rfl ?_
 rintro a _ H ha ⟨rfl,Au⟩;refine tt ?_;apply bk <;> intro h1
 ·have AU : a<k.ar.length:=A6 h1
  have w1:=ws a
  have va:=f4 _ (AE.mpr ⟨a,AU,rfl⟩)
  have vs:=hc.OH (f:=a) (by omega)
  have vt:=hc.mH (f:=a) (by omega)
  have yi:=hc.il;refine tt ?_;refine ⟨AU,⟨va.1,by omega⟩,by omega,⟨vs.1,by omega⟩, ?_⟩
  by_cases e1 : ix k.AL.AB (k.ar.getD a default)=ix k.ob (k.src.AB.getD a default)
  rotate_left
  ·have e1':=decide_eq_false e1;try simp only [go_sem,↓reduceIte,reduceEqDiff,reduceAdd,reduceMul,reduceLeDiff,reduceLT,e1',Bool.not_false]
   exact A5 (congrArg AV.bool (Ad fun h=>e1 (h.2.ends a (by omega)).1).symm) (.refl _)
  have e1':=decide_eq_true e1;try simp only [go_sem,↓reduceIte,reduceEqDiff,reduceAdd,reduceMul,reduceLeDiff,reduceLT,e1',Bool.not_true]
  refine ⟨⟨va.1,by omega⟩,by omega,⟨vt.1,by omega⟩, ?_⟩
  by_cases e2 : ix k.AL.to (k.ar.getD a default)=ix k.ob (k.src.to.getD a default)
  rotate_left
  ·have e2':=decide_eq_false e2;try simp only [go_sem,↓reduceIte,reduceEqDiff,reduceAdd,reduceMul,reduceLeDiff,reduceLT,e2',Bool.not_false]
   exact A5 (congrArg AV.bool (Ad fun h=>e2 (h.2.ends a (by omega)).2).symm) (.refl _)
  have e2':=decide_eq_true e2;try simp only [go_sem,↓reduceIte,reduceEqDiff,reduceAdd,reduceMul,reduceLeDiff,reduceLT,e2',Bool.not_true,w1]
  exact A4 () (by omega) ⟨rfl,AM Au ⟨e1,e2⟩⟩ rfl
 have AU : a=k.ar.length:=by have:=A7 h1; omega
 have yW : ∀ i,i<k.src.AB.length→eY k i:=fun i hi=>Au i (by omega);clear h1 Au;subst AU;refine tt ?_;refine AD [0,3,4,119,120] (fun x _=>[(121,some (.int .i64 (x : Int)))]) (fun x _ H'=>H'=H∧∀ i,i<x→fQ k i) k.src.Ac.length () ⟨rfl,by simp⟩ rfl ?_
 rintro x _ H hx ⟨rfl,Au⟩;refine tt ?_;apply bk <;> intro h1
 ·have AU : x<k.src.Ac.length:=A6 h1
  have yi:=hc.il
  have hdil:=hd.il
  have w1:=ws x
  have vi:=hc.Ac _ (AE.mpr ⟨x,AU,rfl⟩)
  have vo:=f3 _ (AE.mpr ⟨x,(by omega : x<k.ob.length),rfl⟩);refine tt ?_;refine ⟨AU,⟨vi.1,by omega⟩,by omega,⟨vo.1,by omega⟩, ?_⟩
  by_cases e1 : ix k.ar (k.src.Ac.getD x default)=ix k.AL.Ac (k.ob.getD x default)
  rotate_left
  ·have e1':=decide_eq_false e1;try simp only [go_sem,↓reduceIte,reduceEqDiff,reduceAdd,reduceMul,reduceLeDiff,reduceLT,e1',Bool.not_false]
   exact A5 (congrArg AV.bool (Ad fun h=>e1 (h.2.Ac x AU)).symm) (.refl _)
  have e1':=decide_eq_true e1;try simp only [go_sem,↓reduceIte,reduceEqDiff,reduceAdd,reduceMul,reduceLeDiff,reduceLT,e1',Bool.not_true,w1]
  exact A4 () (by omega) ⟨rfl,AM Au e1⟩ rfl
 have AU : x=k.src.Ac.length:=by have:=A7 h1; omega
 have hidn : ∀ i,i<k.src.Ac.length→fQ k i:=fun i hi=>Au i (by omega);clear h1 Au;subst AU;refine tt ?_
 have hccl:=hc.cl
 have hdcl:=hd.cl
 have ya : ∀ a b,a<k.src.AB.length→b<k.src.AB.length→0≤(k.src.comp.getD a default).getD b default→k.src.to.getD a default=k.src.AB.getD b default∧((k.src.comp.getD a default).getD b default).toNat<k.src.AB.length:=fun a b ha hb h=>by
  have e : k.src.to.getD a default=k.src.AB.getD b default:=by
   apply Classical.byContradiction; intro hn
   have:=hc.R6 a b ha hb hn;omega
  exact ⟨e,by have:=(hc.yes a b ha hb e).1; omega⟩
 refine AD [0,4,151,152] (fun a _=>[(153,some (.int .i64 (a : Int)))]) (fun a _ H'=>H'=H∧∀ i,i<a→∀ j,j<k.src.AB.length→YN k i j) k.src.comp.length () ⟨rfl,by simp⟩ rfl ?_
 rintro a _ H ha ⟨rfl,Au⟩;refine tt ?_;apply bk <;> intro h1
 ·have AU : a<k.src.comp.length:=A6 h1
  have w1:=ws a
  have va:=f4 _ (AE.mpr ⟨a,(by omega : a<k.ar.length),rfl⟩)
  have ra:=hc.row a (by omega)
  have rd:=hd.Wr (a:=k.ar.getD a default) (by omega);refine tt ?_;refine ⟨AU,tt ?_⟩;refine AD [0,4,9,151,152,153,158,159] (fun b _=>[(160,some (.int .i64 (b : Int)))]) (fun b _ H'=>H'=H∧∀ j,j<b→YN k a j) (k.src.comp.getD a default).length () ⟨rfl,by simp⟩ rfl ?_
  rintro b _ H hb ⟨rfl,Bf⟩;refine tt ?_;apply bk <;> intro h2
  ·have Aq : b<(k.src.comp.getD a default).length:=A6 h2
   have w2:=ws b
   have vb:=f4 _ (AE.mpr ⟨b,(by omega : b<k.ar.length),rfl⟩);refine tt ?_;refine ⟨Aq, ?_⟩
   by_cases t : 0≤(k.src.comp.getD a default).getD b default
   ·obtain ⟨te,tl⟩:=ya a b (by omega) (by omega) t
    have t':=decide_eq_true t;try simp only [go_sem,↓reduceIte,reduceEqDiff,reduceAdd,reduceMul,reduceLeDiff,reduceLT,t']
    refine ⟨⟨t,by omega⟩,by omega,by omega,_,(Cf B k.AL (k.ar.getD a default) (k.ar.getD b default) ⟨va.1,by omega⟩ ⟨vb.1,by omega⟩).run, ?_⟩
    by_cases e1 : ix k.ar ((k.src.comp.getD a default).getD b default)=ix (ix k.AL.comp (k.ar.getD a default)) (k.ar.getD b default)
    rotate_left
    ·have e1':=decide_eq_false e1;try simp only [go_sem,↓reduceIte,reduceEqDiff,reduceAdd,reduceMul,reduceLeDiff,reduceLT,e1',Bool.not_false]
     exact A5 (congrArg AV.bool (Ad fun h=>e1 (h.2.comp a b (by omega) (by omega) te)).symm) (.refl _)
    have e1':=decide_eq_true e1;try simp only [go_sem,↓reduceIte,reduceEqDiff,reduceAdd,reduceMul,reduceLeDiff,reduceLT,e1',Bool.not_true,w2]
    exact A4 () (by omega) ⟨rfl,AM Bf fun _=>e1⟩ rfl
   ·have t':=decide_eq_false t;try simp only [go_sem,↓reduceIte,reduceEqDiff,reduceAdd,reduceMul,reduceLeDiff,reduceLT,t',w2]
    exact A4 () (by omega) ⟨rfl,AM Bf fun h=>absurd h t⟩ rfl
  have Aq : b=(k.src.comp.getD a default).length:=by have:=A7 h2; omega
  have G2 : ∀ j,j<k.src.AB.length→YN k a j:=fun j hj=>Bf j (by omega);clear h2 Bf;refine tw w1 ?_;exact A4 () (by omega) ⟨rfl,AM Au G2⟩ rfl
 have AU : a=k.src.comp.length:=by have:=A7 h1; omega
 refine tt ?_;exact A5 (congrArg AV.bool (Av ⟨hF,yW,hidn,fun i j hi hj e=>Au i (by omega) j hj (hc.yes i j hi hj e).1.1⟩).symm) (.refl _)
theorem DT (B : Nat) (k : FU) : PB B 151 [.ptr k.cells] (.bool (dec k.Is)):=by
 refine ⟨fun H0=>tj.go fun _=>tt ?_⟩;refine ⟨_,(UG B [k.src,k.AL]).run, ?_⟩
 by_cases h : k.src.Is∧k.AL.Is
 ·rw [Av (fun c hc=>by rcases List.mem_cons.mp hc with rfl | hc; exact h.1; obtain rfl:=List.mem_singleton.mp hc; exact h.2)];refine tt ?_;refine ⟨_,(WH B k h.1.1 h.2.1).run,tt ?_⟩;exact A5 (congrArg AV.bool (BJ ⟨fun q=>⟨h.1,h.2,q.1,q.2⟩,fun q=>⟨q.fit,q.laws⟩⟩)) (.refl _)
 ·rw [Ad fun q=>h ⟨q _ (by simp),q _ (by simp)⟩];refine tt ?_;exact A5 (congrArg AV.bool (Ad fun q=>h ⟨q.sI,q.tI⟩).symm) (.refl _)
theorem SZ (B : Nat) (f g : SF) : PB B 157 [.ptr f.cells,.ptr g.cells] (.bool (dec (f=g))):=by
 refine ⟨fun H0=>sY.go fun Zj=>?_⟩
 have hl:=AZ (Zj.1.ptr (c:=B5 f.AJ) (by simp [SF.cells]));simp only [AN] at hl
 have no : ∀ {P : Prop},¬ P→AV.bool false=AV.bool (dec P):=fun h=>congrArg AV.bool (Ad h).symm;refine tt ?_;refine ⟨_,(BM B f.shape g.shape).run, ?_⟩
 by_cases h1 : f.shape=g.shape
 rotate_left
 ·rw [Ad h1];refine tt ?_;exact A5 (no fun q=>h1 (JX.mp q).1) (.refl _)
 rw [Av h1];refine tt ?_;refine ⟨_,(Fi B f.A1 g.A1).run, ?_⟩
 by_cases h2 : f.A1=g.A1
 rotate_left
 ·rw [Ad h2];refine tt ?_;exact A5 (no fun q=>h2 (JX.mp q).2.1) (.refl _)
 rw [Av h2];refine tt ?_
 by_cases h3 : f.AJ.length=g.AJ.length
 rotate_left
 ·rw [decide_eq_false h3];refine tt ?_;exact A5 (no fun q=>h3 (by rw [q])) (.refl _)
 rw [decide_eq_true h3];refine tt ?_;refine AD [0,1,43] (G:=Unit) (fun i _=>[(44,some (.int .i64 (i : Int)))]) (fun i _ H=>H=H0∧∀ j : Nat,j<i→f.AJ.getD j default=g.AJ.getD j default) f.AJ.length () ⟨rfl,by simp⟩ rfl ?_
 rintro i _ H hi ⟨rfl,Au⟩;refine tt ?_;apply bk <;> intro g1
 ·have CO:=A6 g1
  have w:=ws i
  have g2 : i<g.AJ.length:=by omega
  refine tt ?_;refine ⟨CO,g2, ?_⟩;refine ⟨_,(Fi B (f.AJ.getD i default) (g.AJ.getD i default)).run, ?_⟩
  by_cases e : f.AJ.getD i default=g.AJ.getD i default
  ·rw [Av e];refine tw w ?_
   exact A4 () CO ⟨rfl,fun j hj=>by
    rcases Nat.lt_succ_iff_lt_or_eq.mp hj with h | rfl
    ·exact Au j h
    ·exact e⟩ rfl
  ·rw [Ad e];refine tt ?_;exact A5 (no fun q=>e (by rw [q])) (.refl _)
 ·have CO:=A7 g1;refine tt ?_;refine A5 (congrArg AV.bool (Av (JX.mpr ⟨h1,h2, ?_⟩)).symm) (.refl _);refine List.ext_getElem h3 fun j q1 q2=>?_
  have:=Au j (by omega)
  simpa [Go.AW.gE,q1,q2] using this
theorem Js (B : Nat) {k : FU} {g : SF} (hk : k.Is) (hg : g.Is) (e : k.AL=g.shape) : PB B 148 [.ptr k.cells,.ptr g.cells] (.agg (Ag k g).cells):=by
 refine ⟨fun H0=>tU.go fun _=>?_⟩
 have sm:=hk.sI.1.m
 have al:=hk.fit.al
 have gs:=hg.1.sl
 have ga:=hg.1.al;rw [← e] at gs ga
 have o : A9 H0 H0 []:=.nil _;refine tt ?_;refine nb o fun B1 H o=>tt ?_;refine ⟨_,(JV B k.src).run,tt ?_⟩;refine ⟨_,(then_ok B k.ob g.A1 fun y hy=>by have:=hk.fit.gS y hy; omega).run,tt ?_⟩;refine nb o fun Bv H o=>tt ?_;refine sw o fun H o=>?_
 have o : A9 H0 H [(Bv,.cells 7 (aC k.src (iL (k.ob.map (ix g.A1))) .A0) 0),(B1,.cells 7 Fe 0)]:=o;refine tt ?_;refine AD [1,4,5,25,26] (G:=AV × Ob) (fun n _=>[(27,some (.int .i64 (n : Int)))]) (fun n q H=>Lp iL q.2 q.1 ((k.ar.take n).map (ix g.AJ))∧A9 H0 H ((Bv,.cells 7 (aC k.src (iL (k.ob.map (ix g.A1))) q.1) 0)::(q.2++[(B1,.cells 7 Fe 0)]))) k.ar.length (.A0,[]) ⟨.inl ⟨rfl,by simp,rfl⟩,o⟩ rfl ?_;clear o
 rintro n ⟨X6,p6⟩ H hn ⟨h6,o⟩;dsimp only at h6 o;refine tt ?_;apply bk <;> intro h1
 ·have AU:=A6 h1
  have w:=ws n
  have hy:=hk.fit.arr _ (AE.mpr ⟨n,AU,rfl⟩)
  have V3 : 0≤k.ar.getD n default∧(k.ar.getD n default).toNat<g.AJ.length:=⟨hy.1,by omega⟩
  have hl : ((k.ar.take n).map (ix g.AJ)).length=n:=by rw [List.length_map,List.length_take]; omega
  have g5:=o.h0
  have e6 : (aC k.src (iL (k.ob.map (ix g.A1))) X6).getD 6 nv=X6:=rfl;refine tt ?_;refine ⟨AU,tt ?_⟩;refine ⟨⟨_,_,g5⟩,Aj g5 (by simp [aC]) ?_⟩;refine tw e6 ?_;refine ⟨V3, ?_⟩;refine ⟨_,(GQ B _).run,tt ?_⟩;refine (CP.mk (p:=p6) (l:=(Bv,.cells 7 (aC k.src (iL (k.ob.map (ix g.A1))) X6) 0)::[(B1,.cells 7 Fe 0)]) (o.pm) h6).app (ix g.AJ (k.ar.getD n default)) rfl (by rw [hl]; simp only [AN]; omega) fun i6 H o=>?_
  have et : ((k.ar.take (n+1)).map (ix g.AJ))=((k.ar.take n).map (ix g.AJ))++[ix g.AJ (k.ar.getD n default)]:=by rw [Ar _ AU,List.map_append]; rfl
  rw [← et] at o ⊢;refine tt ?_;refine AS o.swap (by simp [aC]) (by (try simp only [go_sem]); (try simp)) (by first | (simp only [go_sem]; done) | ((try simp only [go_sem]); simp [AV.one,Ay])) fun H o=>?_;rw [show wr (aC k.src (iL (k.ob.map (ix g.A1))) X6) 6 [.buf i6 ((k.ar.take (n+1)).map (ix g.AJ)).length]=aC k.src (iL (k.ob.map (ix g.A1))) (.buf i6 ((k.ar.take (n+1)).map (ix g.AJ)).length) from rfl] at o;refine tw w ?_;exact A4 (.buf i6 ((k.ar.take (n+1)).map (ix g.AJ)).length,[(i6,.cells 1 (((k.ar.take (n+1)).map (ix g.AJ)).map iL) 0)]) AU ⟨.inr ⟨i6,rfl,rfl⟩,o⟩ rfl
 have AU:=A7 h1
 obtain rfl : n=k.ar.length:=by omega
 have ht : k.ar.take k.ar.length=k.ar:=List.take_length;rw [ht] at h6;refine tt ?_;refine FK (f:=iL) 6 (CP.mk (p:=p6) (l:=(Bv,.cells 7 (aC k.src (iL (k.ob.map (ix g.A1))) X6) 0)::[(B1,.cells 7 Fe 0)]) (o.pm) h6) rfl fun H o=>AX ?_
 have o : A9 H0 H [(Bv,.cells 7 (Ag k g).cells 0),(B1,.cells 7 Fe 0)]:=o;refine tt ?_;refine AO o (by simp [SF.cells]) (tt ?_);refine AS o.swap (by simp [Fe]) (by (try simp only [go_sem]); (try simp)) (by first | (simp only [go_sem]; done) | ((try simp only [go_sem]); simp [AV.one,Ay])) fun H o=>?_;unfold Fe at o;have o:=s2 o;refine tt ?_;rw [o.rc 7 0 (by simp)];refine tt ?_;exact A5 rfl o.sub
theorem O7 (B : Nat) {k : FU} (hk : k.Is) (p : List (List Int)) (hp : (p.length : Int)=k.AL.AF) : PB B 152 [.ptr k.cells,B5 p] (B5 (k.ob.map (ix p))):=by
 refine ⟨fun H0=>lq.go fun _=>?_⟩
 have ol:=hk.fit.ol
 have so:=hk.sI.1.o
 have o : A9 H0 H0 []:=.nil _;refine tt ?_;refine AP o fun b5 H o=>?_
 have o : A9 H0 H [(b5,.cells 1 (((k.ob.take 0).map (ix p)).map iL) 0)]:=o;refine tt ?_;refine AD [1,12,13] (G:=Nat) (fun n b=>[(5,some (.buf b n)),(14,some (.int .i64 (n : Int)))]) (fun n b H=>A9 H0 H [(b,.cells 1 (((k.ob.take n).map (ix p)).map iL) 0)]) k.ob.length b5 o rfl ?_;clear o
 rintro n b5 H hn o
 replace o : A9 H0 H [(b5,.cells 1 (((k.ob.take n).map (ix p)).map iL) 0)]:=o;refine tt ?_;apply bk <;> intro h1
 ·have AU:=A6 h1
  have w:=ws n
  have hy:=hk.fit.gS _ (AE.mpr ⟨n,AU,rfl⟩)
  have V3 : 0≤k.ob.getD n default∧(k.ob.getD n default).toNat<p.length:=⟨hy.1,by omega⟩
  have hl : ((k.ob.take n).map (ix p)).length=n:=by rw [List.length_map,List.length_take]; omega
  refine tt ?_;refine ⟨AU,tt ?_⟩;refine ⟨V3, ?_⟩;refine Ae (f:=iL) (ix p (k.ob.getD n default)) o rfl hl.symm (by rw [hl]; simp only [AN]; omega) fun b5 H o=>?_
  have et : ((k.ob.take (n+1)).map (ix p))=((k.ob.take n).map (ix p))++[ix p (k.ob.getD n default)]:=by rw [Ar _ AU,List.map_append]; rfl
  have Ce : ((k.ob.take (n+1)).map (ix p)).length=n+1:=by rw [List.length_map,List.length_take]; omega
  rw [← et] at o ⊢;rw [Ce];refine tw w ?_;exact A4 b5 AU o rfl
 have AU:=A7 h1
 obtain rfl : n=k.ob.length:=by omega
 have oU : k.ob.take k.ob.length=k.ob:=List.take_length;rw [oU] at o;refine tt ?_;refine Am (f:=iL) o (by simp) fun H o=>tt ?_;exact A5 rfl o.sub
theorem Fl (B : Nat) (k : FU) (f : SF) : PB B 145 [.ptr k.cells,.ptr f.cells] (iI (Cb k f k.src)):=by
 refine ⟨fun H0=>mn.go fun _=>tt ?_⟩;refine (DT B k).go fun _=>?_
 by_cases hk : k.Is
 rotate_left
 ·rw [Ad hk];refine tt ?_;exact A5 (by rw [Cb,if_neg fun q=>hk q.1]) (.refl _)
 rw [Av hk];refine tt ?_;refine (EW B f).go fun _=>?_
 by_cases hf : f.Is
 rotate_left
 ·rw [Ad hf];refine tt ?_;exact A5 (by rw [Cb,if_neg fun q=>hf q.2]) (.refl _)
 rw [Av hf];refine tt ?_;refine ⟨_,(BM B k.src f.shape).run, ?_⟩
 by_cases e : f.shape=k.src
 ·rw [Av e.symm];refine tt ?_;exact A5 (by rw [Cb,if_pos ⟨hk,hf⟩,if_pos e]) (.refl _)
 ·rw [Ad fun q=>e q.symm];refine tt ?_;exact A5 (by rw [Cb,if_pos ⟨hk,hf⟩,if_neg e]) (.refl _)
open Classical in
noncomputable def Eb (k : FU) (g : SF) (m : SM) : Int:=if Cv k g m=0 then (if m.src=Ag k g then 0 else 5) else Cv k g m
theorem JI (B : Nat) (k : FU) (g : SF) (m : SM) : PB B 137 [.ptr k.cells,.ptr g.cells,.ptr m.cells,.ptr m.src.cells] (iI (Eb k g m)):=by
 refine ⟨fun H0=>sS.go fun _=>?_⟩
 have o : A9 H0 H0 []:=.nil _
 have c1 : ¬ (k.Is∧g.Is∧m.Is)→Eb k g m=1:=fun h=>by rw [Eb,Cv,if_neg h,if_neg (by decide)]
 refine tt ?_;refine (DT B k).go fun _=>?_
 by_cases hk : k.Is
 rotate_left
 ·rw [Ad hk];refine tt ?_;exact A5 (by rw [c1 fun q=>hk q.1]) (.refl _)
 rw [Av hk];refine tt ?_;refine (EW B g).go fun _=>?_
 by_cases hg : g.Is
 rotate_left
 ·rw [Ad hg];refine tt ?_;exact A5 (by rw [c1 fun q=>hg q.2.1]) (.refl _)
 rw [Av hg];refine tt ?_;refine (DF B m).go fun _=>?_
 by_cases hm : m.Is
 rotate_left
 ·rw [Ad hm];refine tt ?_;exact A5 (by rw [c1 fun q=>hm q.2.2]) (.refl _)
 rw [Av hm]
 have c5 : ¬ (g.shape=k.AL∧m.src.shape=k.src)→Eb k g m=5:=fun h=>by
  have e : Cv k g m=5:=by
   unfold Cv; rw [if_pos ⟨hk,hg,hm⟩,if_neg h]
  rw [Eb,e,if_neg (by decide)]
 refine tt ?_;refine ⟨_,(BM B k.AL g.shape).run, ?_⟩
 by_cases gs : g.shape=k.AL
 rotate_left
 ·rw [Ad fun q=>gs q.symm];refine tt ?_;exact A5 (by rw [c5 fun q=>gs q.1]) (.refl _)
 rw [Av gs.symm];refine tt ?_;refine ⟨_,(BM B k.src m.src.shape).run, ?_⟩
 by_cases ms : m.src.shape=k.src
 rotate_left
 ·rw [Ad fun q=>ms q.symm];refine tt ?_;exact A5 (by rw [c5 fun q=>ms q.2]) (.refl _)
 rw [Av ms.symm]
 have e0 : Cv k g m=0:=by unfold Cv; rw [if_pos ⟨hk,hg,hm⟩,if_pos ⟨gs,ms⟩]
 refine tt ?_;refine (Js B hk hg gs.symm).go fun _=>tt ?_;refine nb o fun ON H o=>tt ?_;refine sw o fun H o=>?_
 have o : A9 H0 H [(ON,.cells 7 (Ag k g).cells 0)]:=o;refine tt ?_;refine Ca 9 o rfl fun H o=>AX ?_;refine tt ?_;refine (SZ B (Ag k g) m.src).go fun _=>?_
 by_cases h : m.src=Ag k g
 ·rw [Av h.symm];refine tt ?_;exact A5 (by rw [Eb,if_pos e0,if_pos h]) o.sub
 ·rw [Ad fun q=>h q.symm];refine tt ?_;exact A5 (by rw [Eb,if_pos e0,if_neg h]) o.sub
theorem Qi (B : Nat) (k : FU) (m : SM) : PB B 46 [.agg k.cells,.agg m.cells] (aH k m):=by
 by_cases aN : k.Is∧m.Is
 ·obtain ⟨hk,hm⟩:=aN
  by_cases e : m.src.shape=k.AL
  ·have hc : Ec k m=0:=by rw [Ec,if_pos ⟨hk,hm⟩,if_pos e]
   have hp:=NF hm;rw [e] at hp;rw [aH,if_pos hc,hc];refine ⟨fun H0=>jX.go fun _=>?_⟩
   have o : A9 H0 H0 []:=.nil _;refine tt ?_;refine nb o fun B1 H o=>tt ?_;refine (DT B k).go fun _=>?_;rw [Av hk];refine tt ?_;refine (DF B m).go fun _=>?_;rw [Av hm];refine tt ?_;refine (BM B k.AL m.src.shape).go fun _=>?_;rw [Av e.symm];refine tt ?_;refine (Js B hk hm.s e.symm).go fun _=>tt ?_;refine (Js B hk hm.t (e.symm.trans hm.eq)).go fun _=>tt ?_;refine nb o fun Ba H o=>tt ?_;refine nb o fun CT H o=>tt ?_;refine sw o.swap fun H o=>tt ?_;refine sw o.swap fun H o=>?_
   have o : A9 H0 H [(CT,.cells 7 (Ag k m.AL).cells 0),(Ba,.cells 7 (Ag k m.src).cells 0),(B1,.cells 15 Bb 0)]:=o;refine tt ?_;refine Ca 7 o rfl fun H o=>Ca 6 o rfl fun H o=>AX ?_;refine tt ?_;refine (show PB B 152 [.ptr k.cells,B5 m.parts] _ from O7 B hk m.parts hp).go fun _=>tt ?_;refine (Ik B (Ag k m.src) (Ag k m.AL) (k.ob.map (ix m.parts))).go fun _=>tt ?_;refine AS o (by simp [Bb]) (by (try simp only [go_sem]); (try simp)) (by first | (simp only [go_sem]; done) | ((try simp only [go_sem]); simp [AV.one,Ay])) fun H o=>?_;unfold Bb at o;have o:=s2 o;refine tt ?_;rw [o.rc 15 0 (by simp)];refine tt ?_;exact A5 rfl o.sub
  ·have hc : Ec k m=5:=by rw [Ec,if_pos ⟨hk,hm⟩,if_neg e]
   rw [aH,hc,if_neg (by decide)];refine RC.Lm (r:=.CQ [.agg Bb,iI 5]) ⟨fun H0=>jX.go fun _=>?_⟩ (MB.code Lr)
   have o : A9 H0 H0 []:=.nil _;refine tt ?_;refine nb o fun B1 H o=>tt ?_;refine (DT B k).go fun _=>?_;rw [Av hk];refine tt ?_;refine (DF B m).go fun _=>?_;rw [Av hm];refine tt ?_;refine (BM B k.AL m.src.shape).go fun _=>?_;rw [Ad fun q=>e q.symm];refine tt ?_;refine sw o fun H o=>tt ?_;rw [o.rc 15 0 (by simp)];refine tt ?_;exact A5 rfl o.sub
 ·have hc : Ec k m=1:=by rw [Ec,if_neg aN]
  rw [aH,hc,if_neg (by decide)];refine RC.Lm (r:=.CQ [.agg Bb,iI 1]) ⟨fun H0=>jX.go fun _=>?_⟩ (MB.code Lr)
  have o : A9 H0 H0 []:=.nil _;refine tt ?_;refine nb o fun B1 H o=>tt ?_;refine (DT B k).go fun _=>?_
  by_cases hk : k.Is
  case' pos =>
   rw [Av hk];refine tt ?_;refine (DF B m).go fun _=>?_;rw [Ad fun hm=>aN ⟨hk,hm⟩];refine tt ?_
  case' neg =>
   rw [Ad hk];refine tt ?_
  all_goals
   refine sw o fun H o=>tt ?_;rw [o.rc 15 0 (by simp)];refine tt ?_;exact A5 rfl o.sub
theorem QA {L : List (List Int)} (nd : L.Nodup) (hb : ∀ l,l∈L→∀ y,y∈l→0≤y∧y<255) {m : List Int} (hm : m∈L) {K : Ak} {H : AA} (hk : K (iI (indexOf L m)) H) :
  VA 1 false (.int .i64 0) (some (.CS (Lj L L.length).1 (Lj L L.length).2)) (some (.str (L3 [m]))) K H:=by
 refine ⟨Oj L _ _, ?_⟩;rw [cS nd hb hm]; exact hk
theorem bH (B : Nat) (c : Ax) (s : c.Shape) (x y : Int) : PB B 122 [.ptr c.cells,iI x,iI y] (iL (Ir c x y)):=by
 refine ⟨fun H0=>ou.go fun _=>?_⟩
 have o : A9 H0 H0 []:=.nil _
 have hm:=s.m
 have Jc:=s.L5;refine tt ?_;refine Az iI o fun id H o=>tt ?_
 refine AD [0,1,2,14] (G:=Nat × List Int) (fun k g=>[(7,some (.buf g.1 g.2.length)),(15,some (.int .i64 (k : Int)))])
  (fun k g H=>g.2=HU c x y k∧A9 H0 H [(g.1,.cells 1 (g.2.map iI) 0)]) c.AB.length (id,[]) ⟨rfl,o⟩ rfl ?_
 clear o
 rintro k ⟨id,out⟩ H hk ⟨B2,o⟩;dsimp only at B2 o
 have houl : out.length≤k:=by rw [B2]; exact K9 _ _ _
 refine tt ?_;apply bk <;> intro h1
 ·have AU : k<c.AB.length:=A6 h1
  have w1:=ws k
  have Aq : k<c.to.length:=by omega
  refine tt ?_;refine ⟨AU, ?_⟩
  by_cases e1 : c.AB.getD k default=x
  ·rw [decide_eq_true e1];refine tt ?_;refine ⟨Aq, ?_⟩
   by_cases e2 : c.to.getD k default=y
   ·rw [decide_eq_true e2];refine tt ?_;refine Ae (k : Int) o rfl rfl (by simp only [AN]; omega) fun z H o=>?_;refine tw w1 ?_;exact A4 (z,out++[(k : Int)]) AU ⟨by rw [B2,To e1 e2],o⟩ rfl
   ·rw [decide_eq_false e2];refine tw w1 ?_;exact A4 (id,out) AU ⟨by rw [B2,Kk fun h=>e2 h.2],o⟩ rfl
  ·rw [decide_eq_false e1];refine tw w1 ?_;exact A4 (id,out) AU ⟨by rw [B2,Kk fun h=>e1 h.1],o⟩ rfl
 ·have AU:=A7 h1
  obtain rfl : k=c.AB.length:=by omega
  refine tt ?_;refine Am o rfl fun H o=>tt ?_;exact A5 (by rw [B2,GW]) o.sub
theorem X4 (B : Nat) (L : List (List Int)) (i : Int) (hL : ∀ l,l∈L→0≤i∧i.toNat<l.length) (hl : L.length≤1000000) : PB B 146 [B5 L,iI i] (iL (L.map fun l=>ix l i)):=by
 refine ⟨fun H0=>mm.go fun _=>?_⟩
 have o : A9 H0 H0 []:=.nil _;refine tt ?_;refine Az iI o fun id H o=>tt ?_;refine AD [1,9,10] (G:=Nat × List Int) (fun n g=>[(5,some (.buf g.1 g.2.length)),(11,some (.int .i64 (n : Int)))]) (fun n g H=>g.2=(L.take n).map (fun l=>ix l i)∧A9 H0 H [(g.1,.cells 1 (g.2.map iI) 0)]) L.length (id,[]) ⟨by simp,o⟩ rfl ?_;clear o
 rintro n ⟨id,out⟩ H hn ⟨B2,o⟩;dsimp only at B2 o;refine tt ?_;apply bk <;> intro h1
 ·have AU:=A6 h1
  have w:=ws n
  have hb:=hL _ (AE.mpr ⟨n,AU,rfl⟩);refine tt ?_;refine ⟨AU,tt ?_⟩;refine ⟨hb, ?_⟩;refine Ae (ix (L.getD n default) i) o rfl rfl (by rw [B2,List.length_map,List.length_take]; simp only [AN]; omega) fun id H o=>?_;refine tw w ?_;exact A4 (id,out++[ix (L.getD n default) i]) AU ⟨by rw [B2,Ar _ AU,List.map_append]; rfl,o⟩ rfl
 ·have AU:=A7 h1;refine tt ?_;refine Am o rfl fun H o=>tt ?_;exact A5 (by rw [B2,List.take_of_length_le (by omega)]) o.sub
theorem O9 (B : Nat) (k : FU) (hk : k.Is) (y : Int) : PB B 278 [.ptr k.cells,iI y] (B5 (AK k y)):=by
 refine ⟨fun H0=>sd.go fun _=>?_⟩
 have so:=hk.sI.1.o
 have ol:=hk.fit.ol
 have o : A9 H0 H0 []:=.nil _;refine tt ?_;refine Az iL o fun id H o=>tt ?_;refine AD [0,1,14,15] (G:=Nat × List (List Int)) (fun n g=>[(5,some (.buf g.1 g.2.length)),(16,some (.int .i64 (n : Int)))]) (fun n g H=>g.2=FG k y n∧A9 H0 H [(g.1,.cells 1 (g.2.map iL) 0)]) k.ob.length (id,[]) ⟨rfl,o⟩ rfl ?_;clear o
 rintro n ⟨id,out⟩ H hn ⟨B2,o⟩;dsimp only at B2 o
 have KU : out.length≤40*n:=by rw [B2]; exact FH k hk.tI.1 y n
 refine tt ?_;apply bk <;> intro h1
 ·have AU:=A6 h1
  have w:=ws n;refine tt ?_;refine ⟨AU,tt ?_⟩;refine (bH B k.AL hk.tI.1 y (k.ob.getD n default)).go fun _=>?_
  obtain ⟨hm,Zp⟩ : ∃ L,Ir k.AL y (k.ob.getD n default)=L:=⟨_,rfl⟩
  have xJ : Gi k y n=hm.map fun h=>[(n : Int),h]:=by rw [← Zp]; rfl
  have ET : hm.length≤40:=by have:=JQ k hk.tI.1 y n; rw [xJ,List.length_map] at this; exact this
  rw [Zp];refine tt ?_;refine AD [0,1,6,14,15,16,26,27] (G:=Nat × List (List Int)) (fun j g=>[(5,some (.buf g.1 g.2.length)),(28,some (.int .i64 (j : Int)))]) (fun j g H=>g.2=out++(hm.take j).map (fun h=>[(n : Int),h])∧A9 H0 H [(g.1,.cells 1 (g.2.map iL) 0)]) hm.length (id,out) ⟨by simp,o⟩ rfl ?_;clear o
  rintro j ⟨id,out2⟩ H hj ⟨FZ,o⟩;dsimp only at FZ o;refine tt ?_;apply bk <;> intro h2
  ·have Aq:=A6 h2
   have w2:=ws j;refine tt ?_;refine ⟨Aq,tt ?_⟩;refine Ae (f:=iL) [(n : Int),hm.getD j default] o rfl rfl (by rw [FZ,List.length_append,List.length_map,List.length_take]; simp only [AN]; omega) fun id H o=>?_;refine tw w2 ?_;exact A4 (id,out2++[[(n : Int),hm.getD j default]]) Aq ⟨by rw [FZ,Ar _ Aq,List.map_append,List.append_assoc]; rfl,o⟩ rfl
  ·have Aq:=A7 h2
   have ej : hm.take j=hm:=List.take_of_length_le (by omega);refine tw w ?_;exact A4 (id,out2) (by omega) ⟨by rw [FZ,ej,← xJ,B2,I9],o⟩ rfl
 ·have AU:=A7 h1
  have e : n=k.src.AF.toNat:=by omega
  refine tt ?_;refine Am (f:=iL) o rfl fun H o=>tt ?_;exact A5 (by rw [B2,e]; rfl) o.sub
theorem TI (k : FU) (hk : k.Is) (y : Int) : ∀ s,s∈AK k y→∀ z,z∈s→0≤z∧z<255:=fun s hs z hz=>by
 obtain ⟨x,h,rfl,hx,hh,_⟩:=IQ.mp hs
 have so:=hk.sI.1.o
 have sm:=hk.tI.1.m
 have h1:=hx.1
 have h2:=hx.2
 have h3:=hh.1
 have h4:=hh.2;simp only [List.mem_cons,List.not_mem_nil,or_false] at hz
 rcases hz with rfl | rfl <;> omega
theorem TE (B : Nat) {k : FU} (hk : k.Is) {y : Int} {X0 X2 X3 : AV} {x h : Int} (hm : [x,h]∈AK k y) :
  PB B 147 [.ptr [X0,IW (AK k y),X2,X3],iI x,iI h] (iI (indexOf (AK k y) [x,h])):=by
 refine ⟨fun H0=>fN.go fun _=>?_⟩
 have sb:=TI k hk y;unfold IW;refine tt ?_;refine ⟨_,(Mv B [[x,h]] (by simp [D0])).run,tt ?_⟩;refine QA (Hk k y) sb hm ?_;refine tt ?_;exact A5 rfl (.refl _)
theorem Yj (B : Nat) {k : FU} (hk : k.Is) {y : Int} {X0 X2 X3 : AV} {x h : Int} (hm : [x,h]∈AK k y) (id fr : Nat) (H : AA) (hg : H.get id=some (.cells 4 [X0,IW (AK k y),X2,X3] fr)) :
  CB B 147 [.ref id 0,iI x,iI h] H fun r H'=>r=iI (indexOf (AK k y) [x,h])∧H'=H:=by
 refine fN.go fun _=>?_
 have sb:=TI k hk y;refine tt ?_;refine Aj hg (by simp) ?_;unfold IW;refine tt ?_;refine ⟨_,(Mv B [[x,h]] (by simp [D0])).run,tt ?_⟩;refine QA (Hk k y) sb hm ?_;refine tt ?_;exact ⟨H,.refl _,rfl,rfl⟩
end Go.Proofs.Shf
