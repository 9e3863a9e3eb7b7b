/- A part of a proof. -/
import Derived.Test.YthflgdphhajkbaaGreatF10
import Derived.Deep.Slices
import Derived.SizedLaws
set_option linter.unusedVariables false
set_option linter.unusedSimpArgs false
set_option linter.unusedSectionVars false
open Nat (reduceEqDiff reduceAdd reduceMul reduceLeDiff reduceLT)
namespace Go.Shf
open Go.AW Go.Proofs.Shf
open Classical in
noncomputable def Kg (j : Df) (m : SM) : Int:=if j.Form∧m.Is then (if Cj j m.src=0 then (if Bw m.Bm (Ag j.shape j.AP) then 0 else 4) else Cj j m.src) else 1
noncomputable def O7 (m : SM) (V : List (List Int)) : SM:=⟨AO (AO m.src V) V,m.Bm,E6 (AO m.src V) m.Bm V (E6 m.src m.Bm V m.parts)⟩
def bV (j : Df) (m : SM) : Prop:=(j.Form∧m.Is)∧Cj j m.src=0∧Bw m.Bm (Ag j.shape j.AP)
open Classical in
noncomputable def RT (j : Df) (m : SM) : SM:=if bV j m then O7 m (Ag j.shape j.AP) else iO
end Go.Shf
namespace Go.Proofs.Shf
open Go.AW Go.Proofs Go.Shf
theorem Ij (B : Nat) (j : Df) (m : SM) : IX Tryz.prog B 51 [.agg j.cells,.agg m.cells] fun p X=>qx fE (Kg j m) p X (RT j m):=by
 refine ⟨fun H0=>c51.go fun _=>?_⟩
 have Zo:=fun H=>LB B j m H;refine tt ?_;refine nb (.nil _) fun id H o=>tt ?_;refine (Zo H).mono ?_
 rintro r H ⟨rfl,X,rfl,hX⟩
 have nope : ¬ bV j m→RT j m=iO:=fun h=>by rw [RT,if_neg h]
 by_cases h0 : JK j m=0
 ·obtain ⟨cnt,rfl⟩:=hX h0
  have XK : j.Form∧m.Is:=by
   apply Classical.byContradiction; intro e;rw [JK,if_neg e] at h0; cases h0
  obtain ⟨hF,hm⟩:=XK
  have c1 : codeF j m.src=0:=by rw [← MA hF hm]; exact h0
  have c2 : codeF j m.Bm=0:=by rw [Qh hm]; exact c1
  have p1:=O0 B j m.src cnt c1
  have p2:=VY B j m.Bm cnt c2
  obtain ⟨-,-,Ee,IK⟩:=Dx c1
  obtain ⟨-,-,XB,Fz⟩:=Dx c2;rw [← Ee] at IK;rw [← XB] at Fz;rw [h0]
  have e1:=fun h=>Ws c1 h
  have e1n:=fun h=>W9 c1 h
  generalize nP : (BU j).cells cnt=cv at *
  generalize hV : Ag j.shape j.AP=V at *;rw [Ee] at IK;rw [XB] at Fz;refine tt ?_;refine ⟨fun e=>(by simp at e),fun _=>At.mk ?_⟩;refine tt ?_;refine p1.go fun _=>?_
  by_cases f1 : CG m.src V
  rotate_left
  ·have e1:=e1n f1
   have hM:=nope fun e=>by rw [e.2.1] at e1; cases e1
   have hC : Kg j m=3:=by rw [Kg,if_pos ⟨hF,hm⟩,if_neg (by rw [e1]; decide),e1]
   rw [Ab f1,hM,hC];refine tn ?_
   refine sw o fun H o=>tt ?_
   have hr:=o.rc 15 0 (by simp);simp only [List.drop_zero] at hr;rw [hr];exact ⟨H,.refl H,[],⟨_,rfl,Gw⟩,o.tl⟩
  replace e1:=e1 f1
  by_cases f2 : Bw m.Bm V
  rotate_left
  ·have hM:=nope fun e=>f2 (by have:=e.2.2; rw [hV] at this; exact this)
   have hC : Kg j m=4:=by rw [Kg,if_pos ⟨hF,hm⟩,if_pos e1,hV,if_neg f2]
   rw [Ay f1,hM,hC,JA,if_pos f1];refine tn ?_
   refine p2.go fun _=>?_;rw [Ab f2];refine tn ?_
   refine sw o fun H o=>tt ?_
   have hr:=o.rc 15 0 (by simp);simp only [List.drop_zero] at hr;rw [hr];exact ⟨H,.refl H,[],⟨_,rfl,Gw⟩,o.tl⟩
  have hM : RT j m=O7 m V:=by rw [RT,if_pos ⟨⟨hF,hm⟩,e1,by rw [hV]; exact f2⟩,hV]
  have hC : Kg j m=0:=by rw [Kg,if_pos ⟨hF,hm⟩,if_pos e1,hV,if_pos f2]
  have heq:=hm.eq
  have q1:=Mp B m.src m.Bm hm.s.1 hm.t.1 hm.t.FR heq m.parts hm.SX V IK f1.1 f2
  have q2:=Mp B (AO m.src V) m.Bm (Bx hm.s.1 IK f1.1) hm.t.1 hm.t.FR heq _ (Ui hm.s.1 hm.t.1 hm.t.FR heq hm.SX IK f2) V IK f1.2 f2
  have Ik:=Kk B (AO (AO m.src V) V) m.Bm (E6 (AO m.src V) m.Bm V (E6 m.src m.Bm V m.parts));rw [Ay f1,hM,hC,JA,if_pos f1];rw [O7]
  generalize E6 m.src m.Bm V m.parts=P1 at *
  generalize E6 (AO m.src V) m.Bm V P1=P2 at *;refine tn ?_
  refine p2.go fun _=>?_;rw [Ay f2];refine tn ?_
  refine ⟨_,q1.run, ?_⟩;refine ⟨_,q2.run,tt ?_⟩;refine Ik.go o fun Y p H q o _=>?_
  obtain ⟨Ys,rfl,hl,h1⟩:=fE.Sj q;refine tt ?_
  have o:=AB.last o;refine Aq o (by simp) hl h1 fun H o=>?_
  obtain ⟨y1,y2,y3,y4,y5,y6,y7,y8,y9,y10,y11,y12,y13,y14,y15,rfl⟩:=dY hl;have o:=s2 o;refine tt ?_
  have hr:=o.rc 15 0 (by simp);simp only [List.drop_zero] at hr;rw [hr];exact ⟨H,.refl H,p,⟨_,rfl,q⟩,o.tl⟩
 ·have hC : Kg j m=JK j m:=by
   by_cases XK : j.Form∧m.Is
   ·have e0:=MA XK.1 XK.2;rw [e0] at h0 ⊢
    have e1 : Cj j m.src=codeF j m.src:=by rw [Cj,if_neg h0]
    rw [Kg,if_pos XK,if_neg (by rw [e1]; exact h0),e1]
   ·rw [Kg,if_neg XK,JK,if_neg XK]
  have hM:=nope fun e=>by
   have e2:=Mq e.2.1;rw [← MA e.1.1 e.1.2] at e2;exact h0 e2.1
  rw [hM,hC];refine tt ?_;refine ⟨fun _=>At.mk ?_,fun e=>?_⟩;rotate_left
  ·exact absurd (by simpa using e) h0
  refine tt ?_;refine sw o fun H o=>tt ?_
  have hr:=o.rc 15 0 (by simp);simp only [List.drop_zero] at hr;rw [hr];exact ⟨H,.refl H,[],⟨_,rfl,Gw⟩,o.tl⟩
theorem RZ (B : Nat) (j : Df) (m : SM) : PB B 49 [.agg j.cells,.agg m.cells] (.CK [.agg (SM.cells (ofM j m)),.int .i64 (MI j m)]):=by
 refine (QT B j m).zL fun g v hv=>?_
 by_cases h : Yf j m
 ·have e1 : VZ j m=SM.cells (ofM j m):=by rw [VZ,ofM,if_pos h,if_pos h]
  rw [e1] at hv;exact hv
 ·have e1 : VZ j m=Q2:=by rw [VZ,if_neg h]
  have e2 : ofM j m=iO:=by rw [ofM,if_neg h]
  rw [e1] at hv;rw [e2];exact Xu.code xR g v hv
theorem MT (B : Nat) (j : Df) (m : SM) : PB B 48 [.agg j.cells,.agg m.cells] (.CK [.agg (SM.cells (ofM j m)),.int .i64 (MI j m)]):=IX.xw (f:=fun k : SM=>.CK [.agg k.cells,.int .i64 (MI j m)]) (oL.qD _) (KP B j m)
theorem Jq (B : Nat) (j : Df) (m : SM) : PB B 51 [.agg j.cells,.agg m.cells] (.CK [.agg (SM.cells (RT j m)),.int .i64 (Kg j m)]):=IX.xw (f:=fun k : SM=>.CK [.agg k.cells,.int .i64 (Kg j m)]) (oL.qD _) (Ij B j m)
theorem Ru (B : Nat) (code : List UInt8) : LH B 47 [mL Go.AW.iB code] c6:=by
 intro H0;refine c47.go fun _=>?_
 have o : AB H0 H0 []:=.nil _;refine tt ?_;refine nb o fun ES H o=>tt ?_;refine nb o fun Ch H o=>tt ?_;refine (Yn B code false).go fun r _ ⟨j,m,e⟩=>?_;subst e;refine tt ?_;refine sw o.swap fun H o=>tt ?_;refine sw o.swap fun H o=>tt ?_
 have hr3:=o.rc 15 0 (by simp)
 have BZ:=o.tl.rc 6 0 (by simp);simp only [List.drop_zero] at BZ hr3;rw [BZ,hr3];exact Ce ⟨j,m,rfl⟩ o.sub
theorem TA {j : Df} {f : SF} (hz : Cj j f=0) : KY j f=⟨f,AO (AO f (Ag j.shape j.AP)) (Ag j.shape j.AP),NK f (Ag j.shape j.AP)⟩:=by
 rw [KY,if_pos (Mq hz)]; rfl
theorem vX {j : Df} {m : SM} (h : MI j m=0) : Yf j m:=by
 rw [MI] at h
 split at h
 ·rename_i h1
  split at h
  ·rename_i h2
   exact ⟨h1,h2,h⟩
  ·rename_i h2; exact absurd h h2
 ·cases h
theorem bE {j : Df} {f g : SF} {p : List (List Int)} (h : Yf j ⟨f,g,p⟩) : ∃ (F G : SF) (u w M : List (List Int)),KY j f=⟨f,F,u⟩∧KY j g=⟨g,G,w⟩∧ofM j ⟨f,g,p⟩=⟨F,G,M⟩ ∧
  SM.Is ⟨f,F,u⟩∧SM.Is ⟨g,G,w⟩∧SM.Is ⟨F,G,M⟩∧thenS u M=thenS p w∧RT j ⟨f,G,thenS p w⟩=⟨F,G,M⟩∧Kg j ⟨f,G,thenS p w⟩=0:=by
 have h0:=h
 obtain ⟨⟨hF,hm⟩,zf,zg⟩:=h;dsimp only at zf zg
 obtain ⟨kf,ff⟩:=Mq zf
 obtain ⟨kg,fg⟩:=Mq zg
 obtain ⟨_,hf,shf,vf'⟩:=Dx kf
 obtain ⟨_,hg,shg,vg'⟩:=Dx kg
 have e : f.shape=g.shape:=hm.eq
 have jj:=Xh kf
 have idg:=Xh kg
 have vf : BT f.shape (Ag j.shape j.AP):=by rw [shf]; exact vf'
 have vg : BT g.shape (Ag j.shape j.AP):=by rw [shg]; exact vg'
 rw [← shf] at jj
 have idf2 : O1 f.shape (Ag j.shape j.AP):=by rw [← shf]; exact jj
 rw [← shg] at idg
 have jq : O1 g.shape (Ag j.shape j.AP):=by rw [← shg]; exact idg
 have hM : ofM j ⟨f,g,p⟩=ofMap ⟨f,g,p⟩ (Ag j.shape j.AP):=by rw [ofM,if_pos h0]
 have uf:=TA zf
 have ug:=TA zg
 have hx : ∀ q,SM.Is ⟨f,AO (AO g (Ag j.shape j.AP)) (Ag j.shape j.AP),q⟩→Bw (AO (AO g (Ag j.shape j.AP)) (Ag j.shape j.AP)) (Ag j.shape j.AP) →
   RT j ⟨f,AO (AO g (Ag j.shape j.AP)) (Ag j.shape j.AP),q⟩=O7 ⟨f,AO (AO g (Ag j.shape j.AP)) (Ag j.shape j.AP),q⟩ (Ag j.shape j.AP) ∧
   Kg j ⟨f,AO (AO g (Ag j.shape j.AP)) (Ag j.shape j.AP),q⟩=0:=fun q h1 h2=>by
  refine ⟨by rw [RT,if_pos (show bV j _ from ⟨⟨hF,h1⟩,zf,h2⟩)], ?_⟩;rw [Kg,if_pos (show j.Form∧SM.Is _ from ⟨hF,h1⟩),if_pos (show Cj j f=0 from zf),if_pos h2]
 generalize Ag j.shape j.AP=V at *
 have iF1:=JU hf vf ff.1
 have iF:=JU (f:=AO f V) iF1 vf ff.2
 have iG1:=JU hg vg fg.1
 have iG:=JU (f:=AO g V) iG1 vg fg.2
 have u1:=Ct hf.1 hf.FR vf
 have u2 : Cz (AO f V) (AO (AO f V) V) _:=Ct iF1.1 iF1.FR vf
 have w1:=Ct hg.1 hg.FR vg
 have w2 : Cz (AO g V) (AO (AO g V) V) _:=Ct iG1.1 iG1.FR vg
 have u : Cz f (AO (AO f V) V) (NK f V):=u1.then u2 rfl hf.1
 have w : Cz g (AO (AO g V) V) (NK g V):=w1.then w2 rfl hg.1
 have m : Cz f g p:=hm.SX
 have a1:=EP hf.1 hg.1 e m vf
 have a2 : Cz (AO (AO f V) V) (AO (AO g V) V) _:=EP iF1.1 iG1.1 e a1 vf
 have hn:=lH hf.1 hf.FR hg.1 hg.FR e m vf ff fg
 have sg1:=UG hg.1 vg jq
 have sg : Bw (AO (AO g V) V) V:=W6 (f:=AO g V) iG1.1 iG1.FR vg jq fg.2 sg1
 have hpw : SM.Is ⟨f,AO (AO g V) V,thenS p (NK g V)⟩:=LN hf iG e (m.then w e hf.1)
 obtain ⟨x1,x2⟩:=hx _ hpw sg;refine ⟨AO (AO f V) V,AO (AO g V) V,NK f V,NK g V,_,uf,ug,hM,LN hf iF rfl u,LN hg iG rfl w,LN iF iG e a2,hn, ?_,x2⟩;rw [x1,O7]
 simp only;rw [← hn,k9 hf.1 hf.FR iG.1 iG.FR e vf ff a2 sg]
theorem fnSheavesOfMaps_ok (B : Nat) (code : List UInt8) : PB B 6 [mL Go.AW.iB code] (.bool true):=by
 refine ⟨fun H0=>c6p.go fun _=>?_⟩
 have o : AB H0 H0 []:=.nil _;refine tt ?_;refine (pI B code).go fun _=>tt ?_;apply bk <;> intro g0
 ·refine tt ?_;exact A6 rfl (.refl _)
 refine tt ?_;refine (Ru B code).go fun r _ ⟨j,⟨f,g,p⟩,e⟩=>?_;subst e;refine tt ?_;refine nb o fun Ch H o=>tt ?_;refine nb o fun BN H o=>tt ?_;refine sw o.swap fun H o=>tt ?_;refine sw o.swap fun H o=>tt ?_;refine CX 4 o rfl fun H o=>CX 3 o rfl fun H o=>AX ?_;refine tt ?_;refine (MT B j ⟨f,g,p⟩).go fun _=>tt ?_;refine nb o fun CS H o=>tt ?_;refine sw o fun H o=>tt ?_;refine (RZ B j ⟨f,g,p⟩).go fun _=>tt ?_;refine nb o fun Cv H o=>tt ?_;refine sw o fun H o=>tt ?_;refine CX 7 o rfl fun H o=>CX 5 o rfl fun H o=>AX ?_;refine td ?_;refine (Ek B (ofM j ⟨f,g,p⟩)).go fun _=>?_;refine td ?_
 by_cases hz : MI j ⟨f,g,p⟩=0
 rotate_left
 ·rw [decide_eq_false hz];refine tt ?_;exact A6 rfl o.sub
 have h0:=vX hz
 have hm : SM.Is ⟨f,g,p⟩:=h0.1.2
 have zf : Cj j f=0:=h0.2.1
 have zg : Cj j g=0:=h0.2.2
 obtain ⟨F,G,u,w,M,uf,ug,hM,iu,iw,iM,hn,x1,x2⟩:=bE h0
 have q1:=IU B j f
 have q2:=IU B j g
 have q3:=Mj B j f
 have q4:=Mj B j g;rw [uf,zf] at q1 q3;rw [ug,zg] at q2 q4
 have q5:=RP B ⟨F,G,M⟩;rw [Ay iM] at q5
 have q6:=Mu B f F G u M iu iM
 have q7:=Mu B f g G p w hm iw;rw [hn] at q6
 have q8:=Jq B j ⟨f,G,thenS p w⟩;rw [x1,x2] at q8;rw [hM,hz];clear uf ug hM iu iw iM hn x1 x2 hm zf zg h0 hz
 generalize thenS p w=T at *;refine td ?_;refine q1.go fun _=>tt ?_;refine nb o fun HC H o=>tt ?_;refine sw o fun H o=>tt ?_;refine q2.go fun _=>tt ?_;refine nb o fun Ed H o=>tt ?_;refine sw o fun H o=>tt ?_;refine q3.go fun _=>tt ?_;refine nb o fun Jv H o=>tt ?_;refine sw o fun H o=>tt ?_;refine q4.go fun _=>tt ?_;refine nb o fun NU H o=>tt ?_;refine sw o fun H o=>tt ?_;refine CX 15 o rfl fun H o=>CX 13 o rfl fun H o=>CX 11 o rfl fun H o=>CX 9 o rfl fun H o=>AX ?_;refine td ?_;refine (Ek B ⟨f,F,u⟩).go fun _=>?_;refine td ?_;refine (Ek B ⟨g,G,w⟩).go fun _=>?_;refine td ?_;refine q5.go fun _=>?_;refine td ?_;refine q6.go fun _=>tt ?_;refine nb o fun id17 H o=>tt ?_;refine sw o fun H o=>tt ?_;refine q7.go fun _=>tt ?_;refine nb o fun id19 H o=>tt ?_;refine sw o fun H o=>tt ?_;refine CX 19 o rfl fun H o=>CX 17 o rfl fun H o=>AX ?_;refine td ?_;refine (Ek B ⟨f,G,T⟩).go fun _=>?_;refine td ?_;refine q8.go fun _=>tt ?_;refine nb o fun id21 H o=>tt ?_;refine sw o fun H o=>tt ?_;refine CX 21 o rfl fun H o=>AX ?_;refine td ?_;refine (Ek B ⟨F,G,M⟩).go fun _=>?_;refine td ?_;exact A6 rfl o.sub
end Go.Proofs.Shf
namespace Go.AW
def WN (P : AV→Prop) (a : AV) : Prop:=(∃ al : List AV,a=.sl al∧∀ x,x∈al→P x)∨∃ n,1048576<n∧n≤140737488355328∧a=.V7 n
def WB (a : AV) : Prop:=(∃ l : List UInt8,a=mL iB l)∨∃ n,1048576<n∧n≤140737488355328∧a=.V7 n
end Go.AW
namespace Go.Proofs.Shf
open Go.AW Go.Proofs Go.Shf
open Go.Deep
def qO (W : World) : Gh:=⟨fun b o=>W.cell? ⟨b,o,none⟩,fun _=>none,fun _=>none⟩
theorem ec (W : World) : Ao (qO W) W.heap.size [] W where
 fz b o v h:=h
 fm b es h:=by cases h
 ob i o h:=by simp [AA.get] at h
 inj i j b c c' n h:=by simp [AA.get] at h
 HI i j b n h:=by simp [AA.get] at h
 base:=Nat.le_refl _
 fin:=⟨0,fun i _=>rfl⟩
section
variable {H : Type} {enc : TypeId × Value→H} {W : World}
def RdV (enc : TypeId × Value→H) (W : World) (t : TypeId) (Q : AV→Prop) : Prop :=
 ∀ fuel v d ps,DataW.trod enc Tryz.prog W 0 (fun _=>true) true fuel t [v]=some (d,ps)→(∀ n,n∈d.weights Tryz.prog t→n≤reachBytes)→∃ a,Q a∧Ad (qO W) a v
theorem kK : RdV enc W 5 fun a=>∃ b : UInt8,a=Go.AW.iB b:=by
 intro fuel v d ps h _
 cases fuel with
 | zero=>simp [DataW.trod] at h
 | succ fuel =>
  cases v <;> simp only [DataW.trod,Tryz.underlying5] at h <;> try (cases h; done)
  rename_i k n
  split at h
  ·rename_i hk
   obtain ⟨rfl,hf⟩:=hk
   have hr : 0≤n∧n≤255:=by
    simp only [Lit.wf,Bool.and_eq_true,decide_eq_true_eq] at hf;exact ⟨hf.1,hf.2⟩
   refine ⟨_,⟨UInt8.ofNat n.toNat,rfl⟩, ?_⟩
   have e : Go.AW.iB (UInt8.ofNat n.toNat)=.int .u8 n:=by
    have h1 : (UInt8.ofNat n.toNat).toNat=n.toNat:=by rw [UInt8.toNat_ofNat']; omega
    rw [Go.AW.iB,h1,Int.toNat_of_nonneg hr.1]
   rw [e];exact .int _ n
  ·cases h
theorem Oq {P : Program} {e : TypeId} {l : List (DataW H)} {x : DataW H} (hx : x∈l) {n : Nat} (hn : n∈x.weights P e) : n∈DataW.weightsAll P e l:=by
 induction l with
 | nil=>simp at hx
 | cons y r ih =>
  simp only [DataW.weightsAll,List.mem_append]
  rcases List.mem_cons.mp hx with rfl | hx
  ·exact .inl hn
  ·exact .inr (ih hx)
theorem dA {t e : TypeId} {Q : AV→Prop} (ht : Tryz.prog.underlying t=some (.slice e)) (hc : Tryz.prog.cellsOf e=1) (hb : 1≤Tryz.prog.bytesOf e) (hQ : ∀ a,Q a→a.cells=[a]) (h : RdV enc W e Q) : RdV enc W t (WN Q):=by
 intro fuel v d ps kb hw
 rcases open_slice1 ht hc kb with ⟨hv,hx⟩ | ⟨a,len,cap,m,n,V,D,Pl,hv,_,hl,hm,aU,hx,aV⟩
 ·injection hv with hv
  subst hv;exact ⟨.sl [],.inl ⟨[],rfl,by simp⟩,.slnil none 0⟩
 ·injection hv with hv
  subst hv;simp only [if_true] at aU;subst aU;simp only [Prod.mk.injEq] at hx
  obtain ⟨rfl,rfl⟩:=hx
  have hw0 : (((List.range len).map D).length+((List.range (m - len)).map fun j=>D (len+j)).length)*Tryz.prog.bytesOf e≤reachBytes:=hw _ (by simp [DataW.weights,ht])
  have hlen : len≤140737488355328:=by
   simp only [List.length_map,List.length_range] at hw0
   have h1 : len*1≤(len+(m - len))*Tryz.prog.bytesOf e:=Nat.mul_le_mul (by omega) hb
   have h2 : reachBytes≤140737488355328:=by decide
   omega
  by_cases hbig : 1099511627776<len
  ·exact ⟨.V7 len,.inr ⟨len,by omega,hlen,rfl⟩,.V7 _ _ _ hlen⟩
  ·have Aj : ∀ i,∃ x,i<len→Q x∧Ad (qO W) x (V i):=by
    intro i
    by_cases hi : i<len
    ·obtain ⟨x,q1,q2⟩:=h n (V i) (D i) (Pl i) (aV i (by omega)).2 fun k hk=>hw k (by
      simp only [DataW.weights,ht,List.mem_cons,List.mem_append];exact .inr (.inl (Oq (List.mem_map.mpr ⟨i,List.mem_range.mpr hi,rfl⟩) hk)))
     exact ⟨x,fun _=>⟨q1,q2⟩⟩
    ·exact ⟨.Gk,fun h=>absurd h hi⟩
   obtain ⟨A,hA⟩:=Classical.axiomOfChoice Aj
   have Cn : ∀ i,i<len→((List.range len).map A).getD i nv=A i:=fun i hi=>AS A nv hi;refine ⟨.sl ((List.range len).map A),.inl ⟨_,rfl,fun x hx=>?_⟩, ?_⟩
   ·obtain ⟨i,hi,rfl⟩:=List.mem_map.mp hx;exact (hA i (List.mem_range.mp hi)).1
   ·by_cases h0 : len=0
    ·subst h0; exact .slnil _ _
    ·have hsp : a=⟨a.block,a.off,none⟩:=by
      have:=(aV 0 (by omega)).1
      obtain ⟨b,o,s⟩:=a
      cases s with
      | none=>rfl
      | some s=>exfalso; simp [Addr.add,World.cell?] at this; split at this <;> simp at this
     have hadd : ∀ i,a.add i=⟨a.block,a.off+i,none⟩:=by
      intro i;rw [hsp];unfold Addr.add
      split
      ·rename_i e; simp [e]
      ·rfl
     have key : Ad (qO W) (.sl ((List.range len).map A)) (.slice (some ⟨a.block,a.off,none⟩) ((List.range len).map A).length m):=by
      refine .sl _ a.block a.off 1 m V (by simp [AK]; omega) (by simp; omega) (fun i hi=>?_) (fun i j hi hj=>?_) (fun i j hi hj=>?_)
      ·rw [Cn i (by simpa using hi),hQ _ (hA i (by simpa using hi)).1]; rfl
      ·have Fg : i<len:=by simpa using hi
       have:=(aV i (by omega)).1;rw [hadd] at this
       have e : i*1+j=i:=by omega
       rw [e]; exact this
      ·have Fg : i<len:=by simpa using hi
       have e : i*1+j=i:=by omega
       obtain rfl : j=0:=by omega
       rw [e,Cn i Fg,hQ _ (hA i Fg).1];exact (hA i Fg).2
     rw [List.length_map,List.length_range,← hsp] at key;exact key
theorem WB.of {a : AV} (h : WN (fun a=>∃ b : UInt8,a=Go.AW.iB b) a) : WB a:=by
 rcases h with ⟨l,rfl,hl⟩ | h
 ·refine .inl ⟨l.map fun x=>match x with | .int _ n=>UInt8.ofNat n.toNat | _=>0, ?_⟩
  rw [mL,List.map_map]
  congr 1
  have : ∀ x,x∈l→(Go.AW.iB ∘ fun x : AV=>match x with | .int _ n=>UInt8.ofNat n.toNat | _=>0) x=x:=fun x hx=>by
   obtain ⟨n,rfl⟩:=hl x hx
   simp [Go.AW.iB]
  exact ((List.map_congr_left this).trans (by simp)).symm
 ·exact .inr h
theorem bZ : ∀ fuel v d ps,DataW.trod enc Tryz.prog W 0 (fun _=>true) true fuel 22 [v]=some (d,ps)→(∀ n,n∈d.weights Tryz.prog 22→n≤reachBytes)→∃ a,WB a∧Ad (qO W) a v:=fun fuel v d ps k w=>by
 obtain ⟨a,q1,q2⟩:=dA Tryz.underlying22 (by kernel_rfl) (of_decide_eq_true (by kernel_rfl)) (fun a ⟨n,e⟩=>by rw [e]; rfl) kK fuel v d ps k w;exact ⟨a,WB.of q1,q2⟩
end
theorem j4 (B n : Nat) (hn : 1048576<n) : PB B 8 [.V7 n] (.bool true):=by
 refine ⟨fun H0=>c8.go fun hf=>tt ?_⟩;exact A6 (by congr 1; simp; omega) (.refl _)
end Go.Proofs.Shf
namespace Go.Proofs.Shf
open Go.AW Go.Proofs Go.Shf
theorem fnSheavesOfMaps_all (B : Nat) (a : AV) (h : WB a) : PB B 6 [a] (.bool true):=by
 rcases h with ⟨l,rfl⟩ | ⟨n,hn,_,rfl⟩
 ·exact fnSheavesOfMaps_ok B l
 ·refine ⟨fun H0=>c6p.go fun _=>tt ?_⟩;refine (j4 B n hn).go fun _=>tt ?_;exact A6 rfl (.refl _)
end Go.Proofs.Shf
