/- A part of a proof. -/
import Derived.Test.YtphikjciekmijaaGreatF13
import Derived.Deep.Slices
import Derived.SizedLaws
set_option linter.unusedVariables false
set_option linter.unusedSimpArgs false
set_option linter.unusedSectionVars false
set_option maxRecDepth 100000
open Nat (reduceEqDiff reduceAdd reduceMul reduceLeDiff reduceLT)
namespace Go.Proofs.Shf
open Go.AW Go.Proofs Go.Shf
theorem YW (B : Nat) (f : SF) (hl : f.A1.length≤8) (hz : ∀ y,y∈f.A1→0≤y∧y<17) : PB B 78 [.ptr f.cells] (iI f.A1.sum):=by
 refine ⟨fun H0=>uh.go fun _=>tt ?_⟩;refine AD [9,10] (G:=Unit) (fun k _=>[(3,some (.int .i64 (f.A1.take k).sum)),(11,some (.int .i64 (k : Int)))]) (fun k _ H=>H=H0∧0≤(f.A1.take k).sum∧(f.A1.take k).sum≤17*k) f.A1.length () ⟨rfl,by simp,by simp⟩ rfl ?_
 rintro k _ H hk ⟨rfl,hs⟩;refine tt ?_;apply bk <;> intro h1
 ·have h1:=A6 h1
  have w1:=ws k
  have CW:=hz _ (AE.mpr ⟨k,h1,rfl⟩)
  have e : (f.A1.take (k+1)).sum=(f.A1.take k).sum+f.A1.getD k default:=by rw [Ar _ h1]; simp
  have w2 : IntKind.i64.wrap ((f.A1.take k).sum+f.A1.getD k default)=(f.A1.take (k+1)).sum:=by rw [wrap_i64 (by omega) (by omega),e]
  refine tt ?_;refine ⟨h1, ?_⟩;refine t2 w1 w2 ?_
  exact A4 () (by omega) ⟨rfl,by omega,by omega⟩ rfl
 ·have h1:=A7 h1
  obtain rfl : k=f.A1.length:=by omega
  refine tt ?_;exact A5 (by rw [List.take_length]) (.refl _)
def vd (most En : Nat) (A : List (List (List Int))) (w : Ob) : Prop:=cK En A w∧most<A.length
theorem Q3 (B : Nat) (f g : SF) (most : Nat) (GY : most≤1048576) (En : Nat) : Mf B f g 176 [.ref En 0,.ptr [.int .i64 most]] (wY most En) (vd most En):=by
 intro p A X q w l H0 H hP hX R5 o
 obtain ⟨⟨Y,pw,rfl,hY⟩,hA⟩:=R5;refine tA.go fun _=>?_;refine tt ?_
 have hgO : H.get En=some (.cells 1 [Y] 0):=o.get (En,.cells 1 [Y] 0) (by simp);refine Aj hgO (by simp) (tt ?_);refine ID.uO qT (cR B p) rfl (fun i hi=>?_) fun H' hs=>⟨hs, ?_⟩
 ·obtain rfl : i=0:=by simp only [List.length_cons,List.length_nil] at hi; omega
  exact qT.arg hX o fun x hx=>List.mem_append_left _ hx
 have o:=o.ext hs
 have oY : A9 H0 H' (pw++((En,.cells 1 [Y] 0)::(q++l))):=o.pm;refine tt ?_;refine (CP.mk oY hY).app p rfl (by simp only [AN]; omega) fun Ac H o=>tt ?_;refine sw o.swap fun H o=>tt ?_;refine AH o (by simp) (tt ?_)
 have hg : cK En (A++[p]) [(En,.cells 1 [.buf Ac (A++[p]).length] 0),(Ac,.cells 1 ((A++[p]).map B5) 0)]:=⟨_,_,rfl,.inr ⟨Ac,rfl,rfl⟩⟩;refine ⟨H,.refl H,_,_,rfl,fun hb=>⟨hg, ?_⟩,fun hb=>⟨hg, ?_⟩,o.pm⟩
 ·exact of_decide_eq_true hb
 ·exact Nat.lt_of_not_le (of_decide_eq_false hb)
theorem RK (B : Nat) {f g : SF} (hf : f.Is) (hg : g.Is) (sh : f.shape=g.shape) {F : FuncId} {ca : List AV} {Fs Es : List (List (List Int))→Ob→Prop} (hF : Mf B f g F ca Fs Es) (A : List (List (List Int))) (w l : Ob) (H0 H : AA) (R5 : Fs A w) (o : A9 H0 H (w++l)) :
  CB B 175 [.ptr f.cells,.ptr g.cells,.bool false,.fn (.func F) ca] H fun r H'=>∃ (b : Bool) (w' : Ob) (M : List (List (List Int))),r=.bool b∧A9 H0 H' (w'++l)∧M <+: Bp f g (BA f) ∧
   (b=true→Fs (A++M) w'∧M=Bp f g (BA f))∧(b=false→Es (A++M) w'):=by
 refine vO.go fun _=>?_
 have Ee:=hf.1.is.1.o
 have Im:=hf.1.sl
 have Nq : ∀ x,x<f.A1.length→0≤f.A1.getD x default∧f.A1.getD x default<17:=fun x hx=>hf.1.sz _ (AE.mpr ⟨x,hx,rfl⟩)
 have Kf : (AV.fn (.func F) ca).cells=[.fn (.func F) ca]:=rfl;try simp only [go_sem,↓reduceIte,reduceEqDiff,reduceAdd,reduceMul,reduceLeDiff,reduceLT,Kf,Ej,Gv,List.set_cons_zero,List.set_cons_succ]
 refine Ai o fun DC H o=>tt ?_
 refine AD [9,21,22] (G:=AV × Ob) (fun k _=>[(23,some (.int .i64 (k : Int)))])
  (fun k G H=>PM G.2 G.1 ((BA f).take k)∧A9 H0 H ((DC,Kb f g G.1 (.fn (.func F) ca))::(G.2++(w++l)))) f.A1.length (.A0,[]) ⟨.inl ⟨rfl,rfl,rfl⟩,o⟩ rfl ?_
 clear o
 rintro k ⟨X,q⟩ H hk ⟨hX,o⟩;dsimp only at hX o;refine tt ?_;apply bk <;> intro h1
 ·have AU:=A6 h1
  have w1:=ws k
  have W6:=Nq k AU
  obtain ⟨n,hn⟩ : ∃ n : Nat,f.A1.getD k default=n:=⟨_,(Int.toNat_of_nonneg W6.1).symm⟩;rw [hn] at W6;refine tt ?_;refine ⟨AU, ?_⟩;refine AH o (by simp) ?_;rw [hn];refine tt ?_;refine (Jr B (-1) n (by omega) H H [] (.nil H)).mono ?_
  rintro r H2 ⟨Bt,R,rfl,or,rfl⟩;refine ⟨or.sub, ?_⟩
  have o:=o.trans or
  have o2 : A9 H0 H2 ([(Bt,.cells 1 ((List.replicate n (-1 : Int)).map iI) 0)]++(q++((DC,Kb f g X (.fn (.func F) ca))::(w++l)))):=o.pm;refine tt ?_;refine hX.vB (O:=OL) (p:=[(Bt,.cells 1 ((List.replicate n (-1 : Int)).map iI) 0)]) (a:=List.replicate n (-1)) (.inr ⟨Bt,_,[],rfl,by simp,My _⟩) ⟨rfl,rfl⟩ o2 (by rw [List.length_take]; simp only [AN]; omega) fun X' q' H V1 Iq o=>?_
  have o3 : A9 H0 H ((DC,Kb f g X (.fn (.func F) ca))::(q'++(w++l))):=o.pm;rw [← U1 f AU hn] at Iq;try simp only [go_sem,↓reduceIte,reduceEqDiff,reduceAdd,reduceMul,reduceLeDiff,reduceLT,AV.DH V1]
  refine AS o3 (by simp) rfl (by simp only [Gk,JL]; exact ⟨V1,trivial⟩) fun H o=>?_;have o:=s2 o;refine tw w1 ?_;exact A4 (X',q') (by omega) ⟨Iq,o⟩ rfl
 ·have AU:=A7 h1
  have M0 : k=f.A1.length:=by omega
  rw [M0,List.take_of_length_le (by simp [BA])] at hX;refine tt ?_;refine (cQ B hf hg sh hF DC X _ (BA f) rfl (KB hf.1) A q w l H0 H hX R5 o).mono ?_
  rintro r H' ⟨b,q',w',M,rfl,Iq,o,IK,hb⟩;refine tt ?_;exact ⟨H',.refl _,b,w',M,rfl,o.FL ((List.sublist_append_right _ _).trans (List.sublist_cons_self _ _)),IK,hb⟩
def iV (f g : SF) (most : Nat) (r : AV) : Prop:=∃ (L : List (List (List Int))) (b : Bool),r=.CQ [BE L,.bool b]∧(b=true→L=Bp f g (BA f)∧L.length≤most)∧(b=false→most<(Bp f g (BA f)).length)
theorem Ll (B : Nat) {f g : SF} (hf : f.Is) (hg : g.Is) (sh : f.shape=g.shape) (most : Nat) (GY : most≤1048576) : Dt B 79 [.ptr f.cells,.ptr g.cells,.int .i64 most] (iV f g most):=by
 intro H0;refine vj.go fun _=>?_
 have o : A9 H0 H0 []:=.nil _;refine tt ?_;refine AP o fun TN H o=>tt ?_;refine Ai o fun En H o=>tt ?_;refine sw o fun H o=>tt ?_
 have R5 : wY most En [] [(En,.cells 1 [.buf TN 0] 0),(TN,.cells 1 [] 0)]:=⟨⟨.buf TN 0,[(TN,.cells 1 [] 0)],rfl,.inr ⟨TN,rfl,rfl⟩⟩,Nat.zero_le _⟩;refine (RK B hf hg sh (Q3 B f g most GY En) [] _ [] H0 H R5 o).mono ?_;clear o R5
 rintro r H ⟨b,w,L,rfl,o,IK,RE,MI⟩;rw [List.nil_append] at RE MI
 have hq : (b=true→L=Bp f g (BA f)∧L.length≤most)∧(b=false→most<(Bp f g (BA f)).length):=⟨fun h=>⟨(RE h).2,(RE h).1.2⟩,fun h=>Nat.lt_of_lt_of_le (MI h).2 IK.length_le⟩
 obtain ⟨Y,p,rfl,hY⟩ : cK En L w:=by
  cases b
  ·exact (MI rfl).1
  ·exact (RE rfl).1.1
 clear RE MI;refine tt ?_;refine AH (show A9 H0 H ((En,.cells 1 [Y] 0)::(p++[])) from o) (by simp) (tt ?_)
 have ob:=o.sub
 rcases hY with ⟨rfl,rfl,rfl⟩ | ⟨Ac,rfl,rfl⟩
 ·refine tt ?_;exact B0 ⟨[],b,rfl,hq⟩ ob
 ·refine Am (f:=B5) (show A9 H0 H ((Ac,.cells 1 (L.map B5) 0)::[(En,.cells 1 [.buf Ac L.length] 0)]) from o.swap) rfl fun H o=>tt ?_;exact B0 ⟨L,b,rfl,hq⟩ o.sub
def iG (f g : SF) (r : AV) : Prop:=∃ (L : List (List (List Int))) (k : Int),r=.CQ [BE L,iI k]∧((k=0∧L=Bp f g (BA f)∧L.length≤200∧f.A1.sum≤12)∨(k=3∧L=[]∧(12<f.A1.sum∨200<(Bp f g (BA f)).length)))
theorem Ml (B : Nat) {f g : SF} (hf : f.Is) (hg : g.Is) (sh : f.shape=g.shape) : Dt B 16 [.agg f.cells,.agg g.cells] (iG f g):=by
 intro H0;refine c16.go fun _=>?_
 have Ee:=hf.1.is.1.o
 have Im:=hf.1.sl;refine tt ?_;refine (RP B hf hg sh).go fun _=>?_;refine td ?_;refine (YW B f (by omega) fun y hy=>hf.1.sz y hy).go fun _=>tt ?_;apply bk <;> intro h1
 ·have AU:=A6 h1;refine tt ?_;exact B0 ⟨[],3,rfl,.inr ⟨rfl,rfl,.inl (by omega)⟩⟩ (.refl _)
 have hsum : f.A1.sum≤12:=by have:=A7 h1; omega
 refine tt ?_;refine (Ll B hf hg sh 200 (by omega)).go fun r _ ⟨L,b,e,RE,MI⟩=>?_;subst e;refine tt ?_
 cases b
 ·refine tt ?_;exact B0 ⟨[],3,rfl,.inr ⟨rfl,rfl,.inr (MI rfl)⟩⟩ (.refl _)
 ·refine tt ?_;exact B0 ⟨L,0,rfl,.inl ⟨rfl,(RE rfl).1,(RE rfl).2,hsum⟩⟩ (.refl _)
noncomputable def Ma (f g : SF) : AV:=if 12<f.A1.sum∨200<(Bp f g (BA f)).length then .CQ [BE [],iI 3] else .CQ [BE (Bp f g (BA f)),iI 0]
theorem S6 (B : Nat) {f g : SF} (hf : f.Is) (hg : g.Is) (sh : f.shape=g.shape) : Dt B 16 [.agg f.cells,.agg g.cells] (fun r=>r=Ma f g):=by
 intro H0;refine (Ml B hf hg sh H0).mono ?_
 rintro r H ⟨⟨L,k,e,hk⟩,rfl⟩;refine ⟨?_,rfl⟩;subst e
 rcases hk with ⟨rfl,rfl,h2,h3⟩ | ⟨rfl,rfl,h2⟩
 ·rw [Ma,if_neg (by omega)]
 ·rw [Ma,if_pos h2]
theorem QR (B : Nat) {f g : SF} (hf : f.Is) (hg : g.Is) (sh : ¬ f.shape=g.shape) : PB B 77 [.ptr f.cells,.ptr g.cells] (iI 5):=by
 refine ⟨fun H0=>c77.go fun _=>tt ?_⟩;refine (show PB B _ [.sl [.ptr f.cells,.ptr g.cells]] _ from Dj B [f,g]).go fun _=>?_;rw [Av (by simp [hf,hg])];refine tt ?_;refine ⟨_,(BM B f.shape g.shape).run, ?_⟩;rw [Ad sh];refine tt ?_;exact A5 rfl (.refl _)
open Classical in
noncomputable def LF (f g : SF) : AV:=if f.shape=g.shape then Ma f g else .CQ [BE [],iI 5]
theorem KN (B : Nat) {f g : SF} (hf : f.Is) (hg : g.Is) : Dt B 16 [.agg f.cells,.agg g.cells] (fun r=>r=LF f g):=by
 by_cases sh : f.shape=g.shape
 ·have hr : LF f g=Ma f g:=by rw [LF,if_pos sh]
  rw [hr]; exact S6 B hf hg sh
 ·intro H0
  have hr : LF f g=.CQ [BE [],iI 5]:=by rw [LF,if_neg sh]
  rw [hr];refine c16.go fun _=>?_
  have h5 : decide ((5 : Int)=0)=false:=rfl;refine tt ?_;refine (QR B hf hg sh).go fun _=>?_;refine tw h5 ?_;exact B0 rfl (.refl _)
def smP (m : SM) : AV:=.ptr m.cells
instance : One smP:=⟨fun _=>rfl,fun _=>rfl⟩
instance : Inhabited SM:=⟨⟨default,default,[]⟩⟩
theorem OC (B : Nat) (l : List SM) : PB B 156 [mL smP l] (.bool (dec (∀ m,m∈l→m.Is))):=by
 refine ⟨fun H0=>tg.go fun ⟨hf,_⟩=>?_⟩
 have hl:=AZ hf;simp only [AN] at hl;refine tt ?_;refine AD [5,6] (fun k _=>[(7,some (.int .i64 (k : Int)))]) (fun k _ H=>H=H0∧∀ i,i<k→(l.getD i default).Is) l.length () ⟨rfl,by simp⟩ rfl ?_
 rintro k _ H hk ⟨rfl,Au⟩;refine tt ?_;apply bk <;> intro h1
 ·have AU:=dd h1
  have w1:=ws k;refine tt ?_;refine ⟨AU,(DF B _).go fun _=>?_⟩;refine tt ?_;apply bk <;> intro h2
  ·refine tt ?_
   have Aq:=dd h2;exact A5 (by rw [Ad]; intro h; exact Aq (h _ (AE.mpr ⟨k,AU,rfl⟩))) (.refl _)
  ·refine tw w1 ?_
   have Aq:=dd h2;exact A4 () (by omega) ⟨rfl,AM Au Aq⟩ rfl
 ·refine tt ?_
  have AU:=dd h1;exact A5 (by rw [Av]; exact IB.mpr fun i hi=>Au i (by omega)) (.refl _)
theorem Rb (B : Nat) (f g k : SF) (p q : List (List Int)) (hp : SM.Is ⟨f,g,p⟩) (hq : SM.Is ⟨g,k,q⟩) : PB B 48 [.agg (SM.cells ⟨f,g,p⟩),.agg (SM.cells ⟨g,k,q⟩)] (.CQ [.agg (SM.cells ⟨f,k,thenS p q⟩),iI 0]):=by
 refine ⟨fun H0=>c48.go fun _=>?_⟩
 have hm : Dm f g p:=hp.cI
 have hn : Dm g k q:=hq.cI
 have e : f.shape=g.shape:=hp.eq
 have l1:=hm.len
 have l2:=hn.len
 have hth:=Pk B p q (by rw [← e] at l2; omega) fun x hx y hy=>by
  have Lv : 0≤(x : Int)∧(x : Int)<f.shape.AF:=by omega
  have h1:=hm.pl x Lv
  have h2:=(hn.pl x (by rw [← e]; exact Lv)).1
  obtain ⟨i,hi,rfl⟩:=AE.mp hy;rw [AR] at h1 h2
  have h3:=h1.2 i ⟨by omega,by omega⟩;rw [AR] at h3;omega
 refine tt ?_;refine nb (.nil _) fun B1 H o=>tt ?_;refine (OC B [⟨f,g,p⟩,⟨g,k,q⟩]).go fun _=>?_
 rw [Av (show ∀ m,m∈[(⟨f,g,p⟩ : SM),⟨g,k,q⟩]→m.Is from fun m h=>by
  simp only [List.mem_cons,List.not_mem_nil,or_false] at h
  rcases h with rfl | rfl
  ·exact hp
  ·exact hq)]
 refine tt ?_;refine (Le B g).go fun _=>tt ?_;refine hth.go fun _=>?_;refine (Ik B f k (thenS p q)).go fun _=>tt ?_;refine sw o fun H o=>tt ?_
 have hr:=o.rc 15 0 (by simp);simp only [List.drop_zero] at hr;rw [hr];exact A5 rfl o.sub
theorem H5 (B : Nat) (f : SF) : PB B 22 [.agg f.cells,.agg f.cells] (.bool true):=by
 refine ⟨fun H0=>c22.go fun _=>?_⟩;refine td ?_;refine (Rx B f.shape).go fun _=>?_;refine td ?_;refine (EK B _ _).go fun _=>?_;rw [Av rfl];refine td ?_;refine (JO B _).go fun _=>?_;refine td ?_;exact A5 rfl (.refl _)
theorem Eg (B : Nat) (m : SM) : PB B 43 [.agg m.cells,.agg m.cells] (.bool true):=by
 refine ⟨fun H0=>qb.go fun _=>?_⟩;refine td ?_;refine (H5 B m.src).go fun _=>?_;refine td ?_;refine (H5 B m.AL).go fun _=>?_;refine td ?_;refine (JO B _).go fun _=>?_;refine td ?_;exact A5 rfl (.refl _)
theorem S9 (f g : SF) (sh : f.shape=g.shape) : ∃ (M : List (List (List Int))) (c : Int),LF f g=.CQ [BE M,iI c]∧(c=0→M=Bp f g (BA f)):=by
 by_cases hl : 12<f.A1.sum∨200<(Bp f g (BA f)).length
 ·exact ⟨[],3,by rw [LF,if_pos sh,Ma,if_pos hl],fun h=>by omega⟩
 ·exact ⟨_,0,by rw [LF,if_pos sh,Ma,if_neg hl],fun _=>rfl⟩
theorem XK (B : Nat) (code : List UInt8) : Dt B 40 [mL Go.AW.iB code] pM:=by
 intro H0;refine c40.go fun _=>?_
 have o : A9 H0 H0 []:=.nil _;refine tt ?_;refine nb o fun GD H o=>tt ?_;refine nb o fun C9 H o=>tt ?_;refine nb o fun B1 H o=>tt ?_;refine (RW B code).go fun r _ ⟨k,g,m,e⟩=>?_;subst e;refine tt ?_;refine sw (o.pull [_,_]) fun H o=>tt ?_;refine sw (o.pull [_,_]) fun H o=>tt ?_;refine sw (o.pull [_,_]) fun H o=>tt ?_;rw [o.rc 15 0 (by simp),o.tl.rc 7 0 (by simp),o.tl.tl.rc 12 0 (by simp)];refine tt ?_;exact B0 ⟨k,g,m,rfl⟩ o.sub
structure iY (k : FU) (g : SF) (m : SM) : Prop where
 ki : k.Is
 mt : m.AL.Is
 ts : m.AL.shape=k.src
 gi : g.Is
 ms : m.src.Is
 sr : (Bl k m.AL).Is
 fit : G8 k m.AL
 co : bO k m.AL=.CQ [.agg (V8 k m.AL).cells,iI 0]
 ma : aH k (Yc k g m)=.CQ [.agg (SM.cells ⟨Ag k g,Ag k (Bl k m.AL),k.ob.map (ix (Bj k g m))⟩),iI 0]
 xi : SM.Is ⟨g,Bl k m.AL,Bj k g m⟩
 ci : SM.Is ⟨Ag k (Bl k m.AL),m.AL,BX k m.AL⟩
 ai : SM.Is ⟨Ag k g,Ag k (Bl k m.AL),k.ob.map (ix (Bj k g m))⟩
 tri : SM.mk (Ag k g) m.AL (thenS (k.ob.map (ix (Bj k g m))) (BX k m.AL))=m
 sg : g.shape=(Bl k m.AL).shape
 st : m.src.shape=m.AL.shape
 zk : (Bp g (Bl k m.AL) (BA g)).length=(Bp m.src m.AL (BA m.src)).length
theorem S3 {k : FU} {g : SF} {m : SM} (h : DL k g m=0) : iY k g m:=by
 have X:=Qq h
 have hk:=X.ki
 have hg:=X.gi
 have hf:=X.mi.t
 have ts:=X.ts
 have gs:=X.gs
 have hm : Dm (Ag k g) m.AL m.parts:=by rw [← X.al]; exact X.mi.cI
 have hR:=M9 hk hf ts X.fit
 have hA:=Hj hk hg gs.symm
 have hAR:=Hj (g:=Bl k m.AL) hk hR rfl
 have hx:=M8 hk hf ts hg gs hm
 have xi : SM.Is ⟨g,Bl k m.AL,Bj k g m⟩:=QZ hg hR gs hx
 have hB : Cb k m.AL k.src=0:=by rw [Cb,if_pos ⟨hk,hf⟩,if_pos ts]
 have hc : Cw k m.AL=0:=by rw [Cw,if_pos hB,if_pos X.fit]
 have ha : Ec k (Yc k g m)=0:=by rw [Ec,if_pos ⟨hk,xi⟩]; exact if_pos gs
 refine ⟨hk,hf,ts,hg,X.mi.s,hR,X.fit,by rw [bO,hc,if_pos rfl],by rw [aH,ha,if_pos rfl]; rfl,xi,QZ hAR hf ts.symm (TH hk hf ts),QZ hA hAR rfl (P7 hk gs hx hg), ?_,gs,X.mi.eq, ?_⟩
 ·have:=U7 hk hf ts hg gs hm;unfold aK at this;rw [this,← X.al]
 ·rw [RS hk hf ts X.fit hg gs,← X.al]
theorem fnRightKan_ok (B : Nat) (code : List UInt8) : PB B 6 [mL Go.AW.iB code] (.bool true):=by
 refine ⟨fun H0=>c6.go fun _=>?_⟩
 have o : A9 H0 H0 []:=.nil _;refine tt ?_;refine (kN B code).go fun _=>tt ?_;apply bk <;> intro g0
 ·refine tt ?_;exact A5 rfl (.refl _)
 refine tt ?_;refine (XK B code).go fun r _ ⟨k,g,m,e⟩=>?_;subst e;refine tt ?_;refine nb o fun C9 H o=>tt ?_;refine nb o fun B1 H o=>tt ?_;refine nb o fun Bv H o=>tt ?_;refine sw (o.pull [_,_]) fun H o=>tt ?_;refine sw (o.pull [_,_]) fun H o=>tt ?_;refine sw (o.pull [_,_]) fun H o=>?_
 have o : A9 H0 H [(Bv,.cells 15 m.cells 0),(B1,.cells 7 g.cells 0),(C9,.cells 12 k.cells 0)]:=o;refine tt ?_;refine AO o.tl.tl (by simp [FU.cells]) (tt ?_);refine AO o.tl (by simp [SF.cells]) (tt ?_);refine AO o (by simp [SM.cells]) (tt ?_);refine (Kr B k g m).go fun _=>?_
 obtain ⟨E,hE⟩ : ∃ E,(if DL k g m=0 then Yc k g m else rG)=E:=⟨_,rfl⟩
 obtain ⟨cd,gr⟩ : ∃ cd,DL k g m=cd:=⟨_,rfl⟩
 have hx : Y8 k g m=.CQ [.agg E.cells,iI cd]:=by rw [Y8,gr,← hE,gr]
 rw [hx];refine tt ?_;refine nb o fun Ba H o=>tt ?_;refine sw o fun H o=>?_
 have o : A9 H0 H [(Ba,.cells 15 E.cells 0),(Bv,.cells 15 m.cells 0),(B1,.cells 7 g.cells 0),(C9,.cells 12 k.cells 0)]:=o;refine tt ?_;refine AO o.tl.tl.tl (by simp [FU.cells]) (tt ?_);refine AO o.tl.tl (by simp [SF.cells]) (tt ?_);refine AO o.tl (by simp [SM.cells]) (tt ?_);refine (Po B k g m).go fun _=>?_;rw [hx];refine tt ?_;refine nb o fun Cm H o=>tt ?_;refine sw o fun H o=>?_
 have o : A9 H0 H [(Cm,.cells 15 E.cells 0),(Ba,.cells 15 E.cells 0),(Bv,.cells 15 m.cells 0),(B1,.cells 7 g.cells 0),(C9,.cells 12 k.cells 0)]:=o;refine td ?_;refine AO o.tl (by simp [SM.cells]) (tt ?_);refine AO o (by simp [SM.cells]) (tt ?_);refine (Eg B E).go fun _=>?_;refine td ?_
 by_cases h0 : cd=0
 rotate_left
 ·rw [decide_eq_false h0];refine tt ?_;exact A5 rfl o.sub
 subst h0
 have F:=S3 gr;rw [if_pos gr] at hE;subst hE;refine td ?_
 obtain ⟨C,hC⟩ : ∃ C : SM,V8 k m.AL=C:=⟨_,rfl⟩
 obtain ⟨A,hA⟩ : ∃ A : SM,SM.mk (Ag k g) (Ag k (Bl k m.AL)) (k.ob.map (ix (Bj k g m)))=A:=⟨_,rfl⟩
 obtain ⟨Xm,hX⟩ : ∃ Xm : SM,Yc k g m=Xm:=⟨_,rfl⟩
 have co:=F.co
 have ma:=F.ma;rw [hC] at co;rw [hA,hX] at ma
 have xi : Xm.Is:=by rw [← hX]; exact F.xi
 have ci : C.Is:=by rw [← hC]; exact F.ci
 rw [hX] at o;refine AO o.tl.tl.tl.tl (by simp [FU.cells]) (tt ?_);refine AO o.tl.tl (by simp [SM.cells]) (tt ?_);refine (show PB B 44 [.agg k.cells,.agg m.AL.cells] _ from NT B k m.AL).go fun _=>?_;rw [co];refine tt ?_;refine nb o fun HZ H o=>tt ?_;refine sw o fun H o=>?_
 have o : A9 H0 H [(HZ,.cells 15 C.cells 0),(Cm,.cells 15 Xm.cells 0),(Ba,.cells 15 Xm.cells 0),(Bv,.cells 15 m.cells 0),(B1,.cells 7 g.cells 0),(C9,.cells 12 k.cells 0)]:=o;refine tt ?_;refine AO o.tl.tl.tl.tl.tl (by simp [FU.cells]) (tt ?_);refine AO o.tl.tl.tl (by simp [SM.cells]) (tt ?_);refine (show PB B 45 [.agg k.cells,.agg m.AL.cells] _ from Lb B k m.AL).go fun _=>?_;rw [co];refine tt ?_;refine nb o fun Np H o=>tt ?_;refine sw o fun H o=>?_
 have o : A9 H0 H [(Np,.cells 15 C.cells 0),(HZ,.cells 15 C.cells 0),(Cm,.cells 15 Xm.cells 0),(Ba,.cells 15 Xm.cells 0),(Bv,.cells 15 m.cells 0),(B1,.cells 7 g.cells 0),(C9,.cells 12 k.cells 0)]:=o;refine tt ?_;refine AO o.tl.tl.tl.tl.tl.tl (by simp [FU.cells]) (tt ?_);refine AO o.tl.tl (by simp [SM.cells]) (tt ?_);refine (Qi B k Xm).go fun _=>?_;rw [ma];refine tt ?_;refine nb o fun xS H o=>tt ?_;refine sw o fun H o=>?_
 have o : A9 H0 H [(xS,.cells 15 A.cells 0),(Np,.cells 15 C.cells 0),(HZ,.cells 15 C.cells 0),(Cm,.cells 15 Xm.cells 0),(Ba,.cells 15 Xm.cells 0),(Bv,.cells 15 m.cells 0),(B1,.cells 7 g.cells 0),(C9,.cells 12 k.cells 0)]:=o;refine tt ?_;refine AO o.tl.tl.tl.tl.tl.tl.tl (by simp [FU.cells]) (tt ?_);refine AO o.tl.tl.tl (by simp [SM.cells]) (tt ?_);refine (Pv B k Xm).go fun _=>?_;rw [ma];refine tt ?_;refine nb o fun xd H o=>tt ?_;refine sw o fun H o=>?_
 have o : A9 H0 H [(xd,.cells 15 A.cells 0),(xS,.cells 15 A.cells 0),(Np,.cells 15 C.cells 0),(HZ,.cells 15 C.cells 0),(Cm,.cells 15 Xm.cells 0),(Ba,.cells 15 Xm.cells 0),(Bv,.cells 15 m.cells 0),(B1,.cells 7 g.cells 0),(C9,.cells 12 k.cells 0)]:=o;refine td ?_;refine AO o.tl.tl.tl (by simp [SM.cells]) (tt ?_);refine AO o.tl.tl (by simp [SM.cells]) (tt ?_);refine (Eg B C).go fun _=>?_;refine td ?_;refine AO o.tl (by simp [SM.cells]) (tt ?_);refine AO o (by simp [SM.cells]) (tt ?_);refine (Eg B A).go fun _=>?_;refine td ?_;refine AO o.tl.tl.tl.tl (by simp [SM.cells]) (tt ?_);refine (LP B Xm).go fun _=>?_;rw [Av xi];refine td ?_;refine AO o.tl.tl (by simp [SM.cells]) (tt ?_);refine (LP B C).go fun _=>?_;rw [Av ci];refine td ?_;refine AO o (by simp [SM.cells]) (tt ?_);refine AO o.tl.tl (by simp [SM.cells]) (tt ?_);subst hA hC
 have th:=Rb B (Ag k g) (Ag k (Bl k m.AL)) m.AL (k.ob.map (ix (Bj k g m))) (BX k m.AL) F.ai F.ci;rw [F.tri] at th;refine (show PB B 48 [.agg (SM.cells ⟨Ag k g,Ag k (Bl k m.AL),k.ob.map (ix (Bj k g m))⟩),.agg (SM.cells (V8 k m.AL))] _ from th).go fun _=>?_;clear co ma xi ci th;refine tt ?_;refine nb o fun xQ H o=>tt ?_;refine sw o fun H o=>?_
 have o : A9 H0 H [(xQ,.cells 15 m.cells 0),(Cm,.cells 15 Xm.cells 0),(Bv,.cells 15 m.cells 0),(B1,.cells 7 g.cells 0),(C9,.cells 12 k.cells 0)]:=o.FL (.cons_cons _ (.cons _ (.cons _ (.cons _ (.cons _ (.cons_cons _ (.cons _ (.refl _))))))));refine td ?_;refine AO o (by simp [SM.cells]) (tt ?_);refine AO o.tl.tl (by simp [SM.cells]) (tt ?_);refine (Eg B m).go fun _=>?_;refine td ?_;refine AO o.tl.tl.tl.tl (by simp [FU.cells]) (tt ?_);refine AO o.tl.tl (by simp [SM.cells]) (tt ?_);refine (show PB B 49 [.agg k.cells,.agg m.AL.cells] _ from Jg B F.ki F.mt F.ts F.fit).go fun _=>?_
 obtain ⟨R,hR⟩ : ∃ R,Bl k m.AL=R:=⟨_,rfl⟩
 have jm : Xm.AL=R:=by rw [← hX,← hR]; rfl
 rw [hR];refine tt ?_;refine nb o fun id20 H o=>tt ?_;refine sw o fun H o=>?_
 have o : A9 H0 H [(id20,.cells 7 R.cells 0),(xQ,.cells 15 m.cells 0),(Cm,.cells 15 Xm.cells 0),(Bv,.cells 15 m.cells 0),(B1,.cells 7 g.cells 0),(C9,.cells 12 k.cells 0)]:=o;refine td ?_;refine AO o (by simp [SF.cells]) (tt ?_);refine AO o.tl.tl (by simp [SM.cells]) ?_;rw [← jm];refine tt ?_;refine (show PB B 22 [.agg Xm.AL.cells,.agg Xm.AL.cells] _ from H5 B Xm.AL).go fun _=>?_;refine td ?_;refine AO o.tl.tl.tl.tl (by simp [SF.cells]) (tt ?_);refine AO o.tl.tl (by simp [SM.cells]) (tt ?_);refine (show Dt B 16 [.agg g.cells,.agg Xm.AL.cells] _ from KN B F.gi (by rw [jm,← hR]; exact F.sr)).go fun r _ e=>?_
 obtain ⟨M,c1,e1,h1⟩:=S9 g Xm.AL (by rw [jm,← hR]; exact F.sg);rw [e1] at e;subst e;refine tt ?_;refine AO o.tl.tl.tl (by simp [SM.cells]) (tt ?_);refine AO o.tl.tl.tl (by simp [SM.cells]) (tt ?_);refine (show Dt B 16 [.agg m.src.cells,.agg m.AL.cells] _ from KN B F.ms F.mt).go fun r _ e=>?_
 obtain ⟨N,c2,e2,h2⟩:=S9 m.src m.AL F.st;rw [e2] at e;subst e;refine td ?_
 by_cases z1 : c1=0
 rotate_left
 ·rw [decide_eq_false z1];refine tt ?_;exact A5 rfl o.sub
 subst z1;refine td ?_
 by_cases z2 : c2=0
 rotate_left
 ·rw [decide_eq_false z2];refine tt ?_;exact A5 rfl o.sub
 subst z2
 have hc : M.length=N.length:=by rw [h1 rfl,h2 rfl,jm,← hR]; exact F.zk
 try simp only [go_sem,↓reduceIte,reduceEqDiff,reduceAdd,reduceMul,reduceLeDiff,reduceLT,dT5,hc]
 exact A5 rfl o.sub
end Go.Proofs.Shf
namespace Go.AW
def WN (P : AV→Prop) (a : AV) : Prop:=(∃ al : List AV,a=.sl al∧∀ x,x∈al→P x)∨∃ n,1048576<n∧n≤140737488355328∧a=.TU n
def WB (a : AV) : Prop:=(∃ l : List UInt8,a=mL iB l)∨∃ n,1048576<n∧n≤140737488355328∧a=.TU n
end Go.AW
namespace Go.Proofs.Shf
open Go.AW Go.Proofs Go.Shf
open Go.Deep
def jE (W : World) : Gh:=⟨fun b o=>W.cell? ⟨b,o,none⟩,fun _=>none,fun _=>none⟩
theorem qU (W : World) : Ao (jE W) W.heap.size [] W where
 fz b o v h:=h
 fm b es h:=by cases h
 ob i o h:=by simp [AA.get] at h
 inj i j b c c' n h:=by simp [AA.get] at h
 G9 i j b n h:=by simp [AA.get] at h
 base:=Nat.le_refl _
 fin:=⟨0,fun i _=>rfl⟩
section
variable {H : Type} {enc : TypeId × Value→H} {W : World}
def qu (enc : TypeId × Value→H) (W : World) (t : TypeId) (Q : AV→Prop) : Prop :=
 ∀ fuel v d ps,DataW.trod enc Tryz.prog W 0 (fun _=>true) true fuel t [v]=some (d,ps)→(∀ n,n∈d.weights Tryz.prog t→n≤reachBytes)→∃ a,Q a∧Aa (jE W) a v
theorem a6 : qu enc W 5 fun a=>∃ b : UInt8,a=Go.AW.iB b:=by
 intro fuel v d ps h _
 cases fuel with
 | zero=>simp [DataW.trod] at h
 | succ fuel =>
  cases v <;> simp only [DataW.trod,Tryz.underlying5] at h <;> try (cases h; done)
  rename_i k n
  split at h
  ·rename_i hk
   obtain ⟨rfl,hf⟩:=hk
   have hr : 0≤n∧n≤255:=by
    simp only [Lit.wf,Bool.and_eq_true,decide_eq_true_eq] at hf;exact ⟨hf.1,hf.2⟩
   refine ⟨_,⟨UInt8.ofNat n.toNat,rfl⟩, ?_⟩
   have e : Go.AW.iB (UInt8.ofNat n.toNat)=.int .u8 n:=by
    have h1 : (UInt8.ofNat n.toNat).toNat=n.toNat:=by rw [UInt8.toNat_ofNat']; omega
    rw [Go.AW.iB,h1,Int.toNat_of_nonneg hr.1]
   rw [e];exact .int _ n
  ·cases h
theorem N7 {P : Program} {e : TypeId} {l : List (DataW H)} {x : DataW H} (hx : x∈l) {n : Nat} (hn : n∈x.weights P e) : n∈DataW.weightsAll P e l:=by
 induction l with
 | nil=>simp at hx
 | cons y r ih =>
  simp only [DataW.weightsAll,List.mem_append]
  rcases List.mem_cons.mp hx with rfl | hx
  ·exact .inl hn
  ·exact .inr (ih hx)
theorem Z9 {t e : TypeId} {Q : AV→Prop} (ht : Tryz.prog.underlying t=some (.slice e)) (hc : Tryz.prog.cellsOf e=1) (hb : 1≤Tryz.prog.bytesOf e) (hQ : ∀ a,Q a→a.cells=[a]) (h : qu enc W e Q) : qu enc W t (WN Q):=by
 intro fuel v d ps y5 hw
 rcases open_slice1 ht hc y5 with ⟨hv,hx⟩ | ⟨a,len,cap,m,n,V,D,Pl,hv,_,hl,hm,Zz,hx,Nu⟩
 ·injection hv with hv
  subst hv;exact ⟨.sl [],.inl ⟨[],rfl,by simp⟩,.slnil none 0⟩
 ·injection hv with hv
  subst hv;simp only [if_true] at Zz;subst Zz;simp only [Prod.mk.injEq] at hx
  obtain ⟨rfl,rfl⟩:=hx
  have hw0 : (((List.range len).map D).length+((List.range (m - len)).map fun j=>D (len+j)).length)*Tryz.prog.bytesOf e≤reachBytes:=hw _ (by simp [DataW.weights,ht])
  have hlen : len≤140737488355328:=by
   simp only [List.length_map,List.length_range] at hw0
   have h1 : len*1≤(len+(m - len))*Tryz.prog.bytesOf e:=Nat.mul_le_mul (by omega) hb
   have h2 : reachBytes≤140737488355328:=by decide
   omega
  by_cases hbig : 1099511627776<len
  ·exact ⟨.TU len,.inr ⟨len,by omega,hlen,rfl⟩,.TU _ _ _ hlen⟩
  ·have Au : ∀ i,∃ x,i<len→Q x∧Aa (jE W) x (V i):=by
    intro i
    by_cases hi : i<len
    ·obtain ⟨x,q1,q2⟩:=h n (V i) (D i) (Pl i) (Nu i (by omega)).2 fun k hk=>hw k (by
      simp only [DataW.weights,ht,List.mem_cons,List.mem_append];exact .inr (.inl (N7 (List.mem_map.mpr ⟨i,List.mem_range.mpr hi,rfl⟩) hk)))
     exact ⟨x,fun _=>⟨q1,q2⟩⟩
    ·exact ⟨.Ix,fun h=>absurd h hi⟩
   obtain ⟨A,hA⟩:=Classical.axiomOfChoice Au
   have CU : ∀ i,i<len→((List.range len).map A).getD i nv=A i:=fun i hi=>Ab A nv hi;refine ⟨.sl ((List.range len).map A),.inl ⟨_,rfl,fun x hx=>?_⟩, ?_⟩
   ·obtain ⟨i,hi,rfl⟩:=List.mem_map.mp hx;exact (hA i (List.mem_range.mp hi)).1
   ·by_cases h0 : len=0
    ·subst h0; exact .slnil _ _
    ·have hsp : a=⟨a.block,a.off,none⟩:=by
      have:=(Nu 0 (by omega)).1
      obtain ⟨b,o,s⟩:=a
      cases s with
      | none=>rfl
      | some s=>exfalso; simp [Addr.add,World.cell?] at this; split at this <;> simp at this
     have xx : ∀ i,a.add i=⟨a.block,a.off+i,none⟩:=by
      intro i;rw [hsp];unfold Addr.add
      split
      ·rename_i e; simp [e]
      ·rfl
     have key : Aa (jE W) (.sl ((List.range len).map A)) (.slice (some ⟨a.block,a.off,none⟩) ((List.range len).map A).length m):=by
      refine .sl _ a.block a.off 1 m V (by simp [AN]; omega) (by simp; omega) (fun i hi=>?_) (fun i j hi hj=>?_) (fun i j hi hj=>?_)
      ·rw [CU i (by simpa using hi),hQ _ (hA i (by simpa using hi)).1]; rfl
      ·have EP : i<len:=by simpa using hi
       have:=(Nu i (by omega)).1;rw [xx] at this
       have e : i*1+j=i:=by omega
       rw [e]; exact this
      ·have EP : i<len:=by simpa using hi
       have e : i*1+j=i:=by omega
       obtain rfl : j=0:=by omega
       rw [e,CU i EP,hQ _ (hA i EP).1];exact (hA i EP).2
     rw [List.length_map,List.length_range,← hsp] at key;exact key
theorem WB.of {a : AV} (h : WN (fun a=>∃ b : UInt8,a=Go.AW.iB b) a) : WB a:=by
 rcases h with ⟨l,rfl,hl⟩ | h
 ·refine .inl ⟨l.map fun x=>match x with | .int _ n=>UInt8.ofNat n.toNat | _=>0, ?_⟩
  rw [mL,List.map_map]
  congr 1
  have : ∀ x,x∈l→(Go.AW.iB ∘ fun x : AV=>match x with | .int _ n=>UInt8.ofNat n.toNat | _=>0) x=x:=fun x hx=>by
   obtain ⟨n,rfl⟩:=hl x hx
   simp [Go.AW.iB]
  exact ((List.map_congr_left this).trans (by simp)).symm
 ·exact .inr h
theorem ZR : ∀ fuel v d ps,DataW.trod enc Tryz.prog W 0 (fun _=>true) true fuel 22 [v]=some (d,ps)→(∀ n,n∈d.weights Tryz.prog 22→n≤reachBytes)→∃ a,WB a∧Aa (jE W) a v:=fun fuel v d ps k w=>by
 obtain ⟨a,q1,q2⟩:=Z9 Tryz.underlying22 (by kernel_rfl) (of_decide_eq_true (by kernel_rfl)) (fun a ⟨n,e⟩=>by rw [e]; rfl) a6 fuel v d ps k w;exact ⟨a,WB.of q1,q2⟩
end
theorem bL (B n : Nat) (hn : 1048576<n) : PB B 7 [.TU n] (.bool true):=by
 refine ⟨fun H0=>c7.go fun hf=>tt ?_⟩;exact A5 (by congr 1; simp; omega) (.refl _)
end Go.Proofs.Shf
namespace Go.Proofs.Shf
open Go.AW Go.Proofs Go.Shf
theorem fnRightKan_all (B : Nat) (a : AV) (h : WB a) : PB B 6 [a] (.bool true):=by
 rcases h with ⟨l,rfl⟩ | ⟨n,hn,_,rfl⟩
 ·exact fnRightKan_ok B l
 ·refine ⟨fun H0=>c6.go fun _=>tt ?_⟩;refine (bL B n hn).go fun _=>tt ?_;exact A5 rfl (.refl _)
end Go.Proofs.Shf
