/- A part of a proof. -/
import Derived.Test.YtphikjciekmijaaGreatF11
set_option linter.unusedVariables false
set_option linter.unusedSimpArgs false
set_option linter.unusedSectionVars false
set_option maxRecDepth 100000
open Nat (reduceEqDiff reduceAdd reduceMul reduceLeDiff reduceLT)
namespace Go.Proofs.Shf
open Go.AW Go.Proofs Go.Shf
noncomputable def HR (k : FU) (f : SF) (y : Int) : AV:=.ptr [B5 (AK k y),IW (AK k y),B5 (Ap k f y),IW (Ap k f y)]
def bY (k : FU) (f : SF) (y : Int) : Prop:=(AK k y).length≤64∧(Ap k f y).length≤16
def RlQ (k : FU) (f : SF) (y : Int) (r : AV) : Prop:=(bY k f y→r=.CQ [HR k f y,.bool true])∧(¬ bY k f y→∃ X,r=.CQ [X,.bool false])
theorem imap_cells (a b : List AV) : (AV.CS a b).cells=[.CS a b]:=rfl
theorem S5 (a b : List AV) : ∀ c,c∈[AV.CS a b]→c.one=true:=fun c hc=>by obtain rfl:=List.mem_singleton.mp hc; rfl
def rA (S : List (List Int)) (X1 X2 X3 : AV) : List AV:=[B5 S,X1,X2,X3]
theorem OE (B : Nat) {k : FU} {f : SF} (hk : k.Is) (hf : f.Is) (sh : f.shape=k.src) (y : Int) : Dt B 230 [.ptr k.cells,.ptr f.cells,iI y] (RlQ k f y):=by
 intro H0;refine wT.go fun _=>?_
 have GC:=Q4 hk hf sh (y:=y)
 have so:=hk.sI.1.o
 have sm:=hk.sI.1.m
 have Tb:=hf.1.sl
 have Nk:=hf.1.al;rw [sh] at Tb Nk
 obtain ⟨S,hS⟩ : ∃ S,AK k y=S:=⟨_,rfl⟩
 have yQ : S.length≤40*k.src.AF.toNat:=by rw [← hS]; exact FH k hk.tI.1 y _
 have o : A9 H0 H0 []:=.nil _;refine tt ?_;refine (O9 B k hk y).go fun _=>?_;rw [hS];refine tt ?_;refine Ai o fun Cm H o=>?_
 have o : A9 H0 H [(Cm,.cells 4 (rA S (.CS [] []) .A0 (.CS [] [])) 0)]:=o;refine tt ?_;refine AH o (by simp [rA]) ?_
 have e0 : (rA S (.CS [] []) .A0 (.CS [] [])).getD 0 nv=B5 S:=rfl;refine tw e0 ?_;apply bk <;> intro h1
 ·have AU:=A6 h1;refine tt ?_;exact B0 ⟨fun h=>by have:=h.1; rw [hS] at this; omega,fun _=>⟨_,rfl⟩⟩ o.sub
 have AU : S.length≤64:=by have:=A7 h1; omega
 refine tt ?_;refine AH o (by simp [rA]) ?_;refine tw e0 ?_;refine (Ou B S (by omega) fun l hl=>by rw [← hS] at hl; rw [(Ci hl).len]; omega).go fun _=>?_;refine tw imap_cells ?_;refine AS o (by simp [rA]) rfl (S5 _ _) fun H o=>?_;rw [show wr (rA S (.CS [] []) .A0 (.CS [] [])) 1 [.CS (Lj S S.length).1 (Lj S S.length).2]=rA S (IW S) .A0 (.CS [] []) from rfl] at o
 have e1 : (rA S (IW S) .A0 (.CS [] [])).getD 0 nv=B5 S:=rfl;refine tt ?_;refine AP o fun b9 H o=>tt ?_;refine Kt Lh o fun b10 H o=>?_
 have o : A9 H0 H [(b10,.cells 3 (flat (((Bc k S 0).map (EE f (Cy k f y))).map Lh)) 0),(b9,.cells 1 (((Cy k f y).take 0).map iI) 0),(Cm,.cells 4 (rA S (IW S) .A0 (.CS [] [])) 0)]:=o;refine tt ?_;refine AH o.tl.tl (by simp [rA]) ?_;refine tw e1 ?_
 refine AD [0,1,8,41,42] (G:=Nat × Nat) (fun n g=>[(9,some (.buf g.1 n)),(10,some (.buf g.2 (Bc k S n).length)),(43,some (.int .i64 (n : Int)))])
  (fun n g H=>A9 H0 H [(g.2,.cells 3 (flat (((Bc k S n).map (EE f (Cy k f y))).map Lh)) 0),(g.1,.cells 1 (((Cy k f y).take n).map iI) 0),(Cm,.cells 4 (rA S (IW S) .A0 (.CS [] [])) 0)]) S.length (b9,b10) o rfl ?_
 clear o
 rintro n ⟨b9,b10⟩ H hn o;dsimp only at o
 have kZ : (Cy k f y).length=S.length:=by rw [Dp,hS]
 have WA : (Bc k S n).length≤40*n:=Gd k hk.sI.1 _ n;refine tt ?_;apply bk <;> intro h2
 rotate_left
 ·have Aq:=A7 h2
  obtain rfl : n=S.length:=by omega
  have ez : (Cy k f y).take S.length=Cy k f y:=List.take_of_length_le (by omega)
  have er : (Bc k S S.length).map (EE f (Cy k f y))=Ek k f y:=by rw [Ek,DS,hS]
  have erl : (Bc k S S.length).length=(Ek k f y).length:=by rw [← er,List.length_map]
  rw [ez,er] at o;refine tt ?_;refine Qr (f:=Lh) o erl fun H o=>tt ?_;refine Am (f:=iI) o kZ.symm fun H o=>tt ?_;refine (ZE B (Cy k f y) (Ek k f y) GC (by omega) (fun i hi=>by have:=GC.ok.sz _ (AE.mpr ⟨i,hi,rfl⟩); omega) (by omega) 16 (by omega)).go fun _=>?_
  obtain ⟨L,hL⟩ : ∃ L,(Ap k f y).take 17=L:=⟨_,rfl⟩
  have yn : L.length≤17:=by rw [← hL,List.length_take]; omega
  have hLe : ∀ l,l∈L→l.length≤1000:=fun l hl=>by
   rw [← hL] at hl;rw [GH hk hf sh (List.mem_of_mem_take hl),hS]; omega
  rw [show OB (Cy k f y) (Ek k f y)=Ap k f y from rfl,show (Ap k f y).take (16+1)=L from hL];refine tt ?_;refine (Ou B L (by omega) hLe).go fun _=>tt ?_;refine AS o (by simp [rA]) (by (try simp only [go_sem]); (try simp)) (by first | (simp only [go_sem]; done) | ((try simp only [go_sem]); simp [AV.one,Ay])) fun H o=>?_;rw [show wr (rA S (IW S) .A0 (.CS [] [])) 2 [B5 L]=rA S (IW S) (B5 L) (.CS [] []) from rfl] at o;refine tw imap_cells ?_;refine AS o (by simp [rA]) rfl (S5 _ _) fun H o=>?_;rw [show wr (rA S (IW S) (B5 L) (.CS [] [])) 3 [.CS (Lj L L.length).1 (Lj L L.length).2]=rA S (IW S) (B5 L) (IW L) from rfl] at o;refine tt ?_;refine Ca 8 o rfl fun H o=>AX ?_;refine tt ?_;refine B0 ⟨fun h=>?_,fun h=>?_⟩ o.sub
  ·have h2:=h.2
   have xl : L=Ap k f y:=by rw [← hL,List.take_of_length_le (by omega)]
   rw [decide_eq_true h2,xl];unfold HR rA;rw [hS]
  ·have h2 : ¬ (Ap k f y).length≤16:=fun q=>h ⟨by rw [hS]; omega,q⟩;rw [decide_eq_false h2];exact ⟨_,rfl⟩
 have Aq:=A6 h2
 have w:=ws n
 obtain ⟨s,hs⟩ : ∃ s,S.getD n default=s:=⟨_,rfl⟩
 have sm2 : s∈AK k y:=by rw [hS,← hs]; exact AE.mpr ⟨n,Aq,rfl⟩
 have sk:=Ci sm2
 have sl:=sk.len
 have sl0 : (0 : Int)≤0∧Int.toNat 0<s.length:=⟨by decide,by rw [sl]; decide⟩
 have sl1 : (0 : Int)≤1∧Int.toNat 1<s.length:=⟨by decide,by rw [sl]; decide⟩
 have hx : 0≤s.getD 0 default∧(s.getD 0 default).toNat<f.A1.length:=⟨sk.x.1,by have:=sk.x.1; have:=sk.x.2; omega⟩
 have hzn : ((Cy k f y).take n).length=n:=by rw [List.length_take]; omega
 have et:=Ar (Cy k f y) (k:=n) (by omega);rw [Ho (by rw [hS]; exact Aq),hS,hs] at et;refine tt ?_;refine ⟨Aq, ?_⟩;rw [hs];refine tt ?_;refine ⟨sl0,tt ?_⟩;refine ⟨hx, ?_⟩;refine Ae (ix f.A1 (s.getD 0 default)) o.swap rfl hzn.symm (by rw [hzn]; simp only [AN]; omega) fun b9 H o=>?_
 have hzn2 : ((Cy k f y).take (n+1)).length=n+1:=by rw [List.length_take]; omega
 rw [← et] at o ⊢;rw [hzn2];refine tt ?_;refine ⟨sl0, ?_⟩;refine ⟨_,(TA B k.src (s.getD 0 default)).run, ?_⟩
 obtain ⟨L,hL⟩ : ∃ L,outs k.src (s.getD 0 default)=L:=⟨_,rfl⟩
 have yn : L.length≤k.src.AB.length:=by rw [← hL,IY]; exact IA _ _
 have hLm : ∀ a,a∈L→k.src.DB a∧ix k.src.AB a=s.getD 0 default:=fun a ha=>by
  rw [← hL] at ha
  have:=Dl.mp ha;exact ⟨⟨this.1,this.2.1⟩,this.2.2⟩
 have erow : (Bc k S (n+1)).map (EE f (Cy k f y))=(Bc k S n).map (EE f (Cy k f y))++L.map fun a=>EE f (Cy k f y) (FC k S n a):=by
  rw [Fx,List.map_append,hs,hL,List.map_map]; rfl
 have erl : (Bc k S (n+1)).length=(Bc k S n).length+L.length:=by
  rw [Fx,List.length_append,hs,hL,List.length_map]
 rw [hL];refine tt ?_
 have o : A9 H0 H [(b10,.cells 3 (flat (((Bc k S n).map (EE f (Cy k f y))++(L.take 0).map fun a=>EE f (Cy k f y) (FC k S n a)).map Lh)) 0),(b9,.cells 1 (((Cy k f y).take (n+1)).map iI) 0),(Cm,.cells 4 (rA S (IW S) .A0 (.CS [] [])) 0)]:=by
  simpa using o.swap
 refine AD [0,1,8,9,11,12,41,42,43,66,67] (G:=Nat) (fun j b=>[(10,some (.buf b ((Bc k S n).length+j))),(68,some (.int .i64 (j : Int)))])
  (fun j b H=>A9 H0 H [(b,.cells 3 (flat (((Bc k S n).map (EE f (Cy k f y))++(L.take j).map fun a=>EE f (Cy k f y) (FC k S n a)).map Lh)) 0),(b9,.cells 1 (((Cy k f y).take (n+1)).map iI) 0),(Cm,.cells 4 (rA S (IW S) .A0 (.CS [] [])) 0)]) L.length b10 o rfl ?_
 clear o
 rintro j b10 H hj o
 replace o : A9 H0 H [(b10,.cells 3 (flat (((Bc k S n).map (EE f (Cy k f y))++(L.take j).map fun a=>EE f (Cy k f y) (FC k S n a)).map Lh)) 0),(b9,.cells 1 (((Cy k f y).take (n+1)).map iI) 0),(Cm,.cells 4 (rA S (IW S) .A0 (.CS [] [])) 0)]:=o
 have xL : ((Bc k S n).map (EE f (Cy k f y))++(L.take j).map fun a=>EE f (Cy k f y) (FC k S n a)).length=(Bc k S n).length+j:=by
  rw [List.length_append,List.length_map,List.length_map,List.length_take]; omega
 refine tt ?_;apply bk <;> intro h3
 rotate_left
 ·have BH:=A7 h3
  obtain rfl : j=L.length:=by omega
  rw [List.take_length,← erow] at o;rw [← erl];refine tw w ?_;exact A4 (b9,b10) Aq o rfl
 have BH:=A6 h3
 have w2:=ws j
 obtain ⟨a,ha⟩ : ∃ a,L.getD j default=a:=⟨_,rfl⟩
 obtain ⟨Ke,hae⟩:=hLm a (by rw [← ha]; exact AE.mpr ⟨j,BH,rfl⟩)
 have tI:=hk.sI.1.v9 Ke
 have aI:=hk.Md Ke
 have fa : 0≤a∧a.toNat<f.AJ.length:=⟨Ke.1,by rw [Nk]; exact Ke.2⟩
 have ts:=Ew hk sk Ke hae
 have g8:=o.tl.tl.h0;refine tt ?_;refine ⟨BH, ?_⟩;rw [ha];refine tt ?_;refine ⟨tI,sl1,⟨Ke.1,aI.1⟩, ?_⟩;refine ⟨_,(Vs B hk.tI.1 sk.h ⟨aI.2.1,aI.2.2⟩).run,tt ?_⟩;refine ⟨fa, ?_⟩;refine (Yj B hk (y:=y) (X0:=B5 S) (X2:=.A0) (X3:=.CS [] []) (x:=ix k.src.to a) (h:=ix (ix k.AL.comp (s.getD 1 default)) (ix k.ar a)) ts.mem Cm 0 H (by rw [hS]; exact g8)).mono ?_
 rintro r H' ⟨rfl,rfl⟩;refine ⟨fun z _=>(AA.sub.refl H').N9 z, ?_⟩;rw [hS];refine tt ?_;refine GS (f:=Lh) (EE f (Cy k f y) (FC k S n a)) o (by rw [FC,hs]; rfl) xL.symm (by rw [xL]; simp only [AN]; omega) fun b10 H o=>?_
 have et3 : ((Bc k S n).map (EE f (Cy k f y))++(L.take (j+1)).map fun a=>EE f (Cy k f y) (FC k S n a))=((Bc k S n).map (EE f (Cy k f y))++(L.take j).map fun a=>EE f (Cy k f y) (FC k S n a))++[EE f (Cy k f y) (FC k S n a)]:=by
  rw [Ar _ BH,List.map_append,ha,List.append_assoc]; rfl
 have zl : ((Bc k S n).map (EE f (Cy k f y))++(L.take (j+1)).map fun a=>EE f (Cy k f y) (FC k S n a)).length=(Bc k S n).length+(j+1):=by
  rw [et3,List.length_append,xL]; rfl
 rw [← et3] at o ⊢;rw [zl];refine tw w2 ?_;exact A4 b10 BH o rfl
instance (k : FU) (f : SF) : One (HR k f):=⟨fun _=>rfl,fun _=>rfl⟩
def xC (k : FU) (X5 X6 X8 : AV) : List AV:=[.ptr k.cells,iI k.AL.AF,iL k.AL.AB,iL k.AL.to,iL k.AL.Ac,B5 k.AL.comp,X5,X6,X8]
theorem uT {k : FU} {X5 X6 X8 Y : AV} : wr (xC k X5 X6 X8) 6 [Y]=xC k Y X6 X8:=rfl
theorem u6 {k : FU} {X5 X6 X8 Y : AV} : wr (xC k X5 X6 X8) 7 [Y]=xC k X5 Y X8:=rfl
theorem u4 {k : FU} {X5 X6 X8 Y : AV} : wr (xC k X5 X6 X8) 8 [Y]=xC k X5 X6 Y:=rfl
noncomputable def bK (k : FU) (f : SF) : List AV:=xC k (iL (Bl k f).A1) (B5 (Bl k f).AJ) (mL (HR k f) (BG k.AL.AF))
def XrQ (k : FU) (f : SF) (r : AV) : Prop:=(G8 k f→r=.CQ [.ptr (bK k f),.bool true])∧(¬ G8 k f→∃ X,r=.CQ [X,.bool false])
theorem Tw (n : Nat) : BG ((n+1 : Nat) : Int)=BG (n : Int)++[(n : Int)]:=by simp [BG,List.range_succ]
theorem Yy {k : FU} {f : SF} (hk : k.Is) (hf : f.Is) (sh : f.shape=k.src) (y : Int) : ∀ l,l∈Ap k f y→∀ z,z∈l→0≤z∧z<255:=fun l hl z hz=>by
 have q:=((M3 hk hf sh).mem l).mp hl
 obtain ⟨i,hi,rfl⟩:=AE.mp hz
 have Xk : i<(Cy k f y).length:=by rw [← q.len]; exact hi
 have h1:=q.Nt i Xk
 have h2:=hf.1.HA (y:=((AK k y).getD i default).getD 0 default) (by rw [sh]; exact (FW (by rw [Dp] at Xk; exact Xk)).x);rw [Ho (by rw [Dp] at Xk; exact Xk)] at h1;omega
theorem D8 (B : Nat) {k : FU} {f : SF} (hk : k.Is) (hf : f.Is) (sh : f.shape=k.src) : Dt B 138 [.ptr k.cells,.ptr f.cells] (XrQ k f):=by
 intro H0;refine sQ.go fun _=>?_
 have so:=hk.tI.1.o
 have sm:=hk.tI.1.m
 have o : A9 H0 H0 []:=.nil _;refine tt ?_;refine (JV B k.AL).go fun _=>tt ?_;refine nb o fun CT H o=>?_
 have o : A9 H0 H ((CT,.cells 9 (xC k .A0 .A0 .A0) 0)::([]++[])):=o;refine tt ?_
 refine AD [0,1,6,7] (G:=(AV × Ob) × (AV × Ob)) (fun n _=>[(8,some (.int .i64 (n : Int)))])
  (fun n g H=>(∀ y : Nat,y<n→bY k f y)∧Lp iI g.1.2 g.1.1 (CD k f n)∧Lp (HR k f) g.2.2 g.2.1 (BG (n : Int))∧A9 H0 H ((CT,.cells 9 (xC k g.1.1 .A0 g.2.1) 0)::(g.1.2++g.2.2))) k.AL.AF.toNat ((.A0,[]),(.A0,[])) ⟨fun y hy=>by omega,.inl ⟨rfl,rfl,rfl⟩,.inl ⟨rfl,rfl,rfl⟩,o⟩ rfl ?_
 clear o
 rintro n ⟨⟨X5,p5⟩,⟨X8,p8⟩⟩ H hn ⟨KX,h5,h8,o⟩;dsimp only at h5 h8 o
 have CW : (CD k f n).length=n:=by simp [CD]
 have Ga : (BG (n : Int)).length=n:=by simp [BG]
 refine tt ?_;apply bk <;> intro h1
 ·have AU:=A6 h1
  have w:=ws n
  have L9 : k.AL.ES n:=⟨by omega,AU⟩;refine tt ?_;refine (OE B hk hf sh n).go fun r _ ⟨hy,Ea⟩=>?_
  by_cases fy : bY k f n
  rotate_left
  ·obtain ⟨X,e⟩:=Ea fy;rw [e];refine tt ?_;exact B0 ⟨fun q=>absurd (q n L9) fy,fun _=>⟨_,rfl⟩⟩ o.sub
  rw [hy fy]
  have TY:=fy.2;refine tt ?_;refine AH o (by simp [xC]) ?_
  have e8 : (xC k X5 .A0 X8).getD 8 nv=X8:=rfl
  have eat : (HR k f n).cells=[HR k f n]:=rfl;refine t2 e8 eat ?_
  refine ⟨rfl, ?_⟩;refine (CP.mk (f:=HR k f) (p:=p8) (l:=(CT,.cells 9 (xC k X5 .A0 X8) 0)::p5) (o.pm) h8).app (n : Int) rfl (by rw [Ga]; simp only [AN]; omega) fun i8 H o=>?_;rw [← Tw] at o ⊢;refine tt ?_;refine AS o.swap (by simp [xC]) (by (try simp only [go_sem]); (try simp)) (by first | (simp only [go_sem]; done) | ((try simp only [go_sem]); simp [AV.one,Ay])) fun H o=>?_;rw [u4] at o
  have g7:=o.h0
  have e6 : (xC k X5 .A0 (.buf i8 (BG ((n+1 : Nat) : Int)).length)).getD 6 nv=X5:=rfl;refine tt ?_;refine ⟨⟨_,_,g7⟩,Aj g7 (by simp [xC]) ?_⟩;rw [e6];unfold HR;refine tt ?_;refine (CP.mk (f:=iI) (p:=p5) (l:=(CT,.cells 9 (xC k X5 .A0 (.buf i8 (BG ((n+1 : Nat) : Int)).length)) 0)::[(i8,.cells 1 ((BG ((n+1 : Nat) : Int)).map (HR k f)) 0)]) (o.pm) h5).app ((Ap k f n).length : Int) rfl (by rw [CW]; simp only [AN]; omega) fun i5 H o=>?_;rw [← OX] at o ⊢;refine tt ?_;refine AS o.swap (by simp [xC]) (by (try simp only [go_sem]); (try simp)) (by first | (simp only [go_sem]; done) | ((try simp only [go_sem]); simp [AV.one,Ay])) fun H o=>?_;rw [uT] at o;refine tw w ?_;refine A4 ((.buf i5 (CD k f (n+1)).length,[(i5,.cells 1 ((CD k f (n+1)).map iI) 0)]),(.buf i8 (BG ((n+1 : Nat) : Int)).length,[(i8,.cells 1 ((BG ((n+1 : Nat) : Int)).map (HR k f)) 0)])) (by omega) ⟨fun y hy=>?_,.inr ⟨i5,rfl,rfl⟩,.inr ⟨i8,rfl,rfl⟩,o⟩ rfl
  rcases Nat.lt_succ_iff_lt_or_eq.mp hy with h | rfl
  ·exact KX y h
  ·exact fy
 have AU:=A7 h1
 obtain rfl : n=k.AL.AF.toNat:=by omega
 have fit : G8 k f:=fun y hy=>by
  have:=KX y.toNat (by have:=hy.1; have:=hy.2; omega)
  rwa [Int.toNat_of_nonneg hy.1] at this
 have eN : ((k.AL.AF.toNat : Nat) : Int)=k.AL.AF:=Int.toNat_of_nonneg so.1;rw [eN] at h8;clear h1 KX hn Ga;refine tt ?_;refine FK (f:=HR k f) 8 (CP.mk (p:=p8) (l:=(CT,.cells 9 (xC k X5 .A0 X8) 0)::p5) (o.pm) h8) rfl fun H o=>AX ?_
 have o : A9 H0 H ((CT,.cells 9 (xC k X5 .A0 (mL (HR k f) (BG k.AL.AF))) 0)::(p5++[])):=by rw [List.append_nil]; exact o
 have hA : ∀ y,k.AL.ES y→(0≤y∧y.toNat<(BG k.AL.AF).length)∧(BG k.AL.AF).getD y.toNat default=y:=fun y hy=>by
  have h1:=hy.1
  have h2:=hy.2;refine ⟨⟨h1,by rw [Et]; omega⟩, ?_⟩;exact EN ⟨h1,h2⟩
 refine tt ?_;refine AD [6,7,76] (G:=AV × Ob) (fun b _=>[(77,some (.int .i64 (b : Int)))]) (fun b g H=>Lp iL g.2 g.1 (Gy k f b)∧A9 H0 H ((CT,.cells 9 (xC k X5 g.1 (mL (HR k f) (BG k.AL.AF))) 0)::(p5++g.2))) k.AL.AB.length (.A0,[]) ⟨.inl ⟨rfl,rfl,rfl⟩,o⟩ rfl ?_;clear o
 rintro b ⟨X6,p6⟩ H hb ⟨h6,o⟩;dsimp only at h6 o
 have Tc : (Gy k f b).length=b:=by simp [Gy]
 refine tt ?_;apply bk <;> intro h1
 rotate_left
 ·have AU:=A7 h1
  obtain rfl : b=k.AL.AB.length:=by omega
  refine tt ?_;refine FK (f:=iI) 6 (CP.mk (p:=p5) (l:=(CT,.cells 9 (xC k X5 X6 (mL (HR k f) (BG k.AL.AF))) 0)::p6) (o.pm) h5) rfl fun H o=>?_
  have o : A9 H0 H ((CT,.cells 9 (xC k (iL (CD k f k.AL.AF.toNat)) X6 (mL (HR k f) (BG k.AL.AF))) 0)::p6):=o;refine FK (f:=iL) 7 (CP.mk (p:=p6) (l:=(CT,.cells 9 (xC k (iL (CD k f k.AL.AF.toNat)) X6 (mL (HR k f) (BG k.AL.AF))) 0)::[]) (o.perm (List.perm_append_singleton _ _).symm) h6) rfl fun H o=>?_;refine Ca 7 o rfl fun H o=>AX ?_;refine tt ?_;exact B0 ⟨fun _=>rfl,fun q=>absurd fit q⟩ o.sub
 have AU:=A6 h1
 have w:=ws b
 have OM : k.AL.DB b:=⟨by omega,AU⟩
 have tI:=hk.tI.1.v9 OM
 have fo:=hk.tI.1.pO OM
 have to:=hk.tI.1.qR OM
 have Af:=hA _ fo
 have Att:=hA _ to
 have l9:=(fit _ fo).2
 have Td:=(fit _ to).1
 have g7:=o.h0
 have e8 : (xC k X5 X6 (mL (HR k f) (BG k.AL.AF))).getD 8 nv=mL (HR k f) (BG k.AL.AF):=rfl
 have tI2 : b<k.AL.to.length:=by have:=tI.2; simpa using this
 refine tt ?_;refine AH o (by simp [xC]) ?_;rw [e8];refine tt ?_;refine ⟨AU,Af.1, ?_⟩;refine AH o (by simp [xC]) ?_;rw [e8];refine tt ?_;refine ⟨tI2,Att.1, ?_⟩;rw [show ix (BG k.AL.AF) (k.AL.AB.getD b default)=ix k.AL.AB b from Af.2,show ix (BG k.AL.AF) (k.AL.to.getD b default)=ix k.AL.to b from Att.2]
 obtain ⟨Lf,ja⟩ : ∃ L,Ap k f (ix k.AL.AB b)=L:=⟨_,rfl⟩
 obtain ⟨Lt,yM⟩ : ∃ L,Ap k f (ix k.AL.to b)=L:=⟨_,rfl⟩
 obtain ⟨Sf,yI⟩ : ∃ L,AK k (ix k.AL.AB b)=L:=⟨_,rfl⟩
 obtain ⟨St,js⟩ : ∃ L,AK k (ix k.AL.to b)=L:=⟨_,rfl⟩
 have hLfl : Lf.length≤16:=by rw [← ja]; exact l9
 have hStl : St.length≤64:=by rw [← js]; exact Td
 have eaf : HR k f (ix k.AL.AB b)=.ptr [B5 Sf,IW Sf,B5 Lf,IW Lf]:=by rw [HR,yI,ja]
 have eat : HR k f (ix k.AL.to b)=.ptr [B5 St,IW St,B5 Lt,IW Lt]:=by rw [HR,js,yM]
 rw [eaf,eat];refine AP o fun b14 H o=>?_
 have o : A9 H0 H ((b14,.cells 1 (((Lf.take 0).map fun t=>indexOf Lt (Fc k t b)).map iI) 0)::(CT,.cells 9 (xC k X5 X6 (mL (HR k f) (BG k.AL.AF))) 0)::(p5++p6)):=o;refine tt ?_
 refine AD [6,7,11,12,13,76,77,110,111] (G:=Nat) (fun i b14=>[(14,some (.buf b14 i)),(112,some (.int .i64 (i : Int)))])
  (fun i b14 H=>A9 H0 H ((b14,.cells 1 (((Lf.take i).map fun t=>indexOf Lt (Fc k t b)).map iI) 0)::(CT,.cells 9 (xC k X5 X6 (mL (HR k f) (BG k.AL.AF))) 0)::(p5++p6))) Lf.length b14 o rfl ?_
 clear o
 rintro i b14 H hi o
 replace o : A9 H0 H ((b14,.cells 1 (((Lf.take i).map fun t=>indexOf Lt (Fc k t b)).map iI) 0)::(CT,.cells 9 (xC k X5 X6 (mL (HR k f) (BG k.AL.AF))) 0)::(p5++p6)):=o
 have KU : ((Lf.take i).map fun t=>indexOf Lt (Fc k t b)).length=i:=by rw [List.length_map,List.length_take]; omega
 refine tt ?_;apply bk <;> intro h2
 rotate_left
 ·have Aq:=A7 h2
  obtain rfl : i=Lf.length:=by omega
  have eac : ((Lf.take Lf.length).map fun t=>indexOf Lt (Fc k t b))=Ff k f b:=by rw [List.take_length,Ff,ja,yM]
  rw [eac] at o KU;refine tt ?_;refine Am (f:=iI) o KU.symm fun H o=>tt ?_;refine AH o (by simp [xC]) ?_
  have e7 : (xC k X5 X6 (mL (HR k f) (BG k.AL.AF))).getD 7 nv=X6:=rfl;refine tw e7 ?_;refine (CP.mk (f:=iL) (p:=p6) (l:=(CT,.cells 9 (xC k X5 X6 (mL (HR k f) (BG k.AL.AF))) 0)::p5) (o.pm) h6).app (Ff k f b) rfl (by rw [Tc]; simp only [AN]; omega) fun i6 H o=>?_;rw [← P9] at o ⊢;refine tt ?_;refine AS o.swap (by simp [xC]) (by (try simp only [go_sem]); (try simp)) (by first | (simp only [go_sem]; done) | ((try simp only [go_sem]); simp [AV.one,Ay])) fun H o=>?_;rw [u6] at o;refine tw w ?_;refine A4 (.buf i6 (Gy k f (b+1)).length,[(i6,.cells 1 ((Gy k f (b+1)).map iL) 0)]) AU ⟨.inr ⟨i6,rfl,rfl⟩, ?_⟩ rfl;refine o.perm ?_;exact NU fun x=>by simp only [List.count_append,List.count_cons,List.count_nil]; omega
 have Aq:=A6 h2
 have w2:=ws i
 obtain ⟨t,ht⟩ : ∃ t,Lf.getD i default=t:=⟨_,rfl⟩
 have htm : t∈Ap k f (ix k.AL.AB b):=by rw [ja,← ht]; exact AE.mpr ⟨i,Aq,rfl⟩
 have Jc : t.length=Sf.length:=by rw [← yI]; exact GH hk hf sh htm
 have hmv : Fc k t b∈Lt:=by rw [← yM]; exact (G3 hk hf sh).mpr (eU hk OM ((G3 hk hf sh).mp htm))
 have hmd : Fc k t b=St.map fun s=>ix t (indexOf Sf (BP k b s)):=by rw [K1,js,yI]
 refine tt ?_;refine ⟨Aq, ?_⟩;rw [ht];refine tt ?_;refine AP o fun b17 H o=>?_
 have o : A9 H0 H ((b17,.cells 1 (((St.take 0).map fun s=>ix t (indexOf Sf (BP k b s))).map iI) 0)::(b14,.cells 1 (((Lf.take i).map fun t=>indexOf Lt (Fc k t b)).map iI) 0)::(CT,.cells 9 (xC k X5 X6 (mL (HR k f) (BG k.AL.AF))) 0)::(p5++p6)):=o;refine tt ?_
 refine AD [6,7,11,12,13,14,16,76,77,110,111,112,120,121] (G:=Nat) (fun j b17=>[(17,some (.buf b17 j)),(122,some (.int .i64 (j : Int)))])
  (fun j b17 H=>A9 H0 H ((b17,.cells 1 (((St.take j).map fun s=>ix t (indexOf Sf (BP k b s))).map iI) 0)::(b14,.cells 1 (((Lf.take i).map fun t=>indexOf Lt (Fc k t b)).map iI) 0)::(CT,.cells 9 (xC k X5 X6 (mL (HR k f) (BG k.AL.AF))) 0)::(p5++p6))) St.length b17 o rfl ?_
 clear o
 rintro j b17 H hj o
 replace o : A9 H0 H ((b17,.cells 1 (((St.take j).map fun s=>ix t (indexOf Sf (BP k b s))).map iI) 0)::(b14,.cells 1 (((Lf.take i).map fun t=>indexOf Lt (Fc k t b)).map iI) 0)::(CT,.cells 9 (xC k X5 X6 (mL (HR k f) (BG k.AL.AF))) 0)::(p5++p6)):=o
 have Fb : ((St.take j).map fun s=>ix t (indexOf Sf (BP k b s))).length=j:=by rw [List.length_map,List.length_take]; omega
 refine tt ?_;apply bk <;> intro h3
 rotate_left
 ·have BH:=A7 h3
  obtain rfl : j=St.length:=by omega
  rw [List.take_length,← hmd] at o Fb;refine tt ?_;refine Am (f:=iI) o Fb.symm fun H o=>tt ?_;refine ⟨_,(Mv B [Fc k t b] (by simp [D0]; omega)).run, ?_⟩;refine QA (L:=Lt) (by rw [← yM]; exact IV hk hf sh) (by rw [← yM]; exact Yy hk hf sh _) hmv ?_;refine tt ?_;refine Ae (indexOf Lt (Fc k t b)) o rfl KU.symm (by rw [KU]; simp only [AN]; omega) fun b14 H o=>?_
  have et : ((Lf.take (i+1)).map fun t=>indexOf Lt (Fc k t b))=((Lf.take i).map fun t=>indexOf Lt (Fc k t b))++[indexOf Lt (Fc k t b)]:=by rw [Ar _ Aq,List.map_append,ht]; rfl
  have Ce : ((Lf.take (i+1)).map fun t=>indexOf Lt (Fc k t b)).length=i+1:=by rw [List.length_map,List.length_take]; omega
  rw [← et] at o ⊢;rw [Ce];refine tw w2 ?_;exact A4 b14 Aq o rfl
 have BH:=A6 h3
 have w3:=ws j
 obtain ⟨s,hs⟩ : ∃ s,St.getD j default=s:=⟨_,rfl⟩
 have sk : DN k (ix k.AL.to b) s:=Ci (by rw [js,← hs]; exact AE.mpr ⟨j,BH,rfl⟩)
 have sl:=sk.len
 have sl0 : (0 : Int)≤0∧Int.toNat 0<s.length:=⟨by decide,by rw [sl]; decide⟩
 have sl1 : (0 : Int)≤1∧Int.toNat 1<s.length:=⟨by decide,by rw [sl]; decide⟩
 have bm:=(Er hk OM sk).mem
 have bi:=Yn hk OM sk;rw [yI] at bi;refine tt ?_;refine ⟨BH, ?_⟩;rw [hs];refine tt ?_;refine ⟨sl0,sl1, ?_⟩;refine ⟨_,(Vs B hk.tI.1 OM sk.h).run,tt ?_⟩
 refine ⟨_,(show HG Tryz.prog B 147 [.ptr [B5 Sf,IW Sf,B5 Lf,IW Lf],iI (s.getD 0 default),iI (ix (ix k.AL.comp b) (s.getD 1 default))] (iI (indexOf Sf (BP k b s))) by
  have:=(TE B hk (X0:=B5 Sf) (X2:=B5 Lf) (X3:=IW Lf) bm).run;rw [yI] at this;exact this), ?_⟩
 refine tt ?_;refine ⟨⟨bi.1,by rw [Jc]; exact bi.2⟩, ?_⟩;refine Ae (ix t (indexOf Sf (BP k b s))) o rfl Fb.symm (by rw [Fb]; simp only [AN]; omega) fun b17 H o=>?_
 have et : ((St.take (j+1)).map fun s=>ix t (indexOf Sf (BP k b s)))=((St.take j).map fun s=>ix t (indexOf Sf (BP k b s)))++[ix t (indexOf Sf (BP k b s))]:=by rw [Ar _ BH,List.map_append,hs]; rfl
 have Ce : ((St.take (j+1)).map fun s=>ix t (indexOf Sf (BP k b s))).length=j+1:=by rw [List.length_map,List.length_take]; omega
 rw [← et] at o ⊢;rw [Ce];refine tw w3 ?_;exact A4 b17 BH o rfl
theorem fS (k : FU) {y : Int} (hy : k.AL.ES y) : (0≤y∧y.toNat<(BG k.AL.AF).length)∧(BG k.AL.AF).getD y.toNat default=y:=by
 have h1:=hy.1
 have h2:=hy.2;refine ⟨⟨h1,by rw [Et]; omega⟩, ?_⟩;exact EN ⟨h1,h2⟩
theorem NT (B : Nat) (k : FU) (f : SF) : PB B 44 [.agg k.cells,.agg f.cells] (bO k f):=by
 by_cases hE : Cb k f k.src=0
 rotate_left
 ·have hc : Cw k f=Cb k f k.src:=by rw [Cw,if_neg hE]
  rw [bO,hc,if_neg hE];refine RC.Lm (r:=.CQ [.agg Bb,iI (Cb k f k.src)]) ⟨fun H0=>gY.go fun _=>?_⟩ (MB.code Lr)
  have o : A9 H0 H0 []:=.nil _;refine tt ?_;refine nb o fun B1 H o=>tt ?_;refine (Fl B k f).go fun _=>?_
  generalize Cb k f k.src=cd at hE;refine tt ?_;rw [decide_eq_false hE];refine tt ?_;refine sw o fun H o=>tt ?_;rw [o.rc 15 0 (by simp)];refine tt ?_;exact A5 rfl o.sub
 obtain ⟨hk,hf,sh⟩:=Qk hE
 by_cases fit : G8 k f
 rotate_left
 ·have hc : Cw k f=3:=by rw [Cw,if_pos hE,if_neg fit]
  rw [bO,hc,if_neg (by decide)];refine RC.Lm (r:=.CQ [.agg Bb,iI 3]) ⟨fun H0=>gY.go fun _=>?_⟩ (MB.code Lr)
  have o : A9 H0 H0 []:=.nil _;refine tt ?_;refine nb o fun B1 H o=>tt ?_;refine (Fl B k f).go fun _=>?_;rw [hE];refine td ?_;refine (D8 B hk hf sh).go fun r _ ⟨hy,hn⟩=>?_
  obtain ⟨X,e⟩:=hn fit;rw [e];refine tt ?_;refine AS o (by simp [Bb]) (by (try simp only [go_sem]); (try simp)) (by first | (simp only [go_sem]; done) | ((try simp only [go_sem]); simp [AV.one,Ay])) fun H o=>?_;have o:=s2 o;refine tt ?_;rw [o.rc 15 0 (by simp)];refine tt ?_;exact A5 rfl o.sub
 have hc : Cw k f=0:=by rw [Cw,if_pos hE,if_pos fit]
 have hs:=M9 hk hf sh fit;rw [bO,if_pos hc,hc];refine ⟨fun H0=>gY.go fun _=>?_⟩
 have o : A9 H0 H0 []:=.nil _;refine tt ?_;refine nb o fun B1 H o=>tt ?_;refine (Fl B k f).go fun _=>?_;rw [hE];refine td ?_;refine (D8 B hk hf sh).go fun r _ ⟨hy,hn⟩=>?_;rw [hy fit]
 have obl:=hk.fit.ol
 have so:=hk.sI.1.o
 have RG : (BX k f).length=k.ob.length:=by simp [BX]; omega
 unfold bK xC;refine tt ?_;refine AP o fun b9 H o=>?_
 have o : A9 H0 H [(b9,.cells 1 (((BX k f).take 0).map iL) 0),(B1,.cells 15 Bb 0)]:=o;refine tt ?_;refine AD [2,3,4,7,27,28] (G:=Nat) (fun n b=>[(9,some (.buf b n)),(29,some (.int .i64 (n : Int)))]) (fun n b H=>A9 H0 H [(b,.cells 1 (((BX k f).take n).map iL) 0),(B1,.cells 15 Bb 0)]) k.ob.length b9 o rfl ?_;clear o
 rintro n b9 H hn o
 replace o : A9 H0 H [(b9,.cells 1 (((BX k f).take n).map iL) 0),(B1,.cells 15 Bb 0)]:=o;refine tt ?_;apply bk <;> intro h1
 rotate_left
 ·have AU:=A7 h1
  have e : (BX k f).take n=BX k f:=List.take_of_length_le (by omega);rw [e] at o;refine tt ?_;refine Am (f:=iL) o (by omega) fun H o=>tt ?_;refine (show PB B 148 [.ptr k.cells,.ptr (Bl k f).cells] _ from Js B (g:=Bl k f) hk hs rfl).go fun _=>tt ?_;refine nb o fun Np H o=>tt ?_;refine sw o fun H o=>?_
  have o : A9 H0 H [(Np,.cells 7 (Ag k (Bl k f)).cells 0),(B1,.cells 15 Bb 0)]:=o;refine tt ?_;refine Ca 12 o rfl fun H o=>AX ?_;refine tt ?_;refine (Ik B (Ag k (Bl k f)) f (BX k f)).go fun _=>tt ?_;refine AS o (by simp [Bb]) (by (try simp only [go_sem]); (try simp)) (by first | (simp only [go_sem]; done) | ((try simp only [go_sem]); simp [AV.one,Ay])) fun H o=>?_;unfold Bb at o;have o:=s2 o;refine tt ?_;rw [o.rc 15 0 (by simp)];refine tt ?_;exact A5 rfl o.sub
 have AU:=A6 h1
 have w:=ws n
 have hx : k.src.ES (n : Int):=⟨by omega,by omega⟩
 obtain ⟨y,gy⟩ : ∃ y,k.ob.getD n default=y:=⟨_,rfl⟩
 have xO : ix k.ob (n : Int)=y:=gy
 have L9 : k.AL.ES y:=by rw [← xO]; exact (hk.JD hx).2
 have A:=fS k L9
 have il : y.toNat<k.AL.Ac.length:=by have:=hk.tI.1.il; have:=L9.1; have:=L9.2; omega
 have sm : [(n : Int),ix k.AL.Ac y]∈AK k y:=by rw [← xO]; exact (Vv hk hx).mem
 have Ga : ((BX k f).take n).length=n:=by rw [List.length_take]; omega
 have bi : 0≤indexOf (AK k y) [(n : Int),ix k.AL.Ac y]∧(indexOf (AK k y) [(n : Int),ix k.AL.Ac y]).toNat<(AK k y).length:=by
  have q:=BO sm;exact ⟨q.1,by have:=q.2; omega⟩
 refine tt ?_;refine ⟨AU, ?_⟩;rw [gy];refine tt ?_;refine ⟨A.1, ?_⟩;rw [show ix (BG k.AL.AF) y=y from A.2];rw [show HR k f y=.ptr [B5 (AK k y),IW (AK k y),B5 (Ap k f y),IW (Ap k f y)] from rfl];refine tt ?_;refine ⟨A.1,⟨L9.1,il⟩, ?_⟩;rw [show ix (BG k.AL.AF) y=y from A.2];rw [show HR k f y=.ptr [B5 (AK k y),IW (AK k y),B5 (Ap k f y),IW (Ap k f y)] from rfl];refine ⟨_,(TE B hk (X0:=B5 (AK k y)) (X2:=B5 (Ap k f y)) (X3:=IW (Ap k f y)) sm).run,tt ?_⟩;refine ⟨_,(X4 B (Ap k f y) (indexOf (AK k y) [(n : Int),ix k.AL.Ac y]) (fun l hl=>by rw [GH hk hf sh hl]; exact bi) (by have:=(fit y L9).2; omega)).run,tt ?_⟩
 have ec : ((Ap k f y).map fun l=>ix l (indexOf (AK k y) [(n : Int),ix k.AL.Ac y]))=HL k f n:=by rw [HL,xO]
 rw [ec];refine Ae (f:=iL) (HL k f n) o rfl Ga.symm (by rw [Ga]; simp only [AN]; omega) fun b9 H o=>?_
 have et:=Ar (BX k f) (k:=n) (by omega);rw [show (BX k f).getD n default=HL k f n by rw [BX,Ab _ _ (by omega)]] at et
 have Ce : ((BX k f).take (n+1)).length=n+1:=by rw [List.length_take]; omega
 rw [← et] at o ⊢;rw [Ce];refine tw w ?_;exact A4 b9 AU o rfl
end Go.Proofs.Shf
namespace Go.Shf
open Go.AW
section
variable {k : FU} {f g : SF} {m : SM} {p n : List (List Int)} {x y b e : Int}
theorem KE {s : List Int} (h : s∈AK k y) : TW k y (C6 k g m y e) s=ix (ix m.parts (s.getD 0 default)) (ix (ix g.AJ (s.getD 1 default)) e):=Vr _ h
theorem RX (hg : g.Is) (gs : g.shape=k.AL) {s : List Int} (so : DN k y s) (he : 0≤e∧e<ix g.A1 y) : 0≤ix (ix g.AJ (s.getD 1 default)) e∧ix (ix g.AJ (s.getD 1 default)) e<ix g.A1 (ix k.ob (s.getD 0 default)):=by
 have am:=Il hg.1 (a:=s.getD 1 default) (by rw [gs]; exact so.h);rw [gs,so.fr,so.to] at am;exact am.at he
theorem VB (hg : g.Is) (gs : g.shape=k.AL) {a : Int} (ha : k.AL.DB a) (hb : k.AL.DB b) (ab : ix k.AL.to a=ix k.AL.AB b) (he : 0≤e∧e<ix g.A1 (ix k.AL.AB a)) :
  ix (ix g.AJ (ix (ix k.AL.comp a) b)) e=ix (ix g.AJ b) (ix (ix g.AJ a) e):=by
 have am:=Il hg.1 (a:=a) (by rw [gs]; exact ha)
 have al:=am.len;rw [gs] at al
 have:=hg.VY a b (by rw [gs]; exact ha) (by rw [gs]; exact hb) (by rw [gs]; exact ab) e ⟨he.1,by omega⟩;rw [gs] at this;exact this
theorem Qp (hk : k.Is) (hg : g.Is) (gs : g.shape=k.AL) (hm : Dm (Ag k g) f m.parts) (he : 0≤e∧e<ix g.A1 y) : RT k f y (C6 k g m y e):=by
 have en : ∀ s,s∈AK k y→0≤ix (ix g.AJ (s.getD 1 default)) e∧ix (ix g.AJ (s.getD 1 default)) e<ix (Ag k g).A1 (s.getD 0 default):=fun s hs=>by
  have so:=Ci hs;rw [CM hk so.x];exact RX hg gs so he
 refine ⟨by simp [C6],fun s hs=>?_,fun s a hs ha ea=>?_⟩
 ·have so:=Ci hs;rw [KE hs];exact (hm.pl _ so.x).2 _ (en s hs)
 ·have so:=Ci hs
  have to:=Ew hk so ha ea
  have ar:=hk.Md ha
  have ed:=hk.H4 ha
  have nt:=hm.nl a ha (ix (ix g.AJ (s.getD 1 default)) e) (by rw [show ix (Ag k g).shape.AB a=s.getD 0 default from ea]; exact en s hs);rw [KE hs,KE to.mem]
  have nt : ix (ix m.parts (ix k.src.to a)) (ix (ix (Ag k g).AJ a) (ix (ix g.AJ (s.getD 1 default)) e))=ix (ix f.AJ a) (ix (ix m.parts (ix k.src.AB a)) (ix (ix g.AJ (s.getD 1 default)) e)):=nt;rw [DE hk ha,ea] at nt
  show _=ix (ix m.parts (ix k.src.to a)) (ix (ix g.AJ (ix (ix k.AL.comp (s.getD 1 default)) (ix k.ar a))) e)
  rw [VB hg gs so.h ⟨ar.2.1,ar.2.2⟩ (by rw [so.to,ed.1,ea]) (by rw [so.fr]; exact he)];exact nt.symm
theorem jI (hk : k.Is) (hg : g.Is) (gs : g.shape=k.AL) (hb : k.AL.DB b) (he : 0≤e∧e<ix g.A1 (ix k.AL.AB b)) :
  Fc k (C6 k g m (ix k.AL.AB b) e) b=C6 k g m (ix k.AL.to b) (ix (ix g.AJ b) e):=by
 rw [K1]
 show _=(AK k (ix k.AL.to b)).map fun s=>ix (ix m.parts (s.getD 0 default)) (ix (ix g.AJ (s.getD 1 default)) (ix (ix g.AJ b) e))
 refine List.map_congr_left fun s hs=>?_
 have so:=Ci hs
 have bo:=Er hk hb so
 have h:=KE (k:=k) (g:=g) (m:=m) (e:=e) bo.mem
 have h : ix (C6 k g m (ix k.AL.AB b) e) (indexOf (AK k (ix k.AL.AB b)) (BP k b s))=ix (ix m.parts (s.getD 0 default)) (ix (ix g.AJ (ix (ix k.AL.comp b) (s.getD 1 default))) e):=h;rw [h,VB hg gs hb so.h so.fr.symm he]
theorem KF (hy : k.AL.ES y) : ix (Bj k g m) y=Kv k g m y:=sF (fun y=>Kv k g m y) ⟨hy.1,by have:=hy.1; have:=hy.2; omega⟩
theorem K8 (he : 0≤e∧e<ix g.A1 y) : ix (Kv k g m y) e=indexOf (Ap k m.AL y) (C6 k g m y e):=sF (fun e=>indexOf (Ap k m.AL y) (C6 k g m y e)) ⟨he.1,by omega⟩
theorem M8 (hk : k.Is) (hf : m.AL.Is) (sh : m.AL.shape=k.src) (hg : g.Is) (gs : g.shape=k.AL) (hm : Dm (Ag k g) m.AL m.parts) : Dm g (Bl k m.AL) (Bj k g m):=by
 have so:=hk.tI.1.o
 have rw' : ∀ y e,0≤e∧e<ix g.A1 y→C6 k g m y e∈Ap k m.AL y:=fun y e he=>(G3 hk hf sh).mpr (Qp hk hg gs hm he);refine ⟨by rw [gs]; simp [Bj]; omega,fun y hy=>?_,fun b hb e he=>?_⟩
 ·have hy : k.AL.ES y:=by rw [gs] at hy; exact hy
  have gz:=hg.1.HA (y:=y) (by rw [gs]; exact hy);rw [KF hy];refine ⟨by simp [Kv]; omega,fun e he=>?_⟩
  have hi:=BO (rw' y e he);rw [K8 he,Fp hy];exact ⟨hi.1,by have:=hi.2.1; have:=hi.1; omega⟩
 ·have hb : k.AL.DB b:=by rw [gs] at hb; exact hb
  have he : 0≤e∧e<ix g.A1 (ix k.AL.AB b):=by rw [gs] at he; exact he
  have am:=Il hg.1 (a:=b) (by rw [gs]; exact hb);rw [gs] at am
  have ea:=am.at he;rw [gs,KF (hk.tI.1.DJ hb.2),KF (hk.tI.1.C3 hb.2),K8 ea,K8 he,EG hb]
  have hi:=BO (rw' _ e he)
  have ac:=I8 hk hf sh hb (e:=indexOf (Ap k m.AL (ix k.AL.AB b)) (C6 k g m (ix k.AL.AB b) e)) ⟨hi.1,hi.2.1⟩;rw [ac.1,show ix (Ap k m.AL (ix k.AL.AB b)) (indexOf (Ap k m.AL (ix k.AL.AB b)) (C6 k g m (ix k.AL.AB b) e))=C6 k g m (ix k.AL.AB b) e from hi.2.2,jI hk hg gs hb he]
theorem M7 (hx : k.src.ES x) : ix (BX k f) x=HL k f x:=sF (fun x=>HL k f x) ⟨hx.1,by have:=hx.1; have:=hx.2; omega⟩
theorem M5 (he : 0≤e∧e.toNat<(Ap k f (ix k.ob x)).length) : ix (HL k f x) e=TW k (ix k.ob x) (ix (Ap k f (ix k.ob x)) e) [x,ix k.AL.Ac (ix k.ob x)]:=Ja _ he.2
theorem Ss (hk : k.Is) (hx : k.src.ES x) : DN k (ix k.ob x) [x,ix k.AL.Ac (ix k.ob x)]:=by
 have id:=hk.tI.1.HJ (hk.JD hx).2;exact Ci (IQ.mpr ⟨x,_,rfl,hx,id.1,id.2.1,id.2.2⟩)
theorem TH (hk : k.Is) (hf : f.Is) (sh : f.shape=k.src) : Dm (Ag k (Bl k f)) f (BX k f):=by
 have so:=hk.sI.1.o;refine ⟨by show ((BX k f).length : Int)=k.src.AF; simp [BX]; omega,fun x hx=>?_,fun a ha e he=>?_⟩
 ·have hx : k.src.ES x:=hx
  have ho:=(hk.JD hx).2;rw [M7 hx,CM hk hx,Fp ho];refine ⟨by simp [HL],fun e he=>?_⟩;rw [M5 ⟨he.1,by omega⟩];exact ((G3 hk hf sh).mp (BL (i:=e) (by omega))).Nt _ (Ss hk hx).mem
 ·have ha : k.src.DB a:=ha
  have hx:=hk.sI.1.C3 ha.2
  have hz:=hk.sI.1.DJ ha.2
  have ar:=hk.Md ha
  have ed:=hk.H4 ha
  have hb : k.AL.DB (ix k.ar a):=⟨ar.2.1,ar.2.2⟩
  have he : 0≤e∧e<ix (Ag k (Bl k f)).A1 (ix k.src.AB a):=he;rw [CM hk hx,Fp (hk.JD hx).2] at he
  have Xu : 0≤e∧e.toNat<(Ap k f (ix k.ob (ix k.src.AB a))).length:=⟨he.1,by omega⟩
  show ix (ix (BX k f) (ix k.src.to a)) (ix (ix (Ag k (Bl k f)).AJ a) e)=ix (ix f.AJ a) (ix (ix (BX k f) (ix k.src.AB a)) e)
  have ac:=I8 hk hf sh hb (e:=e) (by rw [ed.1]; exact Xu);rw [ed.1,ed.2] at ac;rw [M7 hx,M7 hz,DE hk ha,EG hb,M5 Xu,M5 ac.2.1,ac.2.2]
  have r:=(G3 hk hf sh).mp (BL (i:=e) Xu.2)
  have ix':=Ss hk hx
  have iz:=Ss hk hz
  have q1:=r.nat _ a ix'.mem ha rfl
  have q2:=Kh (k:=k) (b:=ix k.ar a) (t:=ix (Ap k f (ix k.ob (ix k.src.AB a))) e) (by rw [ed.2]; exact iz.mem);rw [ed.1,ed.2] at q2;rw [q1,q2]
  congr 1
  show [ix k.src.to a,ix (ix k.AL.comp (ix k.ar a)) (ix k.AL.Ac (ix k.ob (ix k.src.to a)))]=[ix k.src.to a,ix (ix k.AL.comp (ix k.AL.Ac (ix k.ob (ix k.src.AB a)))) (ix k.ar a)]
  have e1:=hk.tI.XE hb
  have e2:=hk.tI.Bt hb;rw [ed.1] at e1;rw [ed.2] at e2;rw [e1,e2]
theorem P7 {h : SF} (hk : k.Is) (gs : g.shape=k.AL) (hn : Dm g h n) (hgI : g.Is) : Dm (Ag k g) (Ag k h) (k.ob.map (ix n)):=by
 have at' : ∀ x,k.src.ES x→ix (k.ob.map (ix n)) x=ix n (ix k.ob x):=fun x hx=>Ja _ (hk.JD hx).1;refine ⟨by show ((k.ob.map (ix n)).length : Int)=k.src.AF; rw [List.length_map]; exact hk.fit.ol,fun x hx=>?_,fun a ha e he=>?_⟩
 ·have hx : k.src.ES x:=hx;rw [at' x hx,CM hk hx,CM hk hx];exact hn.pl _ (by rw [gs]; exact (hk.JD hx).2)
 ·have ha : k.src.DB a:=ha
  have hx:=hk.sI.1.C3 ha.2
  have hz:=hk.sI.1.DJ ha.2
  have ar:=hk.Md ha
  have ed:=hk.H4 ha
  have he : 0≤e∧e<ix (Ag k g).A1 (ix k.src.AB a):=he;rw [CM hk hx,← ed.1] at he
  show ix (ix (k.ob.map (ix n)) (ix k.src.to a)) (ix (ix (Ag k g).AJ a) e)=ix (ix (Ag k h).AJ a) (ix (ix (k.ob.map (ix n)) (ix k.src.AB a)) e)
  rw [at' _ hx,at' _ hz,DE hk ha,DE hk ha,← ed.1,← ed.2]
  have:=hn.nl (ix k.ar a) (by rw [gs]; exact ⟨ar.2.1,ar.2.2⟩) e (by rw [gs]; exact he);rw [gs] at this;exact this
noncomputable def aK (k : FU) (f : SF) (n : List (List Int)) : List (List Int):=thenS (k.ob.map (ix n)) (BX k f)
theorem Uv (hk : k.Is) (hf : f.Is) (sh : f.shape=k.src) (hg : g.Is) (gs : g.shape=k.AL) (hn : Dm g (Bl k f) n) : Dm (Ag k g) f (aK k f n) :=
 (P7 hk gs hn hg).then (TH hk hf sh) rfl (Hj hk hg gs.symm).1
theorem fL (hk : k.Is) (gs : g.shape=k.AL) (hn : Dm g (Bl k f) n) (hx : k.src.ES x) (he : 0≤e∧e<ix g.A1 (ix k.ob x)) :
  ix (ix (aK k f n) x) e=TW k (ix k.ob x) (ix (Ap k f (ix k.ob x)) (ix (ix n (ix k.ob x)) e)) [x,ix k.AL.Ac (ix k.ob x)]:=by
 have ho:=(hk.JD hx).2
 have at' : ix (k.ob.map (ix n)) x=ix n (ix k.ob x):=Ja _ (hk.JD hx).1
 have hp:=hn.pl (ix k.ob x) (by rw [gs]; exact ho)
 have h2:=hp.2 e he;rw [Fp ho] at h2;rw [aK,Vz ⟨hx.1,by rw [List.length_map]; exact (hk.JD hx).1⟩ (by rw [at']; exact ⟨he.1,by omega⟩),at',M7 hx,M5 ⟨h2.1,by omega⟩]
theorem U7 (hk : k.Is) (hf : m.AL.Is) (sh : m.AL.shape=k.src) (hg : g.Is) (gs : g.shape=k.AL) (hm : Dm (Ag k g) m.AL m.parts) : aK k m.AL (Bj k g m)=m.parts:=by
 have he:=M8 hk hf sh hg gs hm;refine (Uv hk hf sh hg gs he).ext hm fun x e hx hE=>?_
 have hx : k.src.ES x:=hx
 have ho:=(hk.JD hx).2;rw [CM hk hx] at hE
 have rm : C6 k g m (ix k.ob x) e∈Ap k m.AL (ix k.ob x):=(G3 hk hf sh).mpr (Qp hk hg gs hm hE)
 have hi:=BO rm;rw [fL hk gs he hx hE,KF ho,K8 hE,show ix (Ap k m.AL (ix k.ob x)) (indexOf (Ap k m.AL (ix k.ob x)) (C6 k g m (ix k.ob x) e))=_ from hi.2.2,KE (Ss hk hx).mem]
 show ix (ix m.parts x) (ix (ix g.AJ (ix k.AL.Ac (ix k.ob x))) e)=_
 have ia:=hg.Vd (x:=ix k.ob x) (e:=e) (by rw [gs]; exact ho) hE;rw [gs] at ia;rw [ia]
theorem ZU (hk : k.Is) (hf : f.Is) (sh : f.shape=k.src) (hg : g.Is) (gs : g.shape=k.AL) (hn : Dm g (Bl k f) n) {q : SM} (qt : q.AL=f) (qp : q.parts=aK k f n) : Bj k g q=n:=by
 have hd:=Uv hk hf sh hg gs hn
 have he : Dm g (Bl k f) (Bj k g q):=by
  rw [← qt];exact M8 hk (by rw [qt]; exact hf) (by rw [qt]; exact sh) hg gs (by rw [qt,qp]; exact hd)
 refine he.ext hn fun y e hy hE=>?_
 have hy : k.AL.ES y:=by rw [gs] at hy; exact hy
 have hp:=(hn.pl y (by rw [gs]; exact hy)).2 e hE;rw [Fp hy] at hp
 have E8 : (ix (ix n y) e).toNat<(Ap k f y).length:=by omega
 obtain ⟨t,ht⟩ : ∃ t,ix (Ap k f y) (ix (ix n y) e)=t:=⟨_,rfl⟩
 have tm : t∈Ap k f y:=by rw [← ht]; exact BL E8
 have rt:=(G3 hk hf sh).mp tm;rw [KF hy,K8 hE,qt]
 have key : C6 k g q y e=t:=by
  refine Eq.trans (List.map_congr_left fun s hs=>?_) (W1 (k:=k) (y:=y) rt.len)
  have so:=Ci hs
  have sa:=RX hg gs so hE;rw [qp,fL hk gs hn so.x sa]
  have nt:=hn.nl (s.getD 1 default) (by rw [gs]; exact so.h) e (by rw [gs,so.fr]; exact hE);rw [gs,so.fr,so.to,EG so.h] at nt
  have ac:=I8 hk hf sh so.h (e:=ix (ix n y) e) (by rw [so.fr]; exact ⟨hp.1,E8⟩);rw [so.fr,so.to,ht] at ac;rw [nt,ac.2.2]
  have iz:=Ss hk so.x
  have q2:=Kh (k:=k) (b:=s.getD 1 default) (t:=t) (by rw [so.to]; exact iz.mem);rw [so.fr,so.to] at q2;rw [q2]
  have e2:=hk.tI.Bt so.h;rw [so.to] at e2
  have : BP k (s.getD 1 default) [s.getD 0 default,ix k.AL.Ac (ix k.ob (s.getD 0 default))]=s:=by
   show [s.getD 0 default,ix (ix k.AL.comp (s.getD 1 default)) (ix k.AL.Ac (ix k.ob (s.getD 0 default)))]=s
   rw [e2]; exact so.eta.symm
  rw [this]
 rw [key,← ht,JR (IV hk hf sh) ⟨hp.1,E8⟩]
theorem TB {α β : Type} {F : α→β} {l : List α} (h : l.Nodup) (hi : ∀ a,a∈l→∀ b,b∈l→F a=F b→a=b) : (l.map F).Nodup :=
 List.pairwise_map.mpr (h.imp_of_mem fun {a b} ha hb Bg e=>Bg (hi a ha b hb e))
theorem RS (hk : k.Is) (hf : f.Is) (sh : f.shape=k.src) (fit : G8 k f) (hg : g.Is) (gs : g.shape=k.AL) : (Bp g (Bl k f) (BA g)).length=(Bp (Ag k g) f (BA (Ag k g))).length:=by
 have hR:=M9 hk hf sh fit
 have hA:=Hj hk hg gs.symm
 have h1:=FF hg hR gs (KB hg.1)
 have h2:=FF hA hf sh.symm (KB hA.1)
 have m1 : ∀ t,t∈Bp g (Bl k f) (BA g)↔Dm g (Bl k f) t:=fun t=>(h1.mem t).trans (Oc hg.1)
 have m2 : ∀ t,t∈Bp (Ag k g) f (BA (Ag k g))↔Dm (Ag k g) f t:=fun t=>(h2.mem t).trans (Oc hA.1);refine Nat.le_antisymm ?_ ?_
 ·have:=List.Nodup.length_le_of_subset (l₁:=(Bp g (Bl k f) (BA g)).map (aK k f)) (l₂:=Bp (Ag k g) f (BA (Ag k g))) (TB h1.nodup fun a ha b hb e=>by
   rw [← ZU hk hf sh hg gs ((m1 a).mp ha) (q:=⟨Ag k g,f,aK k f a⟩) rfl rfl,← ZU hk hf sh hg gs ((m1 b).mp hb) (q:=⟨Ag k g,f,aK k f b⟩) rfl rfl,e]) fun t ht=>by
   obtain ⟨L,hL,rfl⟩:=List.mem_map.mp ht;exact (m2 _).mpr (Uv hk hf sh hg gs ((m1 L).mp hL))
  rwa [List.length_map] at this
 ·have:=List.Nodup.length_le_of_subset (l₁:=(Bp (Ag k g) f (BA (Ag k g))).map fun p=>Bj k g ⟨Ag k g,f,p⟩) (l₂:=Bp g (Bl k f) (BA g)) (TB h2.nodup fun a ha b hb e=>by
   have ea:=U7 (m:=⟨Ag k g,f,a⟩) hk hf sh hg gs ((m2 a).mp ha)
   have eb:=U7 (m:=⟨Ag k g,f,b⟩) hk hf sh hg gs ((m2 b).mp hb);exact ea.symm.trans ((congrArg (aK k f) e).trans eb)) fun L hL=>by
   obtain ⟨t,ht,rfl⟩:=List.mem_map.mp hL;exact (m1 _).mpr (M8 (m:=⟨Ag k g,f,t⟩) hk hf sh hg gs ((m2 t).mp ht))
  rwa [List.length_map] at this
end
end Go.Shf
namespace Go.Proofs.Shf
open Go.AW Go.Proofs Go.Shf
theorem Jg (B : Nat) {k : FU} {f : SF} (hk : k.Is) (hf : f.Is) (sh : f.shape=k.src) (fit : G8 k f) : PB B 49 [.agg k.cells,.agg f.cells] (.CQ [.agg (Bl k f).cells,iI 0]):=by
 have hE : Cb k f k.src=0:=by rw [Cb,if_pos ⟨hk,hf⟩,if_pos sh]
 refine ⟨fun H0=>c49.go fun _=>?_⟩
 have o : A9 H0 H0 []:=.nil _;refine tt ?_;refine nb o fun B1 H o=>tt ?_;refine (Fl B k f).go fun _=>?_;rw [hE];refine td ?_;refine (D8 B hk hf sh).go fun r _ ⟨hy,hn⟩=>?_;rw [hy fit];unfold bK xC;refine tt ?_;refine sw o fun H o=>tt ?_;rw [o.rc 7 0 (by simp)];refine tt ?_;exact A5 rfl o.sub
theorem Kr (B : Nat) (k : FU) (g : SF) (m : SM) : PB B 41 [.agg k.cells,.agg g.cells,.agg m.cells] (Y8 k g m):=by
 by_cases hE : Eb k g m=0
 rotate_left
 ·have hc : DL k g m=Eb k g m:=by
   by_cases h1 : Cv k g m=0
   ·by_cases h2 : m.src=Ag k g
    ·exact absurd (by rw [Eb,if_pos h1,if_pos h2]) hE
    ·rw [DL,Eb,if_pos h1,if_neg h2,if_pos h1,if_neg h2]
   ·rw [DL,Eb,if_neg h1,if_neg h1]
  rw [Y8,hc,if_neg hE];refine RC.Lm (r:=.CQ [.agg Bb,iI (Eb k g m)]) ⟨fun H0=>j0.go fun _=>?_⟩ (MB.code Lr)
  have o : A9 H0 H0 []:=.nil _;refine tt ?_;refine nb o fun Ba H o=>tt ?_;refine (JI B k g m).go fun _=>?_
  generalize Eb k g m=cd at hE;refine tt ?_;rw [decide_eq_false hE];refine tt ?_;refine sw o fun H o=>tt ?_;rw [o.rc 15 0 (by simp)];refine tt ?_;exact A5 rfl o.sub
 have im : Cv k g m=0:=by
  rw [Eb] at hE
  split at hE
  ·assumption
  ·exact hE
 have ha : m.src=Ag k g:=by
  rw [Eb,if_pos im] at hE
  split at hE
  ·assumption
  ·exact absurd hE (by decide)
 obtain ⟨hk,hg,hm,gs,ms⟩:=Qo im
 have ts : m.AL.shape=k.src:=by rw [← hm.eq,ms]
 by_cases fit : G8 k m.AL
 rotate_left
 ·have hc : DL k g m=3:=by rw [DL,if_pos im,if_pos ha,if_neg fit]
  rw [Y8,hc,if_neg (by decide)];refine RC.Lm (r:=.CQ [.agg Bb,iI 3]) ⟨fun H0=>j0.go fun _=>?_⟩ (MB.code Lr)
  have o : A9 H0 H0 []:=.nil _;refine tt ?_;refine nb o fun Ba H o=>tt ?_;refine (JI B k g m).go fun _=>?_;rw [hE];refine td ?_;refine (D8 B hk hm.t ts).go fun r _ ⟨hy,hn⟩=>?_
  obtain ⟨X,e⟩:=hn fit;rw [e];refine tt ?_;refine AS o (by simp [Bb]) (by (try simp only [go_sem]); (try simp)) (by first | (simp only [go_sem]; done) | ((try simp only [go_sem]); simp [AV.one,Ay])) fun H o=>?_;unfold Bb at o;have o:=s2 o;refine tt ?_;rw [o.rc 15 0 (by simp)];refine tt ?_;exact A5 rfl o.sub
 have hc : DL k g m=0:=by rw [DL,if_pos im,if_pos ha,if_pos fit]
 have X:=Qq hc;rw [Y8,if_pos hc,hc];refine ⟨fun H0=>j0.go fun _=>?_⟩
 have so:=hk.tI.1.o
 have gsl:=hg.1.sl;rw [gs] at gsl
 have o : A9 H0 H0 []:=.nil _;refine tt ?_;refine nb o fun Ba H o=>tt ?_;refine (JI B k g m).go fun _=>?_;rw [hE];refine td ?_;refine (D8 B hk hm.t ts).go fun r _ ⟨hy,hn⟩=>?_;rw [hy fit]
 obtain ⟨N,hN⟩ : ∃ N,k.AL.AF.toNat=N:=⟨_,rfl⟩;unfold bK xC;refine tt ?_;refine AP o fun b11 H o=>?_
 have o : A9 H0 H [(b11,.cells 1 (((Bj k g m).take 0).map iL) 0),(Ba,.cells 15 Bb 0)]:=o
 have Pd : (Bj k g m).length=N:=by rw [← hN]; simp [Bj]
 have yQ : (BG k.AL.AF).length=N:=by rw [Et]; exact hN
 refine tw yQ ?_;refine AD [4,5,6,9,37,38] (G:=Nat) (fun n b=>[(11,some (.buf b n)),(39,some (.int .i64 (n : Int)))]) (fun n b H=>A9 H0 H [(b,.cells 1 (((Bj k g m).take n).map iL) 0),(Ba,.cells 15 Bb 0)]) N b11 o rfl ?_;clear o
 rintro n b11 H hn o
 replace o : A9 H0 H [(b11,.cells 1 (((Bj k g m).take n).map iL) 0),(Ba,.cells 15 Bb 0)]:=o;refine tt ?_;apply bk <;> intro h1
 rotate_left
 ·have AU:=A7 h1
  have e : (Bj k g m).take n=Bj k g m:=List.take_of_length_le (by omega);rw [e] at o;refine tt ?_;refine Am (f:=iL) o (by omega) fun H o=>tt ?_;refine (show PB B 139 [.ptr g.cells,.ptr (Bl k m.AL).cells,B5 (Bj k g m)] _ from Ik B g (Bl k m.AL) (Bj k g m)).go fun _=>tt ?_;refine AS o (by simp [Bb]) (by (try simp only [go_sem]); (try simp)) (by first | (simp only [go_sem]; done) | ((try simp only [go_sem]); simp [AV.one,Ay])) fun H o=>?_;unfold Bb at o;have o:=s2 o;refine tt ?_;rw [o.rc 15 0 (by simp)];refine tt ?_;exact A5 rfl o.sub
 have AU : n<N:=A6 h1
 have w:=ws n
 have L9 : k.AL.ES n:=⟨by omega,by omega⟩
 have A:=fS k L9
 have A2 : (BG k.AL.AF).getD n default=(n : Int):=A.2
 have nN : n<(BG k.AL.AF).length:=by rw [yQ]; exact AU
 have gn : n<g.A1.length:=by omega
 have gz:=hg.1.HA (y:=(n : Int)) (by rw [gs]; exact L9)
 obtain ⟨Z,hZ⟩ : ∃ Z : Nat,ix g.A1 (n : Int)=Z:=⟨_,(Int.toNat_of_nonneg gz.1).symm⟩
 have hZ2 : g.A1.getD n default=(Z : Int):=hZ
 have xg : Kv k g m n=(List.range Z).map fun e : Nat=>indexOf (Ap k m.AL n) (C6 k g m n e):=by rw [Kv,hZ]; rfl
 have Td:=(fit _ L9).1;refine tt ?_;refine ⟨nN, ?_⟩;rw [A2];refine tt ?_;refine AP o fun b14 H o=>?_
 have o : A9 H0 H [(b14,.cells 1 ((((List.range 0).map fun e : Nat=>indexOf (Ap k m.AL n) (C6 k g m n e))).map iI) 0),(b11,.cells 1 (((Bj k g m).take n).map iL) 0),(Ba,.cells 15 Bb 0)]:=o;refine tt ?_;refine ⟨gn, ?_⟩;rw [hZ2];refine tt ?_;refine AD [4,5,6,9,11,13,37,38,39,49] (G:=Nat) (fun e b=>[(14,some (.buf b e)),(50,some (.int .i64 (e : Int)))]) (fun e b H=>A9 H0 H [(b,.cells 1 ((((List.range e).map fun e : Nat=>indexOf (Ap k m.AL n) (C6 k g m n e))).map iI) 0),(b11,.cells 1 (((Bj k g m).take n).map iL) 0),(Ba,.cells 15 Bb 0)]) Z b14 o rfl ?_;clear o
 rintro e b14 H he o
 replace o : A9 H0 H [(b14,.cells 1 ((((List.range e).map fun e : Nat=>indexOf (Ap k m.AL n) (C6 k g m n e))).map iI) 0),(b11,.cells 1 (((Bj k g m).take n).map iL) 0),(Ba,.cells 15 Bb 0)]:=o
 have Nu : ((List.range e).map fun e : Nat=>indexOf (Ap k m.AL n) (C6 k g m n e)).length=e:=by simp
 refine tt ?_;apply bk <;> intro h2
 rotate_left
 ·have Aq:=A7 h2
  obtain rfl : e=Z:=by omega
  rw [← xg] at o Nu
  have Ga : ((Bj k g m).take n).length=n:=by rw [List.length_take]; omega
  refine tt ?_;refine Am (f:=iI) o Nu.symm fun H o=>tt ?_;refine Ae (f:=iL) (Kv k g m n) o rfl Ga.symm (by rw [Ga]; simp only [AN]; omega) fun b11 H o=>?_
  have et:=Ar (Bj k g m) (k:=n) (by omega);rw [show (Bj k g m).getD n default=Kv k g m n by rw [Bj,Ab _ _ (by omega)]] at et
  have Ce : ((Bj k g m).take (n+1)).length=n+1:=by rw [List.length_take]; omega
  rw [← et] at o ⊢;rw [Ce];refine tw w ?_;exact A4 b11 AU o rfl
 have Aq:=A6 h2
 have w2:=ws e
 have rm : C6 k g m n e∈Ap k m.AL n:=(G3 hk hm.t ts).mpr (Qp hk hg gs (by rw [← ha]; exact hm.cI) (e:=(e : Int)) ⟨by omega,by rw [hZ]; omega⟩);rw [show HR k m.AL n=.ptr [B5 (AK k n),IW (AK k n),B5 (Ap k m.AL n),IW (Ap k m.AL n)] from rfl];refine tt ?_;refine AP o fun b16 H o=>?_
 have o : A9 H0 H [(b16,.cells 1 ((((AK k n).take 0).map fun s=>ix (ix m.parts (s.getD 0 default)) (ix (ix g.AJ (s.getD 1 default)) e)).map iI) 0),(b14,.cells 1 ((((List.range e).map fun e : Nat=>indexOf (Ap k m.AL n) (C6 k g m n e))).map iI) 0),(b11,.cells 1 (((Bj k g m).take n).map iL) 0),(Ba,.cells 15 Bb 0)]:=o;refine tt ?_;refine AD [4,5,6,9,11,13,14,15,37,38,39,49,50,57,58] (G:=Nat) (fun j b=>[(16,some (.buf b j)),(59,some (.int .i64 (j : Int)))]) (fun j b H=>A9 H0 H [(b,.cells 1 ((((AK k n).take j).map fun s=>ix (ix m.parts (s.getD 0 default)) (ix (ix g.AJ (s.getD 1 default)) e)).map iI) 0),(b14,.cells 1 ((((List.range e).map fun e : Nat=>indexOf (Ap k m.AL n) (C6 k g m n e))).map iI) 0),(b11,.cells 1 (((Bj k g m).take n).map iL) 0),(Ba,.cells 15 Bb 0)]) (AK k n).length b16 o rfl ?_;clear o
 rintro j b16 H hj o
 replace o : A9 H0 H [(b16,.cells 1 ((((AK k n).take j).map fun s=>ix (ix m.parts (s.getD 0 default)) (ix (ix g.AJ (s.getD 1 default)) e)).map iI) 0),(b14,.cells 1 ((((List.range e).map fun e : Nat=>indexOf (Ap k m.AL n) (C6 k g m n e))).map iI) 0),(b11,.cells 1 (((Bj k g m).take n).map iL) 0),(Ba,.cells 15 Bb 0)]:=o
 have Fb : (((AK k n).take j).map fun s=>ix (ix m.parts (s.getD 0 default)) (ix (ix g.AJ (s.getD 1 default)) e)).length=j:=by rw [List.length_map,List.length_take]; omega
 refine tt ?_;apply bk <;> intro h3
 rotate_left
 ·have BH:=A7 h3
  have ej : (AK k n).take j=AK k n:=List.take_of_length_le (by omega);rw [ej] at o Fb
  have o : A9 H0 H [(b16,.cells 1 ((C6 k g m n e).map iI) 0),(b14,.cells 1 ((((List.range e).map fun e : Nat=>indexOf (Ap k m.AL n) (C6 k g m n e))).map iI) 0),(b11,.cells 1 (((Bj k g m).take n).map iL) 0),(Ba,.cells 15 Bb 0)]:=o
  have Fb : (C6 k g m n e).length=j:=Fb;refine tt ?_;refine Am (f:=iI) o Fb.symm fun H o=>tt ?_;refine ⟨_,(Mv B [C6 k g m n e] (by simp [D0]; omega)).run,tt ?_⟩;refine QA (L:=Ap k m.AL n) (IV hk hm.t ts) (Yy hk hm.t ts _) rm ?_;refine tt ?_;refine Ae (indexOf (Ap k m.AL n) (C6 k g m n e)) o rfl Nu.symm (by rw [Nu]; simp only [AN]; omega) fun b14 H o=>?_
  have et : ((List.range (e+1)).map fun e : Nat=>indexOf (Ap k m.AL n) (C6 k g m n e))=((List.range e).map fun e : Nat=>indexOf (Ap k m.AL n) (C6 k g m n e))++[indexOf (Ap k m.AL n) (C6 k g m n e)]:=by simp [List.range_succ]
  have Ce : ((List.range (e+1)).map fun e : Nat=>indexOf (Ap k m.AL n) (C6 k g m n e)).length=e+1:=by simp
  rw [← et] at o ⊢;rw [Ce];refine tw w2 ?_;exact A4 b14 Aq o rfl
 have BH:=A6 h3
 have w3:=ws j
 obtain ⟨s,hs⟩ : ∃ s,(AK k n).getD j default=s:=⟨_,rfl⟩
 have sm : s∈AK k n:=by rw [← hs]; exact AE.mpr ⟨j,BH,rfl⟩
 have sl:=(Ci sm).len
 have sl0 : (0 : Int)≤0∧Int.toNat 0<s.length:=⟨by decide,by rw [sl]; decide⟩
 have sl1 : (0 : Int)≤1∧Int.toNat 1<s.length:=⟨by decide,by rw [sl]; decide⟩
 have en:=X.entry sm (e:=(e : Int)) ⟨by omega,by rw [hZ]; omega⟩
 have en3 : e<(ix g.AJ (s.getD 1 default)).length:=by have:=en.2.2.1.2; simpa using this
 have en4 : 0≤(ix g.AJ (s.getD 1 default)).getD e default∧((ix g.AJ (s.getD 1 default)).getD e default).toNat<(ix m.parts (s.getD 0 default)).length:=en.2.2.2.1;refine tt ?_;refine ⟨BH, ?_⟩;rw [hs];refine tt ?_
 (repeat (refine ⟨by first | exact sl0 | exact en.1 | exact sl1 | exact en.2.1 | exact en3 | exact en4, ?_⟩))
 refine Ae (ix (ix m.parts (s.getD 0 default)) (ix (ix g.AJ (s.getD 1 default)) e)) o rfl Fb.symm (by rw [Fb]; simp only [AN]; omega) fun b16 H o=>?_
 have et : (((AK k n).take (j+1)).map fun s=>ix (ix m.parts (s.getD 0 default)) (ix (ix g.AJ (s.getD 1 default)) e))=(((AK k n).take j).map fun s=>ix (ix m.parts (s.getD 0 default)) (ix (ix g.AJ (s.getD 1 default)) e))++[ix (ix m.parts (s.getD 0 default)) (ix (ix g.AJ (s.getD 1 default)) e)]:=by rw [Ar _ BH,List.map_append,hs]; rfl
 have Ce : (((AK k n).take (j+1)).map fun s=>ix (ix m.parts (s.getD 0 default)) (ix (ix g.AJ (s.getD 1 default)) e)).length=j+1:=by rw [List.length_map,List.length_take]; omega
 rw [← et] at o ⊢;rw [Ce];refine tw w3 ?_;exact A4 b16 BH o rfl
end Go.Proofs.Shf
