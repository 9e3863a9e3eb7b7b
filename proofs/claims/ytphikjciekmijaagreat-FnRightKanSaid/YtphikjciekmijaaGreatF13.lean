/- A part of a proof. -/
import Derived.Test.YtphikjciekmijaaGreatF12
set_option linter.unusedVariables false
set_option linter.unusedSimpArgs false
set_option linter.unusedSectionVars false
set_option maxRecDepth 100000
open Nat (reduceEqDiff reduceAdd reduceMul reduceLeDiff reduceLT)
namespace Go.Shf
open Go.AW Go.Proofs.Shf
theorem QZ {f g : SF} {p : List (List Int)} (hf : f.Is) (hg : g.Is) (e : f.shape=g.shape) (h : Dm f g p) : SM.Is ⟨f,g,p⟩:=by
 have Im:=hf.1.sl
 have hl:=h.len;refine ⟨hf,hg,e,⟨by show p.length=f.A1.length; omega,fun x hx=>?_⟩,fun a ha e he=>?_⟩
 ·have TM : x<p.length:=hx
  have:=h.pl x (by omega);simp only [AR] at this;refine ⟨this.1,fun y hy=>?_⟩
  obtain ⟨i,hi,rfl⟩:=AE.mp hy
  have h2:=this.2 i (by have : i<(p.getD x default).length:=hi; omega);rw [AR] at h2;exact h2
 ·have MH : a<f.AJ.length:=ha
  have oO : e<(f.AJ.getD a default).length:=he
  have Tc:=hf.1.al
  have RD:=hf.1.FN (a:=(a : Int)) (by simp; omega)
  have:=h.nl a ⟨by omega,by simp; omega⟩ e (by rw [AR] at RD; omega);simp only [AR] at this;exact this
end Go.Shf
namespace Go.Proofs.Shf
open Go.AW Go.Proofs Go.Shf
theorem LP (B : Nat) (m : SM) : PB B 31 [.agg m.cells] (.bool (dec m.Is)):=by
 refine ⟨fun H0=>c31.go fun _=>tt ?_⟩;refine (DF B m).go fun _=>tt ?_;exact A5 rfl (.refl _)
theorem Le (B : Nat) (f : SF) : PB B 157 [.ptr f.cells,.ptr f.cells] (.bool true):=by
 refine ⟨fun H0=>sY.go fun ⟨Zj,_⟩=>?_⟩
 have hl:=AZ (Zj.ptr (c:=B5 f.AJ) (by simp [SF.cells]));simp only [AN] at hl;refine tt ?_;refine ⟨_,(BM B f.shape f.shape).run, ?_⟩;rw [Av rfl];refine tt ?_;refine ⟨_,(Fi B f.A1 f.A1).run, ?_⟩;rw [Av rfl];refine td ?_;refine AD [0,1,43] (G:=Unit) (fun k _=>[(44,some (.int .i64 (k : Int)))]) (fun k _ H=>H=H0) f.AJ.length () rfl rfl ?_
 rintro k _ H hk rfl;refine tt ?_;apply bk <;> intro h1
 ·have AU:=A6 h1
  have w1:=ws k;refine tt ?_;refine ⟨AU,AU, ?_⟩;refine ⟨_,(Fi B (f.AJ.getD k default) (f.AJ.getD k default)).run, ?_⟩;rw [Av rfl];refine tw w1 ?_;exact A4 () (by omega) rfl rfl
 ·refine tt ?_;exact A5 rfl (.refl _)
end Go.Proofs.Shf
namespace Go.AW
@[go_sem] def XN (q : Int × Int) : AV:=.agg [iI q.1,iI q.2]
instance : Lq 2 XN:=⟨by omega,fun _=>rfl,fun _=>rfl,fun a c hc=>by
 simp only [XN,AV.cells,List.mem_cons,List.not_mem_nil,or_false] at hc
 rcases hc with rfl | rfl <;> rfl⟩
end Go.AW
namespace Go.Proofs.Shf
open Go.AW Go.Proofs Go.Shf
@[go_sem] def Kb (f g : SF) (X fv : AV) : AG:=.cells 5 [.ptr f.cells,.ptr g.cells,.bool false,X,fv] 0
theorem iD (B : Nat) {f g : SF} {x e d : Int} (w : RB f g x e d) {p : List (List Int)} (hP : PT f g p) {DC Jf Io : Nat} {fv X : AV} {q l : Ob} {H0 H : AA} (hX : PM q X p)
  (o : A9 H0 H ((DC,Kb f g X fv)::(Jf,.cells 1 [.buf Io 0] 0)::(Io,.cells 2 [] 0)::(q++l))) :
  CB B 285 [.ref DC 0,iI x,iI e,iI d,.ref Jf 0] H fun r H'=>∃ (ok : Bool) (k : Nat) (p' : List (List Int)) (N : List (Int × Int)) (q' : Ob) (idB' : Nat),r=.bool ok∧PM q' X p' ∧
   A9 H0 H' ((DC,Kb f g X fv)::(Jf,.cells 1 [.buf idB' N.length] 0)::(idB',.cells 2 (flat (N.map XN)) 0)::(q'++l))∧DQ f g p x e d k p' N∧k≤(outs f.shape x).length ∧
   (ok=true→k=(outs f.shape x).length)∧(ok=false→∀ t,GV f g p t→ix (ix t x) e≠d):=by
 refine rH.go fun _=>?_
 have hm:=w.hf.1.is.1.m
 have Ee:=w.hf.1.is.1.o
 have Jc:=w.hf.1.is.1.L5
 have KU : (outs f.shape x).length≤40:=by
  rw [outs,List.length_map];refine Nat.le_trans (List.length_filter_le _ _) ?_;rw [List.length_range]; omega
 have ym : g.AJ.length=f.shape.AB.length:=by have:=w.hg.1.al; rw [← w.sh] at this; exact this
 refine tt ?_;refine AH o (by simp) (tt ?_);refine (TA B f.shape x).go fun _=>tt ?_
 refine AD [0,2,3,4,11,25,26] (G:=List (List Int) × List (Int × Int) × Ob × Nat) (fun k _=>[(27,some (.int .i64 (k : Int)))])
  (fun k G H=>PM G.2.2.1 X G.1∧DQ f g p x e d k G.1 G.2.1∧A9 H0 H ((DC,Kb f g X fv)::(Jf,AG.cells 1 [.buf G.2.2.2 G.2.1.length] 0)::(G.2.2.2,AG.cells 2 (flat (G.2.1.map XN)) 0)::(G.2.2.1++l))) (outs f.shape x).length (p,[],q,Io) ⟨hX,.zero f g p x e d,o⟩ rfl ?_
 clear o hX
 rintro k ⟨p',N,q,Io⟩ H hk ⟨hX,hS,o⟩;dsimp only at hX hS o;refine tt ?_;apply bk <;> intro h1
 ·have AU:=A6 h1
  have w1:=ws k
  obtain ⟨a,ea⟩ : ∃ a,(outs f.shape x).getD k default=a:=⟨_,rfl⟩
  have hA:=w.arr (b:=a) (AE.mpr ⟨k,AU,ea⟩)
  have Iy:=hP.sJ w.hf.1 hA.2.2.1 hA.2.2.2.1
  have Ux:=w.hf.1.MX hA.1 (e:=e) (by rw [hA.2.1]; exact w.he)
  have aD:=w.hg.1.MX (a:=a) (e:=d) (by rw [← w.sh]; exact hA.1) (by rw [← w.sh,hA.2.1]; exact w.hd)
  have Tc:=w.hf.1.al
  have II : (ix f.shape.to a).toNat<p'.length:=by rw [hS.len]; exact Iy.1.2
  have E8 : (ix (ix f.AJ a) e).toNat<(p'.getD (ix f.shape.to a).toNat default).length:=by rw [hS.row]; exact Iy.2.2
  have o1 : A9 H0 H (q++((DC,Kb f g X fv)::(Jf,.cells 1 [.buf Io N.length] 0)::(Io,.cells 2 (flat (N.map XN)) 0)::l)):=o.pm
  obtain ⟨HP,Xs,Je,rfl,Iw,V5,Ta,o6,Iv⟩:=ML hX o1 II E8
  have Kc : H.get DC=some (Kb f g (.buf HP Xs.length) fv):=o.h0;refine tt ?_;refine ⟨AU, ?_⟩;rw [ea];refine tt ?_;refine ⟨⟨hA.1.1,by omega⟩, ?_⟩;refine Aj Kc (by simp) (tt ?_);refine ⟨⟨hA.1.1,by omega⟩,Ux,Aj Kc (by simp) ?_⟩;refine tt ?_;refine ⟨⟨hA.1.1,by omega⟩,aD, ?_⟩;refine Aj Kc (by simp) (tt ?_);refine ⟨⟨hA.2.2.1.1,by omega⟩,Aj V5 (by omega) ?_⟩;rw [Ta];refine tt ?_;refine ⟨⟨hA.2.2.2.1.1,E8⟩,D1 (f:=iI) o6 E8 ?_⟩
  have eV : (p'.getD (ix f.shape.to a).toNat default).getD (ix (ix f.AJ a) e).toNat default=ix (ix p' (ix f.shape.to a)) (ix (ix f.AJ a) e):=rfl;rw [eV];refine tt ?_;apply bk <;> intro h2
  ·have Aq : 0≤ix (ix p' (ix f.shape.to a)) (ix (ix f.AJ a) e):=A6 h2;refine tt ?_;refine Aj Kc (by simp) (tt ?_);refine ⟨⟨hA.2.2.1.1,by omega⟩,Aj V5 (by omega) ?_⟩;rw [Ta];refine tt ?_;refine ⟨⟨hA.2.2.2.1.1,E8⟩,D1 (f:=iI) o6 E8 ?_⟩;rw [eV];refine tt ?_;apply bk <;> intro h3
   ·have BH:=dd h3;refine tt ?_;exact ⟨H,.refl H,false,k,p',N,q,Io,rfl,hX,o,hS,hk,(fun h=>by cases h),fun _ t ht=>hS.bad w AU ea Aq BH t ht⟩
   ·have BH:=dd h3;refine tw w1 ?_;exact A4 (p',N,q,Io) (by omega) ⟨hX,hS.same AU ea BH,o⟩ rfl
  ·have Aq : ¬ 0≤ix (ix p' (ix f.shape.to a)) (ix (ix f.AJ a) e):=A7 h2
   have hNl:=hS.nl
   have Qy:=hS.fresh w hP AU ea Aq;refine tt ?_;refine Aj Kc (by simp) (tt ?_);refine Aj Kc (by simp) (tt ?_);refine ⟨⟨hA.2.2.1.1,by omega⟩,Aj V5 (by omega) ?_⟩;rw [Ta];refine tt ?_;refine ⟨⟨hA.2.2.2.1.1,E8⟩, ?_⟩;refine Iv _ _ fun q' H Iq o=>tt ?_
   have o : A9 H0 H ((Io,.cells 2 (flat (N.map XN)) 0)::(Jf,.cells 1 [.buf Io N.length] 0)::(DC,Kb f g (.buf HP Xs.length) fv)::(q'++l)):=o.pm
   have ir : H.get Jf=some (.cells 1 [.buf Io N.length] 0):=o.tl.h0;refine Aj ir (by simp) (tt ?_);refine GS (f:=XN) (ix f.shape.to a,ix (ix f.AJ a) e) o rfl rfl (by simp only [AN]; omega) fun Io H o=>tt ?_;refine sw o.swap fun H o=>?_;refine tw w1 ?_;exact A4 (_,N++[(ix f.shape.to a,ix (ix f.AJ a) e)],q',Io) (by omega) ⟨Iq,Qy,(by simp only [Kb,SF.cells] at o ⊢; exact o.pm)⟩ rfl
 ·have AU:=A7 h1
  obtain rfl : k=(outs f.shape x).length:=by omega
  refine tt ?_;exact ⟨H,.refl H,true,_,p',N,q,Io,rfl,hX,o,hS,Nat.le_refl _,fun _=>rfl,fun h=>by cases h⟩
theorem Sj {p : List Int} (h : indexOf p (-1)<0) {i : Int} (hi : 0≤i∧i.toNat<p.length) : ix p i≠-1:=fun e=>by
 have:=(Fu p (-1)).mpr (by rw [← e]; exact BL hi.2);omega
def Mf (B : Nat) (f g : SF) (F : FuncId) (ca : List AV) (Fs Es : List (List (List Int))→Ob→Prop) : Prop :=
 ∀ (p : List (List Int)) (A : List (List (List Int))) (X : AV) (q w l : Ob) (H0 H : AA),PT f g p→PM q X p→Fs A w→A9 H0 H (q++(w++l)) →
  CB B F ([X]++ca) H fun r H'=>∃ (b : Bool) (w' : Ob),r=.bool b∧(b=true→Fs (A++[p]) w')∧(b=false→Es (A++[p]) w')∧A9 H0 H' (q++(w'++l))
theorem cQ (B : Nat) {f g : SF} (hf : f.Is) (hg : g.Is) (sh : f.shape=g.shape) {F : FuncId} {ca : List AV} {Fs Es : List (List (List Int))→Ob→Prop} (hF : Mf B f g F ca Fs Es) (DC : Nat) (X : AV) :
  ∀ (n : Nat) (p : List (List Int)),I6 f p=n→PT f g p→∀ (A : List (List (List Int))) (q w l : Ob) (H0 H : AA),PM q X p→Fs A w→A9 H0 H ((DC,Kb f g X (.fn (.func F) ca))::(q++(w++l))) →
   CB B 254 [.ref DC 0] H fun r H'=>∃ (b : Bool) (q' w' : Ob) (M : List (List (List Int))),r=.bool b∧PM q' X p∧A9 H0 H' ((DC,Kb f g X (.fn (.func F) ca))::(q'++(w'++l)))∧M <+: Bp f g p ∧
    (b=true→Fs (A++M) w'∧M=Bp f g p)∧(b=false→Es (A++M) w'):=by
 intro n
 induction n using Nat.strongRecOn with
 | _ n ih =>
 intro p hn hP A q w l H0 H hX R5 o;refine tN.go fun _=>?_
 have hm:=hf.1.is.1.m
 have Ee:=hf.1.is.1.o
 have Im:=hf.1.sl
 have Nw:=hP.len
 have Nq : ∀ x,x<f.A1.length→0≤f.A1.getD x default∧f.A1.getD x default<17:=fun x hx=>hf.1.sz _ (AE.mpr ⟨x,hx,rfl⟩)
 have yL:=hX.pj;refine tt ?_;refine AH o (by simp) ?_;refine tw yL ?_
 refine AD [0,15] (G:=Unit) (fun k _=>[(16,some (.int .i64 (k : Int)))])
  (fun k _ H=>(∀ y : Nat,y<k→indexOf (p.getD y default) (-1)<0)∧A9 H0 H ((DC,Kb f g X (.fn (.func F) ca))::(q++(w++l)))) p.length () ⟨by simp,o⟩ rfl ?_
 clear o
 rintro k _ H hk ⟨Ea,o⟩
 have Kc : H.get DC=some (Kb f g X (.fn (.func F) ca)):=o.h0;refine tt ?_;apply bk <;> intro h1
 rotate_left 1
 ·have AU:=A7 h1
  obtain rfl : k=p.length:=by omega
  refine tt ?_;refine Aj Kc (by simp) (tt ?_);refine Aj Kc (by simp) (tt ?_)
  have o2 : A9 H0 H (q++(w++((DC,Kb f g X (.fn (.func F) ca))::l))):=o.pm;refine (hF p A X q w _ H0 H hP hX R5 o2).mono ?_
  rintro r H' ⟨b,w',rfl,xr,xy,o⟩;refine tt ?_
  have HO:=JW hf hP fun y i hy hi=>Sj (Ea y.toNat (by omega)) (hP.sJ hf.1 hy hi).2
  have XV:=Hb hf hg sh hP HO;exact ⟨H',.refl _,b,q,w',[p],rfl,hX,(by simp only [Kb,SF.cells] at o ⊢; exact o.pm),by rw [← XV]; exact List.prefix_refl _,fun h=>⟨xr h,XV⟩,xy⟩
 have AU:=A6 h1
 have w1:=ws k
 have Xr : k<f.A1.length:=by omega
 obtain ⟨HP,Xs,rfl,Iw,V5,pr,hpr,yA⟩:=bT hX (show A9 H0 H (q++((DC,Kb f g X (.fn (.func F) ca))::(w++l))) from o.pm) AU;refine tt ?_;refine Aj Kc (by simp) (tt ?_);refine ⟨by omega,Aj V5 (by omega) ?_⟩;refine tt ?_;refine B9.KP (es:=[iL (p.getD k default),.int .i64 (-1)]) (.int _ _) rfl (fun i hi=>?_) (RY B (p.getD k default) (-1)).run ?_
 ·obtain rfl | rfl : i=0∨i=1:=by simp only [List.length_cons,List.length_nil] at hi; omega
  ·intro gg ww v hW hv;exact owL.ln pr _ _ hpr gg B H ww v hW yA hv
  ·exact KC _
 have hib:=FI (p.getD k default) (-1);refine tt ?_;apply bk <;> intro h2
 ·have Aq:=A6 h2;refine tw w1 ?_;exact A4 () (by omega) ⟨AM Ea Aq,o⟩ rfl
 have Aq:=A7 h2
 obtain ⟨f1,f2,f3⟩:=J6 (l:=p.getD k default) (a:=-1) (by omega)
 generalize xu : indexOf (p.getD k default) (-1)=e at *
 have Bf:=hP.row k Xr
 have W6:=Nq k Xr
 have hx : 0≤(k : Int)∧(k : Int)<f.shape.AF:=by omega
 have he : 0≤e∧e<ix f.A1 (k : Int):=by rw [AR]; omega
 have iu : ix (ix p (k : Int)) e=-1:=by rw [AR]; exact f2
 have hv : ∀ y i : Int,0≤y∧y<f.shape.AF→0≤i∧i<ix f.A1 y→ix (ix p y) i=-1∨0≤ix (ix p y) i:=fun y i hy hi=>(hP.val y i hy hi).imp id fun h=>h.1
 have zq : ∀ y i : Int,0≤y∧y<f.shape.AF→0≤i∧i<ix f.A1 y→(y<(k : Int)∨(y=(k : Int)∧i<e))→ix (ix p y) i≠-1:=by
  intro y i hy hi h
  rcases h with h | ⟨rfl,h⟩
  ·exact Sj (Ea y.toNat (by omega)) (hP.sJ hf.1 hy hi).2
  ·rw [AR]; exact f3 i.toNat (by omega)
 have hFT : Rq f p k e:=⟨hx,he,iu,zq⟩
 have zz:=hg.1.sl;rw [← sh] at zz
 have hgz : 0≤ix g.A1 (k : Int)∧ix g.A1 (k : Int)<17:=by rw [AR]; exact hg.1.sz _ (AE.mpr ⟨k,by omega,rfl⟩)
 have hgz2:=hgz;rw [AR] at hgz2;refine tt ?_
 refine AD [0,3,4] (G:=List (List (List Int)) × Ob × Ob) (fun d _=>[(5,some (.int .i64 (d : Int)))])
  (fun d G H=>EJ f g p k e d G.1∧PM G.2.1 (.buf HP Xs.length) p∧Fs (A++G.1) G.2.2∧A9 H0 H ((DC,Kb f g (.buf HP Xs.length) (.fn (.func F) ca))::(G.2.1++(G.2.2++l)))) (g.A1.getD k default).toNat ([],q,w) ⟨.zero hx he,hX,by rw [List.append_nil]; exact R5,o⟩ rfl ?_
 clear o hX R5 Kc V5 hpr yA Iw
 rintro d ⟨M,q,w⟩ H hd ⟨hM,hX,R5,o⟩;dsimp only at hM hX R5 o;refine tt ?_;refine AH o (by simp) (tt ?_);refine ⟨by omega, ?_⟩;apply bk <;> intro h3
 rotate_left 1
 ·have BH:=A7 h3;refine tt ?_
  have hdd : (d : Int)=ix g.A1 (k : Int):=by rw [AR]; omega
  rw [hdd] at hM
  have XV:=Hb hf hg sh hP (hM.done hx he);exact ⟨H,.refl _,true,q,w,M,rfl,hX,o,by rw [← XV]; exact List.prefix_refl _,fun _=>⟨R5,XV⟩,fun h=>by cases h⟩
 have BH:=A6 h3
 have w2:=ws d
 have GX : RB f g k e d:=⟨hf,hg,sh,hx,he,by rw [AR]; omega⟩;refine tt ?_;refine AP o fun Io H o=>tt ?_;refine Ai o fun Jf H o=>tt ?_;refine sw o fun H o=>tt ?_
 have o2 : A9 H0 H ((DC,Kb f g (.buf HP Xs.length) (.fn (.func F) ca))::(Jf,.cells 1 [.buf Io 0] 0)::(Io,.cells 2 [] 0)::(q++(w++l))):=o.pm;refine (iD B GX hP hX o2).mono ?_;clear o o2 hX
 rintro r H ⟨ok,kk,p',N,q,Io,rfl,hX,o,hS,M0,DW,R7⟩;refine tt ?_
 have o : A9 H0 H ((DC,Kb f g (.buf HP Xs.length) (.fn (.func F) ca))::(q++(w++((Jf,.cells 1 [.buf Io N.length] 0)::(Io,.cells 2 (flat (N.map XN)) 0)::l)))):=o.pm
 have hun:=hS.jC
 have hNr : ∀ j,j<N.length→(0≤(N.getD j default).1∧(N.getD j default).1.toNat<p.length)∧(0≤(N.getD j default).2∧(N.getD j default).2.toNat<(ix p (N.getD j default).1).length):=fun j hj=>by
  have:=hS.JK (N.getD j default).1 (N.getD j default).2 (AE.mpr ⟨j,hj,rfl⟩);exact ⟨this.1,this.2.1⟩
 have hNl : N.length≤40:=by
  have h1:=hS.nl
  have h2 : (outs f.shape (k : Int)).length≤40:=by
   rw [outs,List.length_map];refine Nat.le_trans (List.length_filter_le _ _) ?_;rw [List.length_range]; omega
  omega
 have lH:=hS.len
 have gN:=hS.row
 cases ok
 case' true =>
  obtain rfl:=DW rfl;refine tt ?_;refine (ih (I6 f p') (by rw [← hn]; exact hS.less GX hP iu) p' rfl (hS.pt GX hP) (A++M) q w _ H0 H hX R5 o).mono ?_;clear o hX R5
  rintro r H ⟨b,q,w,M2,rfl,hX,o,IK,RE,MI⟩
  have jq:=FF hf hg sh (hS.pt GX hP)
  have zc:=hM.next hFT hP Im jq fun t=>hS.ext GX hP t
  have Nm : (b=true→∃ M',Fs (A++M') w∧EJ f g p k e ((d : Int)+1) M')∧(b=false→∃ M',Es (A++M') w∧M' <+: Bp f g p):=⟨fun h=>by
   obtain ⟨h1,h2⟩:=RE h;rw [h2] at h1;exact ⟨M++Bp f g p',by rw [← List.append_assoc]; exact h1,zc⟩,fun h=>by
   have h1:=MI h;exact ⟨M++M2,by rw [← List.append_assoc]; exact h1,List.IsPrefix.trans ((List.prefix_append_right_inj M).mpr IK) (zc.pre hFT hP Im (FF hf hg sh hP))⟩⟩
  clear RE MI IK zc jq;refine tt ?_
 case' false =>
  have gI : Fs (A++M) w∧EJ f g p k e ((d : Int)+1) M:=⟨R5,hM.none (R7 rfl)⟩;clear R5;refine tt ?_
  obtain ⟨b,RE,MI⟩ : ∃ b : Bool,AV.bool true=AV.bool b∧b=true:=⟨true,rfl,rfl⟩
  have Nm : (b=true→∃ M',Fs (A++M') w∧EJ f g p k e ((d : Int)+1) M')∧(b=false→∃ M',Es (A++M') w∧M' <+: Bp f g p):=⟨fun _=>⟨M,gI⟩,fun h=>by rw [MI] at h; cases h⟩;rw [RE];clear RE MI gI
 all_goals
  have ir : H.get Jf=some (.cells 1 [.buf Io N.length] 0):=o.get (Jf,.cells 1 [.buf Io N.length] 0) (by simp);refine Aj ir (by simp) (tt ?_)
  refine AD [0,3,4,5,8,55,56] (G:=Ob) (fun j _=>[(57,some (.int .i64 (j : Int)))])
   (fun j q H=>PM q (.buf HP Xs.length) (F4 p' (N.take j))∧A9 H0 H ((DC,Kb f g (.buf HP Xs.length) (.fn (.func F) ca))::(q++(w++((Jf,AG.cells 1 [.buf Io N.length] 0)::(Io,AG.cells 2 (flat (N.map XN)) 0)::l))))) N.length q ⟨hX,o⟩ rfl ?_
  clear o hX ir
  rintro j q H hj ⟨hX,o⟩
  replace hX : PM q (.buf HP Xs.length) (F4 p' (N.take j)):=hX
  replace o : A9 H0 H ((DC,Kb f g (.buf HP Xs.length) (.fn (.func F) ca))::(q++(w++((Jf,.cells 1 [.buf Io N.length] 0)::(Io,.cells 2 (flat (N.map XN)) 0)::l)))):=o;refine tt ?_;apply bk <;> intro h4
  ·have D9:=A6 h4
   have wj:=ws j
   have hr:=hNr j D9
   have iy:=UB p' D9
   have oB : A9 H0 H ((Io,.cells 2 (flat (N.map XN)) 0)::((DC,Kb f g (.buf HP Xs.length) (.fn (.func F) ca))::(Jf,.cells 1 [.buf Io N.length] 0)::(q++(w++l)))):=o.pm;refine tt ?_;refine ⟨D9,Ky (f:=XN) oB D9 ?_⟩
   generalize N.getD j default=yy at *
   obtain ⟨y,i⟩:=yy;refine tt ?_;refine Ai o fun HZ H o=>tt ?_;refine sw o fun H o=>?_
   have hpl2 : (F4 p' (N.take j)).length=p.length:=by rw [Oa,lH]
   have gx : ((F4 p' (N.take j)).getD y.toNat default).length=(p.getD y.toNat default).length:=by rw [PX,gN]
   have oc : A9 H0 H (q++((HZ,.cells 2 [iI y,iI i] 0)::(Io,.cells 2 (flat (N.map XN)) 0)::(DC,Kb f g (.buf HP Xs.length) (.fn (.func F) ca))::(Jf,.cells 1 [.buf Io N.length] 0)::(w++l))):=o.pm
   obtain ⟨idX',Xs',Je,ys,Iw,V5,Ta,o6,Iv⟩:=ML hX oc (y:=y.toNat) (i:=i.toNat) (by have:=hr.1.2; omega) (by rw [gx]; exact hr.2.2)
   obtain ⟨rfl,hXX⟩:=AV.buf.inj ys
   have Kc : H.get DC=some (Kb f g (.buf HP Xs.length) (.fn (.func F) ca)):=oc.get (DC,Kb f g (.buf HP Xs.length) (.fn (.func F) ca)) (by simp)
   have V3:=hr.1.2;refine tt ?_;refine Aj Kc (by simp) (tt ?_);refine AH o (by simp) (tt ?_);refine ⟨⟨hr.1.1,by omega⟩,Aj V5 (by omega) ?_⟩;rw [Ta];refine tt ?_;refine AH o (by simp) (tt ?_);refine ⟨⟨hr.2.1,by rw [gx]; exact hr.2.2⟩,Iv _ _ fun q' H Iq o=>?_⟩;refine tw wj ?_;refine A4 q' (by omega) ⟨by rw [iy]; exact Iq, ?_⟩ rfl
   have o:=o.perm (show _ from List.perm_middle)
   have o3:=o.tl;simp only [Kb,SF.cells] at o3 ⊢;exact o3.pm
  ·have D9:=A7 h4
   obtain rfl : j=N.length:=by omega
   rw [List.take_length,hun] at hX
   have o:=o.FL (l':=(DC,Kb f g (.buf HP Xs.length) (.fn (.func F) ca))::(q++(w++l))) (.cons_cons _ (List.Sublist.append_left (List.Sublist.append_left ((List.sublist_cons_self _ _).trans (List.sublist_cons_self _ _)) _) _));refine tt ?_
   cases b
   ·obtain ⟨M',h1,h2⟩:=Nm.2 rfl;refine tt ?_;exact ⟨H,.refl _,false,q,w,M',rfl,hX,o,h2,(fun h=>by cases h),fun _=>h1⟩
   ·obtain ⟨M',R5,hM'⟩:=Nm.1 rfl;refine tw w2 ?_;exact A4 (M',q,w) (by omega) ⟨by rw [Int.natCast_succ]; exact hM',hX,R5,o⟩ rfl
end Go.Proofs.Shf
namespace Go.Proofs.Shf
open Go.AW Go.Proofs Go.Shf
theorem jW (B : Nat) (l : List Int) : ID Tryz.prog B 73 [iL l] fun p X=>OL p X l :=
 ⟨fun H=>(P6 B l H H [] (.nil H)).mono fun r H' ⟨id,A,e,o,q⟩=>by
  subst e q;exact ⟨_,.inr ⟨id,_,[],rfl,by simp,My _⟩,o⟩⟩
theorem cR (B : Nat) (l : List (List Int)) : ID Tryz.prog B 177 [B5 l] fun p X=>PM p X l:=by
 refine ⟨fun H0=>sV.go fun ⟨hf,_⟩=>?_⟩
 have hl:=AZ hf;simp only [AN] at hl;refine tt ?_;refine ⟨by simp only [AN]; omega,AP (.nil _) fun id H o=>?_⟩;refine tt ?_
 refine AD [9,10] (G:=AV × Ob) (fun k g=>[(3,some g.1),(11,some (.int .i64 (k : Int)))])
  (fun k g H=>PM g.2 g.1 (l.take k)∧A9 H0 H (g.2++[])) l.length (.buf id 0,[(id,.cells 1 [] 0)]) ⟨.inr ⟨id,[],[],rfl,rfl,.nil⟩,o⟩ rfl ?_
 clear o
 rintro k ⟨X,q⟩ H hk ⟨hX,o⟩;dsimp only at hX o;refine tt ?_;apply bk <;> intro h1
 ·have AU:=A6 h1
  have w:=ws k;refine tt ?_;refine ⟨AU, ?_⟩;refine (jW B (l.getD k default)).call o fun Y p H hY o=>?_
  have gw:=hY.one;refine tt ?_;refine ⟨by simp [Cc,AV.DH gw,gw], ?_⟩;refine hX.vB hY ⟨AV.DH gw,gw⟩ o (by rw [List.length_take]; simp only [AN]; omega) fun X' q' H V1 Iq o=>?_;refine tw w ?_;refine A4 (X',q') AU ⟨?_,o⟩ rfl
  simp only;rw [C8 l AU]; exact Iq
 ·have AU:=A7 h1
  obtain rfl : k=l.length:=by omega
  rw [List.take_length] at hX;rw [List.append_nil] at o;refine tt ?_;exact ⟨H,.refl H,q,hX,o⟩
def cK (En : Nat) (A : List (List (List Int))) (w : Ob) : Prop:=∃ (Y : AV) (p : Ob),w=(En,.cells 1 [Y] 0)::p∧Lp B5 p Y A
def wY (most En : Nat) (A : List (List (List Int))) (w : Ob) : Prop:=cK En A w∧A.length≤most
theorem U1 (f : SF) {k : Nat} (hk : k<f.A1.length) {n : Nat} (hn : f.A1.getD k default=n) : (BA f).take (k+1)=(BA f).take k++[List.replicate n (-1)]:=by
 rw [take_one _ (by simpa [BA] using hk)]
 congr 2
 rw [BA,BC _ hk,hn,Int.toNat_natCast]
theorem RP (B : Nat) {f g : SF} (hf : f.Is) (hg : g.Is) (sh : f.shape=g.shape) : PB B 77 [.ptr f.cells,.ptr g.cells] (iI 0):=by
 refine ⟨fun H0=>c77.go fun _=>tt ?_⟩;refine (show PB B _ [.sl [.ptr f.cells,.ptr g.cells]] _ from Dj B [f,g]).go fun _=>?_;rw [Av (by simp [hf,hg])];refine tt ?_;refine ⟨_,(BM B f.shape g.shape).run, ?_⟩;rw [Av sh];refine tt ?_;exact A5 rfl (.refl _)
end Go.Proofs.Shf
