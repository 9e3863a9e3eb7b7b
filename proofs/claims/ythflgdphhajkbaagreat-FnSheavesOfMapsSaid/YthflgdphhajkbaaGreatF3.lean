/- Contracts, part 3. -/
import Derived.Test.YthflgdphhajkbaaGreatF2
set_option linter.unusedVariables false
set_option linter.unusedSimpArgs false
set_option linter.unusedSectionVars false
open Nat (reduceEqDiff reduceAdd reduceMul reduceLeDiff reduceLT)
namespace Go.Proofs.Shf
open Go.AW Go.Proofs Go.Shf
@[go_sem] noncomputable def CM (f : SF) (V : List (List Int)) : List AV:=[iI f.shape.AR,iL f.shape.AH,iL f.shape.to,iL f.shape.Aw,BD f.shape.comp,iL (B5 f V),BD (BK f V),Gi (B9 f V)]
open Classical in
noncomputable def K4 (f : SF) (V : List (List Int)) : List AV:=if Bh f V then CM f V else MG
theorem YB {f : SF} {V : List (List Int)} (h : Bh f V) : K4 f V=CM f V:=by rw [K4,if_pos h]
theorem XY {f : SF} {V : List (List Int)} (h : ¬ Bh f V) : K4 f V=MG:=by rw [K4,if_neg h]
abbrev ri : List AV:=[.int .i64 0,.A1,.A1,.A1,.A1,.A1,.A1,.A1]
theorem Ot (B : Nat) (f : SF) (h : f.Shape) (V : List (List Int)) (v : BT f.shape V) : PB B 191 [.agg f.cells,BD V] (.CK [.agg (K4 f V),.bool (dec (Bh f V))]):=by
 refine ⟨fun H0=>xJ.go fun _=>?_⟩
 have hm:=h.is.1.m
 have Fh:=h.is.1.o
 have Hg:=h.is.1.He
 have Wz:=v.len;refine tt ?_;refine nb (.nil _) fun BN H o=>tt ?_;refine nb o fun F8 H o=>tt ?_;refine sw o fun H o=>tt ?_;refine AZ o (by simp) (tt ?_);refine (EX B f.shape).go fun _=>tt ?_;refine Af o fun Ff H o=>tt ?_;refine Af o fun fY H o=>tt ?_;refine nb o fun Cv H o=>tt ?_;refine sw o fun H o=>?_
 replace o:=AB.push [_] (AB.pull [_,_] o);simp only [List.cons_append,List.nil_append] at o;refine tt ?_
 have ho6 : True:=trivial
 let base : List (Nat × AF):=[(F8,.cells 5 [iI f.shape.AR,iL f.shape.AH,iL f.shape.to,iL f.shape.Aw,BD f.shape.comp] 0),(BN,.cells 8 ri 0)]
 let st : AV→AV→AV→Nat × AF:=fun a b c=>(Cv,.cells 8 [iI f.shape.AR,iL f.shape.AH,iL f.shape.to,iL f.shape.Aw,BD f.shape.comp,a,b,c] 0)
 refine AD [1,2,4,6,7] (G:=AV × Nat × List Int) (fun k _=>[(8,some (.int .i64 (k : Int)))])
  (fun k g H=>(g.2.2=(List.range k).map (Dk f V)∧∀ x,x<k→(Au f V x).length≤16)∧Cb BD H0 H (st (.buf g.2.1 k) (.buf fY 0) g.1::(g.2.1,.cells 1 (g.2.2.map iI) 0)::(fY,.cells 1 [] 0)::base) g.1 ((List.range k).map (Au f V))) V.length (.A1,Ff,[])
  ⟨⟨rfl,by simp⟩,.inl ⟨rfl,rfl,o⟩⟩ rfl ?_
 rintro k ⟨X,Ff,sz⟩ H hk ⟨⟨CW,Aj⟩,hX⟩;dsimp only at CW hX
 have qZ : sz.length=k:=by rw [CW]; simp
 refine tt ?_;apply bk <;> intro h1
 ·refine tt ?_
  have AU:=A7 h1
  have w1:=ws k;refine ⟨AU, ?_⟩;refine ⟨_,(O5 B f k (V.getD k default) h (v.sv k AU) 17 (by omega) (by omega)).run, ?_⟩
  have G7 : BQ f (V.getD k default)=Au f V k:=rfl;rw [G7]
  generalize hF : Au f V k=F at *
  have htl2 : (F.take 17).length=min 17 F.length:=List.length_take;refine tt ?_;apply bk <;> intro h2
  ·refine tt ?_
   have Ah:=A7 h2
   have Ev : ¬ Bh f V:=fun h=>by have:=h k AU; rw [hF] at this; omega
   obtain ⟨q,o,hq⟩:=hX.split
   have jB : H.get BN=some (.cells 8 ri 0):=o.get (BN,.cells 8 ri 0) (by simp [base])
   have jv:=o.out (BN,.cells 8 ri 0) (by simp [base]);rw [jB,Mv];refine ⟨⟨by omega,by simp,(by (try simp only [go_sem]); (try simp)),(by first | (simp only [go_sem]; done) | ((try simp only [go_sem]); simp [AV.one,EJ]))⟩,tt ?_⟩;refine A6 ?_ (Go.AW.CE o.sub jv);rw [XY Ev,Ab Ev]
   simp [uK,wr,MG]
  ·have Ah:=A9 h2;refine tt ?_
   have hF17 : F.take 17=F:=List.take_of_length_le (by omega);rw [hF17];refine Al hX.obj (by simp) (tt ?_);refine hX.app (f:=BD) F rfl (by simp only [AK]; simp; omega) fun idF H o=>tt ?_;refine sw o.swap fun H o=>tt ?_;refine AN o (by simp) (tt ?_);refine Ac (f:=iI) (F.length : Int) (AB.pull [_,_] o) rfl qZ.symm (by simp only [AK]; omega) fun Ff H o=>tt ?_
   replace o:=AB.push [_,_] o;simp only [List.cons_append,List.nil_append] at o;refine sw o fun H o=>?_;refine tw w1 ?_
   have e1 : (List.range (k+1)).map (Au f V)=(List.range k).map (Au f V)++[F]:=by rw [Bg,hF]
   have e2 : (sz++[(F.length : Int)]).length=k+1:=by simp [qZ]
   have o2:=o.swap;rw [e2] at o2;exact A5 (AV.buf idF ((List.range k).map (Au f V)++[F]).length,Ff,sz++[(F.length : Int)]) (by omega) ⟨⟨by rw [Bg,← CW,Dk,hF],AG Aj (by rw [hF]; omega)⟩,.inr ⟨idF,by rw [e1],by rw [e1]; exact o2⟩⟩ rfl
 ·have AU:=A9 h1;refine tt ?_
  have Bf : Bh f V:=fun x hx=>Aj x (by omega)
  have Nc : k=V.length:=by omega
  refine Ef 7 hX rfl fun H o=>AX ?_;have o:=s1 o;refine tt ?_;clear hX
  have Gj : (List.range k).map (Au f V)=B9 f V:=by rw [Nc]; rfl
  rw [Gj] at o
  refine AD [1,4,6,7] (G:=Nat × List (List Int)) (fun a _=>[(10,some (.int .i64 (a : Int)))])
   (fun a g H=>g.2=(List.range a).map (Gn f V)∧AB H0 H (st (.buf Ff k) (.buf g.1 a) (Gi (B9 f V))::(Ff,.cells 1 (sz.map iI) 0)::(g.1,.cells 1 (g.2.map iL) 0)::base)) f.shape.AH.length (fY,[]) ⟨rfl,o⟩ rfl ?_
  rintro a ⟨fY,Aa⟩ H ha ⟨Po,o⟩;dsimp only at Po o
  have rI : Aa.length=a:=by rw [Po]; simp
  have vC : H.get F8=some (.cells 5 [iI f.shape.AR,iL f.shape.AH,iL f.shape.to,iL f.shape.Aw,BD f.shape.comp] 0):=o.get (F8,_) (by simp [base]);refine tt ?_;refine Al vC (by simp) (tt ?_);apply bk <;> intro h2
  ·have Ah:=A7 h2
   have w2:=ws a;refine tt ?_
   have GZ : 0≤(a : Int)∧(a : Int).toNat<f.shape.AH.length:=⟨by omega,by simpa using Ah⟩
   have IL:=h.is.1.Cl GZ.2
   have Cu:=h.is.1.C7 GZ.2;simp only [AJ] at IL Cu;refine Al vC (by simp) (tt ?_);refine ⟨Ah,Al vC (by simp) ?_⟩;refine tt ?_;refine ⟨by omega, ?_⟩;refine Ae iI o fun BW H o=>tt ?_
   have ft : (B9 f V).getD (f.shape.AH.getD a default).toNat default=Au f V (f.shape.AH.getD a default).toNat:=by rw [B9,AS _ _ (by omega)]
   have hF1 : (B9 f V).getD (f.shape.to.getD a default).toNat default=Au f V (f.shape.to.getD a default).toNat:=by rw [B9,AS _ _ (by omega)]
   have iz : ix (B9 f V) (f.shape.AH.getD a default)=Au f V (f.shape.AH.getD a default).toNat:=ft
   have hF1' : ix (B9 f V) (f.shape.to.getD a default)=Au f V (f.shape.to.getD a default).toNat:=hF1
   have G7 : (B9 f V).length=V.length:=by simp [B9]
   have hfs0 : (Au f V (f.shape.AH.getD a default).toNat).length≤16:=Bf _ (by omega)
   have K9:=v.AH h.is GZ
   have CJ:=v.to h.is GZ;simp only [AJ] at K9 CJ
   have hl1:=CJ.len
   let rest : List (Nat × AF):=st (.buf Ff k) (.buf fY a) (Gi (B9 f V))::(Ff,.cells 1 (sz.map iI) 0)::(fY,.cells 1 (Aa.map iL) 0)::base
   refine AD [1,4,6,7,10,11,12] (G:=Nat × List Int) (fun i g=>[(13,some (.buf g.1 g.2.length)),(14,some (.int .i64 (i : Int)))])
    (fun i g H=>g.2=((Au f V (f.shape.AH.getD a default).toNat).take i).map (fun t=>indexOf (Au f V (f.shape.to.getD a default).toNat) (Bd f.shape V a t))∧AB H0 H ((g.1,.cells 1 (g.2.map iI) 0)::rest)) (Au f V (f.shape.AH.getD a default).toNat).length (BW,[]) ⟨by simp,o⟩ rfl ?_
   rintro i ⟨BW,row⟩ H hi ⟨B4,o⟩;dsimp only at B4 o
   have Lu : row.length=i:=by rw [B4,List.length_map,List.length_take]; omega
   have Pd : H.get Cv=some (.cells 8 [iI f.shape.AR,iL f.shape.AH,iL f.shape.to,iL f.shape.Aw,BD f.shape.comp,.buf Ff k,.buf fY a,Gi (B9 f V)] 0):=o.tl.h0
   have vC : H.get F8=some (.cells 5 [iI f.shape.AR,iL f.shape.AH,iL f.shape.to,iL f.shape.Aw,BD f.shape.comp] 0):=o.get (F8,_) (by simp [rest,base]);refine tt ?_;refine Al Pd (by simp) (tt ?_);refine ⟨⟨IL.1,by omega⟩, ?_⟩;rw [iz];apply bk <;> intro h3
   ·have BB:=A7 h3
    have w3:=ws i;refine tt ?_;refine Ae iI o fun rT H o=>tt ?_
    generalize hT : (Au f V (f.shape.AH.getD a default).toNat).getD i default=T at *
    have hTf : NQ f (V.getD (f.shape.AH.getD a default).toNat default) T:=by
     rw [← hT];exact ((Ba h K9).mem _).mp (AE.mpr ⟨i,BB,rfl⟩)
    have hVf : ix V (f.shape.AH.getD a default)=V.getD (f.shape.AH.getD a default).toNat default:=rfl
    have hVt : ix V (f.shape.to.getD a default)=V.getD (f.shape.to.getD a default).toNat default:=rfl
    generalize hW : ix V (f.shape.to.getD a default)=W at *
    generalize hU : ix V (f.shape.AH.getD a default)=U at *
    refine AD [1,4,6,7,10,11,12,13,14] (G:=Nat × List Int) (fun q g=>[(15,some (.buf g.1 g.2.length)),(16,some (.int .i64 (q : Int)))])
     (fun q g H=>g.2=(W.take q).map (fun b=>ix T (indexOf U (ix (ix f.shape.comp a) b)))∧AB H0 H ((g.1,.cells 1 (g.2.map iI) 0)::(BW,.cells 1 (row.map iI) 0)::rest)) W.length (rT,[]) ⟨by simp,o⟩ rfl ?_
    rintro q ⟨rT,mv⟩ H hq ⟨vT,o⟩;dsimp only at vT o
    have Dz : mv.length=q:=by rw [vT,List.length_map,List.length_take]; omega
    have Pd : H.get Cv=some (.cells 8 [iI f.shape.AR,iL f.shape.AH,iL f.shape.to,iL f.shape.Aw,BD f.shape.comp,.buf Ff k,.buf fY a,Gi (B9 f V)] 0):=o.tl.tl.h0
    have vC : H.get F8=some (.cells 5 [iI f.shape.AR,iL f.shape.AH,iL f.shape.to,iL f.shape.Aw,BD f.shape.comp] 0):=o.get (F8,_) (by simp [rest,base]);refine tt ?_;rw [hW];refine ⟨⟨Cu.1,by omega⟩, ?_⟩;apply bk <;> intro h4
    ·have DC:=A7 h4
     have w4:=ws q;refine tt ?_
     have hb : W.getD q default∈W:=AE.mpr ⟨q,DC,rfl⟩
     have si : f.shape.Ax (f.shape.to.getD a default) W:=CJ
     have hUs : f.shape.Ax (f.shape.AH.getD a default) U:=K9
     have FY:=si.arr hb
     have HJ:=v.st a GZ (W.getD q default) (by simp only [AJ]; rw [hW]; exact hb);simp only [AJ] at HJ;rw [hU] at HJ
     have EI:=B3 HJ
     have hTl : T.length=U.length:=by rw [hVf]; exact hTf.len
     have B4:=h.is.1.Ld (a:=(a : Int)) GZ.2;simp only [AJ] at B4;refine Al Pd (by simp) (tt ?_);refine ⟨⟨IL.1,by omega⟩, ?_⟩;rw [iz];refine ⟨BB,⟨IL.1,by omega⟩, ?_⟩;rw [hT,hU];refine SK vC (by simp) ?_;refine tt ?_;refine ⟨⟨Cu.1,by omega⟩, ?_⟩;rw [hW];refine ⟨DC,_,(FE B f.shape a (W.getD q default) ⟨by omega,by rw [h.is.1.cl]; exact GZ.2⟩ ⟨FY.1.1,by rw [AJ]; omega⟩).run,tt ?_⟩;refine ⟨_,(FQ ..).run,tt ?_⟩;refine ⟨⟨EI.1,by omega⟩, ?_⟩;refine Ac (ix T (indexOf U (ix (ix f.shape.comp a) (W.getD q default)))) o (by simp only [AJ]) rfl (by simp only [AK]; omega) fun rT H o=>?_;refine tw w4 ?_;exact A5 (_,_) (by omega) ⟨by rw [BS W _ DC,vT]; simp only [AJ],o⟩ rfl
    ·have DC:=A9 h4;refine tt ?_;refine Ak o rfl fun H o=>tt ?_
     have Pd : H.get Cv=some (.cells 8 [iI f.shape.AR,iL f.shape.AH,iL f.shape.to,iL f.shape.Aw,BD f.shape.comp,.buf Ff k,.buf fY a,Gi (B9 f V)] 0):=o.tl.h0;refine Al Pd (by simp) (tt ?_);refine ⟨⟨Cu.1,by omega⟩, ?_⟩;rw [hF1'];refine (Hm ..).go fun _=>tt ?_
     have l8 : mv=Bd f.shape V a T:=by
      rw [vT,show q=W.length by omega,List.take_length,Bd];simp only [AJ];rw [hW,hU]
     refine Ac (indexOf (Au f V (f.shape.to.getD a default).toNat) mv) o rfl rfl (by simp only [AK]; omega) fun BW H o=>?_;refine tw w3 ?_;exact A5 (_,_) (by omega) ⟨by rw [BS _ _ BB,hT,B4,l8],o⟩ rfl
   ·have BB:=A9 h3;refine tt ?_;refine Ak o rfl fun H o=>tt ?_;refine AN o (by simp) (tt ?_)
    have Dr : row=Gn f V a:=by rw [B4,List.take_of_length_le (by omega)]; rfl
    refine Ac (f:=iL) row (AB.pull [_,_] o) rfl rI.symm (by simp only [AK]; omega) fun fY H o=>?_
    replace o:=AB.push [_,_] o;simp only [List.cons_append,List.nil_append] at o;refine tt ?_;refine sw o fun H o=>?_
    have e2 : (Aa++[row]).length=a+1:=by simp [rI]
    rw [e2] at o;refine tw w2 ?_;exact A5 (fY,Aa++[row]) (by omega) ⟨by rw [Bg,← Po,Dr],o⟩ rfl
  ·have Ah:=A9 h2;refine tt ?_
   have Pz : a=f.shape.AH.length:=by omega
   refine B7 (f:=iI) (A:=sz) 5 o rfl qZ.symm fun H o=>?_;have o:=s1 o;refine B7 (f:=iL) (A:=Aa) 6 o rfl rI.symm fun H o=>AX ?_;have o:=s1 o;refine tt ?_;refine AZ o (by simp) (tt ?_);refine sw (AB.pull [_,_] o) fun H o=>tt ?_;rw [o.rc 8 0 (by simp)];refine tt ?_
   have e1 : sz=B5 f V:=by rw [CW,Nc]; rfl
   have e2 : Aa=BK f V:=by rw [Po,Pz]; rfl
   exact A6 (by rw [YB Bf,Ay Bf,e1,e2]; rfl) o.sub
def SH (ls : List Lk) (ks vs : List AV) : Prop:=(∀ i : Int,LU 0 (iI i) ks) ∧
 ∀ i : Int,(J5 (iI i) ks vs).getD .A1=mL Pv (ls.filter fun l=>decide (l.i=i))∨((J5 (iI i) ks vs).getD .A1=.A1∧(ls.filter fun l=>decide (l.i=i))=[])
theorem WY (B : Nat) (A4 : List Int) (ls : List Lk) (Hh : K1 A4 ls) (Gd : A4.length≤1000) (QW : ls.length≤1000000) (ks vs : List AV) (hM : SH ls ks vs) (FM aB KE Ff : Nat) (fv : AV) :
  ∀ (n : Nat) (p : List Int),DY p=n→G8 A4 p→∀ (H0 H : AA) (l : List (Nat × AF)) (X : AV) (note : List Int) (i : Nat) (e : Int),
   Cb iI H0 H ((aB,.cells 1 [X] 0)::(FM,.cells 1 (p.map iI) 0)::l) X note→(KE,.map ks vs)∈l→i<p.length→0≤e∧e<A4.getD i default→note.length+DY p≤1000 →
   CB B 287 [.GY [iL A4,.GX KE,.buf FM A4.length,fv] Ff,.int .i64 i,.int .i64 e,.ref aB 0] H
    (fun r H'=>∃ ok p' N X',r=.bool ok∧Cb iI H0 H' ((aB,.cells 1 [X'] 0)::(FM,.cells 1 (p'.map iI) 0)::l) X' (note++N)∧J1 A4 ls p i e p' N ok∧N.length+DY p'≤DY p):=by
 intro n
 induction n using Nat.strongRecOn with
 | _ n ih =>
 intro p hn hp H0 H l X note i e hX hm hi he hnb;refine bc.go fun _=>?_
 have Ko:=hp.1;refine tt ?_
 have hgL:=hX.get (x:=(FM,.cells 1 (p.map iI) 0)) (by simp);refine ⟨by omega,CD hgL hi ?_⟩;refine tt ?_;apply bk <;> intro h1
 ·refine tt ?_
  have AU:=A7 h1;refine ⟨by omega,CD hgL hi ?_⟩;refine tt ?_;exact ⟨H,.refl _,_,p,[],X,rfl,by rw [List.append_nil]; exact hX,.Kn hp hi (by omega),by simp⟩
 refine tt ?_
 have AU:=A9 h1
 have h0 : p.getD i default=-1:=(hp.2 i hi).resolve_right fun h=>by omega
 obtain ⟨q,o,hq⟩:=hX.split;refine ⟨by omega,C4 e (AB.mJ q o) rfl hi fun H o=>?_⟩;refine tt ?_
 have hX:=Cb.mk (AB.nD q o) hq;clear o hq;refine Al hX.obj (by simp) (tt ?_);refine hX.app (i : Int) rfl (by simp only [AK]; omega) fun Aw H o=>tt ?_;refine sw o.swap fun H o=>?_
 have hX : Cb iI H0 H ((aB,.cells 1 [.buf Aw (note++[(i : Int)]).length] 0)::(FM,.cells 1 ((p.set i e).map iI) 0)::l) (.buf Aw (note++[(i : Int)]).length) (note++[(i : Int)]):=.inr ⟨Aw,rfl,o.swap⟩;clear o
 have hgM:=hX.get (x:=(KE,.map ks vs)) (by simp [hm]);refine tt ?_;rw [hgM];refine tt ?_;refine ⟨hM.1 i, ?_⟩
 have hV:=hM.2 i
 generalize hVv : (J5 (iI i) ks vs).getD .A1=V at *
 generalize hrs : (ls.filter fun l=>decide (l.i=(i : Int)))=rs at *
 have hlen : FF (some V)=some (True,.int .i64 rs.length):=by
  rcases hV with rfl | ⟨rfl,rfl⟩
  ·exact kP rs
  ·rfl
 refine tw hlen ?_
 have Lu : rs.length≤1000000:=by rw [← hrs]; exact Nat.le_trans (List.length_filter_le _ _) QW
 have rD : ∀ j,j<rs.length→rs.getD j default∈ls∧(rs.getD j default).i=i:=by
  intro j hj
  have : rs.getD j default∈(ls.filter fun l=>decide (l.i=(i : Int))):=by rw [hrs]; exact AE.mpr ⟨j,hj,rfl⟩
  rw [List.mem_filter,decide_eq_true_eq] at this;exact this
 have sk : DY (p.set i e)<DY p:=MY hi h0 he.1
 refine AD [0,2,3,48,49] (G:=List Int × List Int × AV) (fun k _=>[(50,some (.int .i64 (k : Int)))])
  (fun k g H=>Cb iI H0 H ((aB,.cells 1 [g.2.2] 0)::(FM,.cells 1 (g.1.map iI) 0)::l) g.2.2 (note++g.2.1)∧NR A4 ls p i e rs k g.1 g.2.1∧g.2.1.length+DY g.1≤DY p∧0<g.2.1.length) rs.length (p.set i e,[(i : Int)],.buf Aw (note++[(i : Int)]).length)
  ⟨hX,.zero hp hi h0 he,by simp only [List.length_singleton]; omega,by simp⟩ rfl ?_
 rintro k ⟨p',N,X'⟩ H hk ⟨hX,hL,rq,hN0⟩;dsimp only at hX hL rq hN0;refine tt ?_;apply bk <;> intro h2
 ·have Ah:=A7 h2
  have w2:=ws k
  have hVr : V=mL Pv rs:=hV.resolve_right fun h=>by rw [h.2] at Ah; simp at Ah
  rw [hVr]
  have CH:=rD k Ah
  generalize hr : rs.getD k default=r at *
  have bj:=Hh.ok.j r CH.1
  have bl:=Hh.ok.left r CH.1;rw [CH.2,AJ] at bl
  have sj:=Hh.lf r CH.1 _ (Bi (i:=e) (l:=r.left) (by omega))
  obtain ⟨q,o,hq⟩:=hX.split;refine tt ?_;refine ⟨Ah,by simp [AK],Am o fun Ln H o=>?_⟩;rw [hr];refine tt ?_;refine sw o fun H o=>tt ?_;refine AN o (by simp) (tt ?_);refine AN o (by simp) (tt ?_);refine ⟨⟨he.1,by omega⟩, ?_⟩
  have hX:=Cb.mk o.tl hq;clear o hq
  have NS : G8 A4 p':=hL.x3 hp
  have hsl' : p'.length=p.length:=hL.len
  have V4 : r.j=((r.j.toNat : Nat) : Int):=(Int.toNat_of_nonneg bj.1).symm;rw [V4];refine (ih (DY p') (by omega) p' rfl NS H0 H l X' (note++N) r.j.toNat (ix r.left e) hX hm (by omega) ⟨sj.1,sj.2⟩ (by rw [List.length_append]; omega)).mono ?_
  rintro v H' ⟨ok,p2,N2,X2,rfl,Wx,hQ,hNu2⟩;rw [List.append_assoc] at Wx;refine tt ?_
  cases ok with
  | true =>
   refine tt ?_;refine tw w2 ?_
   have D1:=hL.step hp hi Ah (by rw [hr]; omega) (by omega) (by rw [hr]; exact bj.1) (by rw [hr]; exact hQ) (fun j hj=>?_) rD Hh
   ·exact A5 (p2,N++N2,X2) (by omega) ⟨Wx,D1,by simp only [List.length_append]; omega,by simp only [List.length_append]; omega⟩ rfl
   ·have ry:=rD j hj
    have bj:=Hh.ok.j _ ry.1
    have bl:=Hh.ok.left _ ry.1;rw [ry.2,AJ] at bl
    have sj:=Hh.lf _ ry.1 _ (Bi (i:=e) (l:=(rs.getD j default).left) (by omega));exact ⟨bj.1,by omega,sj.1⟩
  | false =>
   refine tt ?_;refine ⟨H',.refl _,false,p2,N++N2,X2,rfl,Wx,hL.fail hp hi h0 Ah (by rw [hr]; exact hQ) (by omega) rD Hh,by simp only [List.length_append]; omega⟩
 ·have Ah:=A9 h2;refine tt ?_;refine ⟨H,.refl _,true,p',N,X',rfl,hX,hL.done (by omega) fun l hl e2=>?_,rq⟩;rw [← hrs,List.mem_filter];exact ⟨hl,decide_eq_true e2⟩
end Go.Proofs.Shf
namespace Go.AW
open Go.Proofs Go.Proofs.Shf
theorem AB.ext {H0 H H' : AA} {l : List (Nat × AF)} (h : AB H0 H l) (k : H.sub H') : AB H0 H' l :=
 ⟨h.sub.trans k,fun x hx=>k _ _ (h.get x hx),h.nd,h.out⟩
theorem Cb.ext {α : Type} {f : α→AV} {H0 H H' : AA} {l : List (Nat × AF)} {X : AV} {A : List α} (h : Cb f H0 H l X A) (k : H.sub H') : Cb f H0 H' l X A:=by
 rcases h with ⟨h1,h2,h⟩ | ⟨id,h1,h⟩
 ·exact .inl ⟨h1,h2,h.ext k⟩
 ·exact .inr ⟨id,h1,h.ext k⟩
theorem UK {α : Type} [Inhabited α] {f : α→AV} [One f] {B : Nat} {H : AA} {id n fr : Nat} {A : List α} (h0 : H.get id=some (.cells 1 (A.map f) fr)) (hn : n=A.length) :
  ∀ g w v,Ao g B H w→Ad g (.buf id n) v→Ad (g.Em H w) (mL f A) v:=by
 subst hn
 have:=Tr.buf (H:=H) id fr (A.map f) (A.map f) h0 rfl (fun i hi=>by rw [List.length_map] at hi; rw [getD_map A hi]; exact CU _) (fun i _=>.val _);rw [List.length_map] at this;exact this.arg
theorem AB.MP {H0 H : AA} {l l' : List (Nat × AF)} (h : AB H0 H l) (k : l'.Sublist l) : AB H0 H l' :=
 ⟨h.sub,fun x hx=>h.get x (k.subset hx),h.nd.sublist (k.map _),fun x hx=>h.out x (k.subset hx)⟩
theorem Cb.MP {α : Type} {f : α→AV} {H0 H : AA} {l l' : List (Nat × AF)} {X : AV} {A : List α} (h : Cb f H0 H l X A) (k : l'.Sublist l) : Cb f H0 H l' X A:=by
 rcases h with ⟨h1,h2,h⟩ | ⟨id,h1,h⟩
 ·exact .inl ⟨h1,h2,h.MP k⟩
 ·exact .inr ⟨id,h1,h.MP (k.cons_cons _)⟩
theorem Q6.FF {α : Type} {f : α→AV} {p : List (Nat × AF)} {X : AV} {A : List α} (h : Q6 f p X A) : FF (some X)=some (True,.int .i64 A.length):=by
 rcases h with ⟨_,rfl,rfl⟩ | ⟨id,_,rfl⟩ <;> rfl
theorem Q6.sub {α : Type} {f : α→AV} {p : List (Nat × AF)} {X : AV} {A : List α} (h : Q6 f p X A) {i : Nat} (hi : i<A.length) : ∃ id,p=[(id,.cells 1 (A.map f) 0)]∧X=.buf id A.length:=by
 rcases h with ⟨_,_,rfl⟩ | h
 ·simp at hi
 ·exact h
theorem Tq {α : Type} (A B C l : List α) : (A++(B++(C++l))).Perm (C++(B++(A++l))):=by
 have : (A++(B++C)).Perm (C++(B++A)):=by
  refine (List.perm_append_comm).trans ?_;rw [← List.append_assoc];exact List.Perm.append_right A List.perm_append_comm
 simpa using List.Perm.append_right l this
theorem BG.gave {α : Type} [Inhabited α] {f : α→AV} [One f] {P : Program} {B : Nat} {fn : FuncId} {args : List AV} {H : AA} {Q : List α→Prop} {K : Ap} (h : BG P B fn args H (P9 f H [] Q))
  (hk : ∀ A H',H.sub H'→Q A→K (mL f A) H') : BG P B fn args H K:=by
 refine ⟨h.1,fun g w vs hW hv=>(h.2 g w vs hW hv).mono fun e w' ⟨v,he,g',r,H',a,⟨id,A,e1,o,q⟩,c,d,k⟩=>?_⟩;subst e1
 obtain ⟨g2,q1,q2,q3⟩:=d.nB o.h0;exact ⟨v,he,g2,mL f A,_,a.trans q1,hk A _ (Go.AW.CE o.sub (o.out _ (by simp))) q,q3 g2 v (.refl _) (c.mono q1),q2,k⟩
end Go.AW
namespace Go.Proofs.Shf
open Go.AW Go.Proofs Go.Shf
theorem dV (B : Nat) (most : Nat) (HD : most≤1048576) (p : List Int) (H0 H : AA) (l : List (Nat × AF)) (FM Mh n : Nat) (X : AV) (out : List (List Int)) (hn : n=p.length)
  (hX : Cb iL H0 H ((Mh,.cells 1 [X] 0)::l) X out) (hm : (FM,.cells 1 (p.map iI) 0)∈l) (ho : out.length≤most) :
  CB B 249 [.buf FM n,.ref Mh 0,.ptr [.int .i64 most]] H (fun r H'=>∃ X',r=.bool (decide (out.length+1≤most))∧Cb iL H0 H' ((Mh,.cells 1 [X'] 0)::l) X' (out++[p])):=by
 refine zT.go fun _=>?_;refine tt ?_;refine Al hX.obj (by simp) (tt ?_)
 have hc : CB B 221 [.buf FM n] H (P9 iI H [] (·=p)) :=
  BG.XZ (f:=iI) (Q:=(·=p)) (es:=[iL p]) (AB.nil H) (fun _=>.int _ _) rfl (fun i hi=>by
   obtain rfl : i=0:=by simp only [List.length_cons,List.length_nil] at hi; omega
   exact UK (hX.get (x:=(FM,.cells 1 (p.map iI) 0)) (by simp [hm])) hn) (MR B p H.Q4 H.Q4 [] (.nil _)) fun id A H' o q=>⟨id,A,rfl,o,q⟩
 refine hc.gave fun A H1 hs hA=>⟨hs, ?_⟩;subst hA
 have hX:=hX.ext hs;refine tt ?_;refine hX.app A rfl (by simp only [AK]; omega) fun Aw H o=>tt ?_;refine sw o.swap fun H o=>tt ?_
 have hX : Cb iL H0 H ((Mh,.cells 1 [.buf Aw (out++[A]).length] 0)::l) (.buf Aw (out++[A]).length) (out++[A]):=.inr ⟨Aw,rfl,o.swap⟩;refine Al hX.obj (by simp) (tt ?_);exact ⟨H,.refl _,_,by simp,hX⟩
end Go.Proofs.Shf
namespace Go.AW
open Go.Proofs Go.Shf Go.Proofs.Shf
theorem QB {l : List Int} {a : Int} (h : 0≤indexOf l a) : (indexOf l a).toNat<l.length∧l.getD (indexOf l a).toNat default=a∧∀ m,m<(indexOf l a).toNat→l.getD m default≠a:=by
 have hm:=(FW l a).mp h
 have hi:=B3 hm;refine ⟨hi.2.1,hi.2.2,fun m Dz e=>?_⟩;unfold indexOf at Dz
 split at Dz
 ·rename_i i hs
  rw [List.idxOf?_eq_some_iff] at hs
  obtain ⟨h1,h2,h3⟩:=hs
  have vM : m<i:=by simpa using Dz
  have h4 : m<l.length:=by omega
  have:=h3 m vM;exact this (by simpa [gE,h4] using e)
 ·simp at Dz
end Go.AW
namespace Go.Proofs.Shf
open Go.AW Go.Proofs Go.Shf
theorem Vt (B : Nat) (A4 : List Int) (ls : List Lk) (Hh : K1 A4 ls) (Gd : A4.length≤1000) (Ss : ∀ i,i<A4.length→A4.getD i default≤1000000) (QW : ls.length≤1000000) (ks vs : List AV) (hM : SH ls ks vs) (most : Nat) (HD : most≤1048576) (FM KE Ff Mh : Nat) :
  ∀ (n : Nat) (p : List Int),DY p=n→G8 A4 p→Kd ls p→∀ (H0 H : AA) (l : List (Nat × AF)) (X : AV) (out : List (List Int)),
   Cb iL H0 H ((Mh,.cells 1 [X] 0)::(FM,.cells 1 (p.map iI) 0)::l) X out→(KE,.map ks vs)∈l→out.length≤most →
   CB B 250 [.GY [iL A4,.GX KE,.buf FM A4.length,.fn (.func 249) [.ref Mh 0,.ptr [.int .i64 most]]] Ff] H
    (fun r H'=>∃ X',r=.bool (decide (out.length+(H6 A4 ls p).length≤most))∧Cb iL H0 H' ((Mh,.cells 1 [X'] 0)::(FM,.cells 1 (p.map iI) 0)::l) X' (out++(H6 A4 ls p).take (most+1 - out.length))):=by
 intro n
 induction n using Nat.strongRecOn with
 | _ n ih =>
 intro p hn hp hc H0 H l X out hX hm ho;refine cg.go fun _=>?_
 have Ko:=hp.1;refine tt ?_;refine BG.GR (es:=[iL p,.int .i64 (-1)]) (.int _ _) rfl (fun i hi=>?_) (P4 B p (-1)).run ?_
 ·obtain rfl | rfl : i=0∨i=1:=by simp only [List.length_cons,List.length_nil] at hi; omega
  ·exact UK (hX.get (x:=(FM,.cells 1 (p.map iI) 0)) (by simp)) Ko.symm
  ·exact DT _
 have hib:=Hp p (-1);refine tt ?_;apply bk <;> intro h1
 ·refine tt ?_
  have AU:=A7 h1
  have Aj : ∀ m,m<p.length→p.getD m default≠-1:=fun m hm e=>by
   have:=(FW p (-1)).mpr (AE.mpr ⟨m,hm,e⟩);omega
  have hex : H6 A4 ls p=[p]:=GH (Od (hc.cons Hh hp) Aj);rw [hex];refine (dV B most HD p H0 H ((FM,.cells 1 (p.map iI) 0)::l) FM Mh A4.length X out Ko.symm hX (by simp) ho).mono ?_
  rintro r H' ⟨X',rfl,hX⟩;refine tt ?_;refine ⟨H',.refl _,X',rfl, ?_⟩;rw [List.take_of_length_le (by simp; omega)];exact hX
 have AU:=A9 h1
 obtain ⟨f1,f2,f3⟩:=QB (l:=p) (a:=-1) (by omega)
 generalize iR : indexOf p (-1)=ii at *
 obtain ⟨i,rfl⟩ : ∃ i : Nat,ii=(i : Int):=⟨ii.toNat,by omega⟩;rw [Int.toNat_natCast] at f1 f2 f3
 have aH:=kS Hh hp hc f1 f2 f3
 replace aH : H6 A4 ls p=CN A4 ls p i (A4.getD i default).toNat:=aH
 have hbi:=Ss i (by omega);refine tt ?_;refine ⟨by omega, ?_⟩
 generalize CW : A4.getD i default=sz at *
 refine AD [0,3,32] (G:=AV) (fun k _=>[(33,some (.int .i64 (k : Int)))])
  (fun k X H=>Cb iL H0 H ((Mh,.cells 1 [X] 0)::(FM,.cells 1 (p.map iI) 0)::l) X (out++CN A4 ls p i k)∧out.length+(CN A4 ls p i k).length≤most) sz.toNat X
  ⟨by rw [Mm,List.append_nil]; exact hX,by rw [Mm]; exact ho⟩ rfl ?_
 rintro k X H hk ⟨hX,Pn⟩
 replace hX : Cb iL H0 H ((Mh,.cells 1 [X] 0)::(FM,.cells 1 (p.map iI) 0)::l) X (out++CN A4 ls p i k):=hX
 replace Pn : out.length+(CN A4 ls p i k).length≤most:=Pn;refine tt ?_;apply bk <;> intro h2
 rotate_left
 ·have Ah:=A9 h2;refine tt ?_
  have hke : k=sz.toNat:=by omega
  refine ⟨H,.refl _,X, ?_, ?_⟩
  ·rw [aH,← hke,decide_eq_true Pn]
  ·rw [aH,← hke,List.take_of_length_le (by omega)]; exact hX
 have Ah:=A7 h2
 have w2:=ws k
 obtain ⟨pp,o,VF⟩:=hX.split;clear hX;refine tt ?_;refine Af o fun gQ H o=>tt ?_;refine Am o fun CS H o=>tt ?_;refine sw o fun H o=>tt ?_
 have hX : Cb iI H0 H ((CS,.cells 1 [.buf gQ 0] 0)::(FM,.cells 1 (p.map iI) 0)::(pp++(Mh,.cells 1 [X] 0)::l)) (.buf gQ 0) [] :=
  .inr ⟨gQ,rfl,o.swap.perm (.cons _ (.cons _ (by
   refine (List.Perm.append_left pp (List.Perm.swap _ _ _)).trans List.perm_middle)))⟩
 clear o
 refine (WY B A4 ls Hh Gd QW ks vs hM FM CS KE Ff (.fn (.func 249) [.ref Mh 0,.ptr [.int .i64 most]]) _ p rfl hp H0 H (pp++(Mh,.cells 1 [X] 0)::l) (.buf gQ 0) [] i k hX (by simp [hm]) f1 ⟨by omega,by omega⟩ (by
  have : DY p≤p.length:=List.countP_le_length;simp only [List.length_nil]; omega)).mono ?_
 rintro v H ⟨ok,p',N,X',rfl,hX,hQ,rq⟩;rw [List.nil_append] at hX
 obtain ⟨q,o,hq⟩:=hX.split
 have hY : Cb iL H0 H ((Mh,.cells 1 [X] 0)::(FM,.cells 1 (p'.map iI) 0)::(q++(CS,.cells 1 [X'] 0)::l)) X (out++CN A4 ls p i k):=by
  refine Cb.mk (p:=pp) (o.perm ?_) VF
  have:=Tq (q++[(CS,AF.cells 1 [X'] 0)]) [(FM,.cells 1 (p'.map iI) 0)] (pp++[(Mh,.cells 1 [X] 0)]) l
  simpa using this
 clear o hX
 have hUn:=hQ.zt
 have Ga:=N0 A4 ls p i k
 have Ll:=Vd A4 ls p i (k:=k+1) (m:=sz.toNat) (by omega)
 have NS : p'.length=p.length:=hQ.len
 have hNb : ∀ j,j<N.length→0≤N.getD j default∧(N.getD j default).toNat<p'.length:=fun j hj=>by
  have:=(hQ.new (N.getD j default)).mp (AE.mpr ⟨j,hj,rfl⟩);exact ⟨this.1,by omega⟩
 have hNl : N.length≤1000:=by
  have : DY p≤p.length:=List.countP_le_length;omega
 cases ok
 case' true =>
  have jC:=Yh (ls:=ls) (A4:=A4) (hQ.ext_iff f1 f2 ⟨by omega,by omega⟩);refine tt ?_;refine (ih (DY p') (by rw [← hn]; exact bT hQ f1 f2 (by omega) rq) p' rfl ⟨by omega,fun r hr=>hQ.part r (by omega)⟩ (hc.set Hh hp hQ) H0 H (q++(CS,.cells 1 [X'] 0)::l) X (out++CN A4 ls p i k) hY (by simp [hm]) (by simp; exact Pn)).mono ?_;clear hY
  rintro v H ⟨X2,rfl,hY⟩;rw [← jC] at hY ⊢
  generalize hb : decide ((out++CN A4 ls p i k).length+(H6 A4 ls (p.set i k)).length≤most)=b
  replace hb : b=decide (out.length+(CN A4 ls p i (k+1)).length≤most):=by
   rw [← hb,Ga]; simp only [List.length_append]; congr 1; rw [Nat.add_assoc]
  refine tt ?_
 case' false =>
  have jC:=hQ.none f1 f2 ⟨by omega,by omega⟩;refine tt ?_
  generalize Wx : X=X2 at hY
  generalize hb : true=b
  replace hb : b=decide (out.length+(CN A4 ls p i (k+1)).length≤most):=by
   rw [← hb,Ga,jC,List.append_nil,decide_eq_true Pn]
  replace hY : Cb iL H0 H ((Mh,.cells 1 [X2] 0)::(FM,.cells 1 (p'.map iI) 0)::(q++(CS,.cells 1 [X'] 0)::l)) X2 ((out++CN A4 ls p i k)++(H6 A4 ls (p.set i k)).take (most+1 - (out++CN A4 ls p i k).length)):=by
   rw [jC]; simpa using hY
 all_goals
  generalize hA : (out++CN A4 ls p i k)++(H6 A4 ls (p.set i k)).take (most+1 - (out++CN A4 ls p i k).length)=A at hY
  have hlN:=hq.FF;refine Al (hY.get (x:=(CS,.cells 1 [X'] 0)) (by simp)) (by simp) ?_;refine tw hlN ?_
  refine AD [0,3,7,32,33,47,48] (G:=Unit) (fun j _=>[(49,some (.int .i64 (j : Int)))])
   (fun j _ H=>Cb iL H0 H ((Mh,.cells 1 [X2] 0)::(FM,.cells 1 ((Hd p' N j).map iI) 0)::(q++(CS,.cells 1 [X'] 0)::l)) X2 A) N.length ()
   (by rw [Yg]; exact hY) rfl ?_
  clear hY
  rintro j _ H hj hY
  replace hY : Cb iL H0 H ((Mh,.cells 1 [X2] 0)::(FM,.cells 1 ((Hd p' N j).map iI) 0)::(q++(CS,.cells 1 [X'] 0)::l)) X2 A:=hY;refine tt ?_;apply bk <;> intro h3
  ·have BB:=A7 h3
   have wj:=ws j
   obtain ⟨Aw,rfl,rfl⟩:=hq.sub BB
   have hb:=hNb j BB;refine tt ?_;refine ⟨BB,CD (f:=iI) (hY.get (x:=(Aw,.cells 1 (N.map iI) 0)) (by simp)) BB ?_⟩;refine tt ?_
   obtain ⟨qq,o,qW⟩:=hY.split;refine ⟨⟨hb.1,by omega⟩,C4 (-1) (AB.mJ qq o) rfl (by rw [U3]; exact hb.2) fun H o=>?_⟩
   have hY:=Cb.mk (AB.nD qq o) qW;rw [← ZT p' N BB hb.1] at hY;refine tw wj ?_;exact A5 () BB hY rfl
  ·have BB:=A9 h3
   have jo : j=N.length:=by omega
   rw [jo,hUn] at hY
   have hY:=hY.MP (l':=(Mh,.cells 1 [X2] 0)::(FM,.cells 1 (p.map iI) 0)::l) (.cons_cons _ (.cons_cons _ ((List.sublist_cons_self _ _).trans (List.sublist_append_right _ _))))
   obtain ⟨r,hr⟩:=Ll
   cases b
   ·refine tt ?_
    have aP:=of_decide_eq_false hb.symm;refine ⟨H,.refl _,X2, ?_, ?_⟩
    ·rw [aH,hr,decide_eq_false];simp only [List.length_append]; omega
    ·rw [aH,hr,Ga];rw [Ga,List.length_append] at aP
     have e : (CN A4 ls p i k++H6 A4 ls (p.set i k)++r).take (most+1 - out.length)=CN A4 ls p i k++(H6 A4 ls (p.set i k)).take (most+1 - (out++CN A4 ls p i k).length):=by
      rw [List.append_assoc,List.take_append,List.take_of_length_le (by omega),List.take_append,List.length_append];rw [show most+1 - out.length - (CN A4 ls p i k).length=most+1 - (out.length+(CN A4 ls p i k).length) by omega];rw [show most+1 - (out.length+(CN A4 ls p i k).length) - (H6 A4 ls (p.set i k)).length=0 by omega]
      simp
     rw [e,← List.append_assoc,hA]; exact hY
   ·refine tw w2 ?_
    have aP:=of_decide_eq_true hb.symm;refine A5 X2 (by omega) ⟨?_,aP⟩ rfl;rw [Ga,List.length_append] at aP;rw [List.take_of_length_le (by rw [List.length_append]; omega)] at hA;rw [Ga,← List.append_assoc,hA]; exact hY
end Go.Proofs.Shf
namespace Go.AW
theorem bY {F : Env→AA→Prop} {σ : Env} {H0 H : AA} {l : List (Nat × AF)} {id sz : Nat} {cs : List AV} {fr : Nat} {cs0 : List AV} (t k : Nat) (hf : fr≤k) (hk : k≤cs.length) (o : AB H0 H ((id,.cells sz cs fr)::l)) (ht : σ.get t=some (.GY cs0 id))
  (hF : ∀ H',AB H0 H' ((id,.cells sz cs k)::l)→Gb F ((t,some (.GY (cs.take k) id))::σ) H') : Gb F σ H:=by
 have h1:=o.h0;simp only at h1;refine DZ (σ1:=(t,some (.GY (cs.take k) id))::σ) ?_ (hF _ (o.put (.cells sz cs k)))
 intro g B w tm hW hE
 obtain ⟨q1,q2⟩:=hE t _ ht
 generalize hu : tm.getD t undef=u at q2
 cases q2 with
 | GY _ _ b cap _ D4 _ _ =>
  have l6:=hW.wH h1 D4 hf hk
  obtain ⟨p,hp,hr⟩:=hW.ob _ _ h1;rw [D4] at hp; cases hp;simp only [Ai] at hr
  obtain ⟨r1,r2,r3,r4,c,el,r5,r6,r7,r8⟩:=hr
  obtain ⟨g1,g2⟩:=l6.Hy b k c el (0,0) r5 fun i p o e hp Ux=>by
   by_cases KD : i=id
   ·subst KD;rw [D4] at hp; cases hp
    simp at e;exact ⟨_,_,_,e.symm,Nat.le_refl _⟩
   ·exfalso
    cases p with
    | nil=>cases Ux
    | HE b' cap' =>
     cases Ux;exact l6.inj i id b cap' cap KD (by simp [e]) (by simp) hp D4
    | mp b' =>
     cases Ux
     obtain ⟨q,hq,hr⟩:=l6.ob _ _ e;rw [hp] at hq; cases hq
     cases o with
     | cells sz' cs' f'=>simp [Ai] at hr
     | map ks vs =>
      simp only [Ai] at hr
      obtain ⟨_,_,es,clk,h5,_⟩:=hr;rw [r5] at h5; cases h5
  refine ⟨_,g1,g2,fun s x e=>?_⟩;simp only [Env.get] at e
  split at e
  ·rename_i hs; cases e; subst hs
   refine ⟨q1, ?_⟩;rw [hu]
   have D3 : (cs.take k).length=k:=by rw [List.length_take]; omega
   refine .GY _ id b cap (fun i=>c.getD i undef) (g1.io _ _ D4) (fun i hi=>?_) (fun i hi=>?_)
   ·rw [D3] at hi;simp only [Gh.Hy]
    have : i<c.size:=by omega
    simp [hi,Array.getD,this]
   ·rw [D3] at hi
    have e2 : (cs.take k).getD i nv=cs.getD i nv:=by simp [gE,hi]
    rw [e2]; exact (r8 i (by omega)).mono g1
  ·obtain ⟨z1,z2⟩:=hE s x e; exact ⟨z1,z2.mono g1⟩
theorem Yv {H0 H : AA} {l : List (Nat × AF)} {K : Ap} {id sz off n fr : Nat} {cs vs : List AV} (o : AB H0 H ((id,.cells sz cs fr)::l)) (h0 : fr≤off) (h1 : off+n≤cs.length) (h2 : vs.length=n) (h3 : ∀ c,c∈vs→c.one=true)
  (hk : ∀ H',AB H0 H' ((id,.cells sz (wr cs off vs) fr)::l)→K nv H') : Oa (H.get id) id off n vs K H:=by
 have e:=o.h0;simp only at e;rw [e,Mv];exact ⟨⟨h0,h1,h2,h3⟩,hk _ (o.put _)⟩
end Go.AW
namespace Go.Proofs.Shf
open Go.AW Go.Proofs Go.Shf
theorem S4 (B : Nat) (x : Int) (n : Nat) (hn : n≤1048576) (H0 H : AA) (l : List (Nat × AF)) (o : AB H0 H l) : CB B 248 [.int .i64 x,.int .i64 n] H (P9 iI H0 l (·=List.replicate n x)):=by
 refine ew.go fun _=>?_;refine tt ?_;refine ⟨by simp [AK]; omega,DL iI 0 rfl o fun id H o=>?_⟩;refine tt ?_;refine AD [0,5,10] (G:=Unit) (fun k _=>[(11,some (.int .i64 (k : Int)))]) (fun k _ H=>AB H0 H ((id,.cells 1 ((List.replicate k x++List.replicate (n - k) 0).map iI) 0)::l)) n () (by simpa using o) rfl ?_;clear o
 rintro k _ H hk o
 replace o : AB H0 H ((id,.cells 1 ((List.replicate k x++List.replicate (n - k) 0).map iI) 0)::l):=o;refine tt ?_;apply bk <;> intro h1
 ·have AU:=A7 h1
  have w:=ws k;refine tt ?_;refine ⟨by omega,C4 x o rfl (by simp; omega) fun H o=>?_⟩
  have e : (List.replicate k x++List.replicate (n - k) 0).set k x=List.replicate (k+1) x++List.replicate (n - (k+1)) 0:=by
   rw [List.set_append_right _ _ (by simp),List.length_replicate,Nat.sub_self,show n - k=(n - (k+1))+1 by omega,List.replicate_succ (n:=n - (k+1)),List.set_cons_zero,List.replicate_succ' (n:=k),List.append_assoc]
   rfl
  rw [e] at o;refine tw w ?_;exact A5 () (by omega) o rfl
 ·have AU:=A9 h1;refine tt ?_
  obtain rfl : k=n:=by omega
  exact H5 o (by simp) (by simp)
theorem BH {α : Type} [Inhabited α] (l : List α) {k : Nat} (hk : k<l.length) : l.take (k+1)=l.take k++[l.getD k default]:=by
 have hN : l[k]=l.getD k default:=by simp [gE,hk]
 rw [← hN]; exact (List.take_append_getElem hk).symm
def CP (ls : List Lk) (k : Nat) (ks : List Int) : List (List Lk):=ks.map fun i=>(ls.take k).filter fun l=>decide (l.i=i)
theorem HR (ls : List Lk) {k : Nat} (hk : k<ls.length) (i : Int) : ((ls.take (k+1)).filter fun l=>decide (l.i=i))=((ls.take k).filter fun l=>decide (l.i=i))++if (ls.getD k default).i=i then [ls.getD k default] else []:=by
 have hN : ls[k]=ls.getD k default:=by simp [gE,hk]
 have ht : ls.take (k+1)=ls.take k++[ls.getD k default]:=by rw [← hN]; exact (List.take_append_getElem hk).symm
 rw [ht,List.filter_append]
 congr 1
 simp only [List.filter_cons,List.filter_nil,decide_eq_true_eq]
theorem WK {ls : List Lk} {ks : List Int} {k : Nat} (hk : k<ls.length) (EI : (ls.getD k default).i∈ks) (HK : ks.Nodup) :
  CP ls (k+1) ks=(CP ls k ks).set (ks.idxOf (ls.getD k default).i) ((CP ls k ks).getD (ks.idxOf (ls.getD k default).i) []++[ls.getD k default]):=by
 generalize hr : ls.getD k default=r at *
 have D3 : ks.idxOf r.i<ks.length:=List.idxOf_lt_length_iff.mpr EI;apply List.ext_getElem (by simp [CP])
 intro m h1 h2
 have hm : m<ks.length:=by simpa [CP] using h1
 have XM : ks[ks.idxOf r.i]=r.i:=List.getElem_idxOf D3;simp only [CP,List.getElem_map,List.getElem_set,HR ls hk,hr]
 by_cases e : ks.idxOf r.i=m
 ·subst e;rw [if_pos rfl,XM,if_pos rfl]
  simp [gE,D3,XM]
 ·rw [if_neg e,if_neg,List.append_nil]
  intro e2;exact e ((List.getElem_inj HK (h₀:=D3) (h₁:=hm)).mp (by rw [XM,e2]))
theorem U1 {ls : List Lk} {ks : List Int} {k : Nat} (hk : k<ls.length) (EI : ¬ (ls.getD k default).i∈ks) (Aj : ∀ l,l∈ls.take k→l.i∈ks) :
  CP ls (k+1) (ks++[(ls.getD k default).i])=CP ls k ks++[[ls.getD k default]]:=by
 generalize hr : ls.getD k default=r at *;simp only [CP,List.map_append,List.map_cons,List.map_nil,HR ls hk,hr]
 congr 1
 ·apply List.map_congr_left
  intro i hi;rw [if_neg (show ¬ r.i=i from fun e=>EI (by rw [e]; exact hi)),List.append_nil]
 ·have : ((ls.take k).filter fun l=>decide (l.i=r.i))=[]:=by
   rw [List.filter_eq_nil_iff]
   intro l hl e
   have:=Aj l hl; rw [of_decide_eq_true e] at this; exact EI this
  rw [this]; simp
theorem Vj {ls : List Lk} {ks : List Int} (Aj : ∀ l,l∈ls→l.i∈ks) : SH ls (ks.map iI) ((CP ls ls.length ks).map (mL Pv)):=by
 refine ⟨fun i=>Lh i ks,fun i=>?_⟩;rw [Sg (by simp [CP])]
 by_cases hi : i∈ks
 ·left
  have D3 : ks.idxOf i<ks.length:=List.idxOf_lt_length_iff.mpr hi
  have XM : ks[ks.idxOf i]=i:=List.getElem_idxOf D3
  simp [CP,D3,XM]
 ·right
  have D3 : ks.idxOf i=ks.length:=List.idxOf_eq_length hi;refine ⟨by simp [CP,D3], ?_⟩;rw [List.filter_eq_nil_iff]
  intro l hl e
  have:=Aj l hl; rw [of_decide_eq_true e] at this; exact hi this
theorem cX (B : Nat) (A4 : List Int) (ls : List Lk) (Hh : K1 A4 ls) (Gd : A4.length≤1000) (Ss : ∀ i,i<A4.length→A4.getD i default≤1000000) (QW : ls.length≤1000000) (most : Nat) (HD : most≤1048576) :
  PB B 171 [iL A4,mL Pv ls,.int .i64 most] (.CK [BD ((Vk A4 ls).take (most+1)),.bool (decide ((Vk A4 ls).length≤most))]):=by
 refine ⟨fun H0=>w6.go fun _=>tt ?_⟩;refine Af (.nil _) fun gQ H o=>tt ?_;refine Am o fun Mh H o=>tt ?_;refine sw o fun H o=>tt ?_;refine PS o fun KE H o=>tt ?_;refine (S4 B (-1) A4.length (by omega) H0 H _ o).own fun FM A H o hA=>?_;rw [hA] at o
 have Lt : A.length=A4.length:=by rw [hA]; simp
 rw [Lt];clear hA Lt
 have sq : (AV.GX KE).cells=[.GX KE]:=rfl;try simp only [go_sem,↓reduceIte,reduceEqDiff,reduceAdd,reduceMul,reduceLeDiff,reduceLT,sq,Fw,Ht,List.set_cons_zero,List.set_cons_succ]
 refine nb o fun Ff H o=>tt ?_;refine kA 9 3 (by simp) o rfl fun H o=>AX ?_;simp only [List.take_succ_cons,List.take_zero];refine tt ?_
 refine AD [5,8,9,21,22] (G:=List Int × List AV × List (Nat × AF)) (fun k _=>[(23,some (.int .i64 (k : Int)))])
  (fun k g H=>J2 3 Pv g.2.1 (CP ls k g.1) g.2.2∧g.1.Nodup∧(∀ l,l∈ls.take k→l.i∈g.1) ∧
   AB H0 H ((KE,.map (g.1.map iI) g.2.1)::(g.2.2++[(Ff,.cells 4 [iL A4,AV.GX KE,AV.buf FM A4.length,AV.Pq] 3),(FM,.cells 1 ((List.replicate A4.length (-1)).map iI) 0),(Mh,.cells 1 [AV.buf gQ 0] 0),(gQ,.cells 1 [] 0)])))
  ls.length ([],[],[]) ⟨.nil,.nil,by simp,o.perm (by
   refine List.Perm.trans ?_ (List.Perm.swap _ _ _);exact .cons _ (.swap _ _ _))⟩ rfl ?_
 clear o
 rintro k ⟨ks,Xs,ob⟩ H hk ⟨hR,HK,EI,o⟩;dsimp only at hR HK EI o;refine tt ?_
 have JN : Xs.length=ks.length:=by have:=hR.len; simpa [CP] using this
 apply bk <;> intro h1
 ·have AU:=A7 h1
  have w:=ws k;refine tt ?_;refine ⟨AU, ?_⟩;refine nb o fun Ed H o=>?_
  generalize hr : ls.getD k default=r at *;refine tt ?_;refine sw o fun H o=>tt ?_;refine CX 11 o rfl fun H o=>AX ?_
  have hg : H.get KE=some (.map (ks.map iI) Xs):=o.h0;refine tt ?_;rw [hg];refine tt ?_;refine ⟨Lh _ _, ?_⟩;rw [Sg JN]
  by_cases hi : r.i∈ks
  ·have D3 : ks.idxOf r.i<ks.length:=List.idxOf_lt_length_iff.mpr hi
   obtain ⟨p,rest,h2,h3,h4⟩:=hR.split (ks.idxOf r.i) (by omega)
   have e1 : (Xs[ks.idxOf r.i]?).getD .A1=Xs.getD (ks.idxOf r.i) nv:=by simp [gE,JN,D3]
   rw [e1]
   have o:=o.perm (List.Perm.cons _ (List.Perm.append_right _ h2)) |>.perm (l:=_) (r:=p++((KE,.map (ks.map iI) Xs)::(rest++_))) (by
    rw [List.append_assoc]; exact List.perm_middle.symm)
   have Lt : ((CP ls k ks).getD (ks.idxOf r.i) []).length≤ls.length:=by
    simp [CP,gE,D3];exact Nat.le_trans (List.length_filter_le _ _) (by rw [List.length_take]; omega)
   refine h3.app (f:=Pv) o r rfl (by simp only [AK]; omega) fun Aw H o=>?_
   generalize hA : (CP ls k ks).getD (ks.idxOf r.i) []=A at *
   have hg : H.get KE=some (.map (ks.map iI) Xs):=o.tl.h0;refine tt ?_;rw [hg];refine tt ?_;rw [Rp _ _ JN,if_pos hi];refine tw w ?_
   obtain ⟨ob',q1,q2⟩:=h4 (.buf Aw (A++[r]).length) (A++[r]) [(Aw,.cells 3 (flat ((A++[r]).map Pv)) 0)] (.inr ⟨Aw,rfl,rfl⟩);refine ⟨Lh _ _,A5 (ks,Xs.set (ks.idxOf r.i) (.buf Aw (A++[r]).length),ob') AU ⟨?_,HK, ?_, ?_⟩ rfl⟩
   ·have:=WK AU (by rw [hr]; exact hi) HK;rw [hr,hA] at this
    show J2 3 Pv _ (CP ls (k+1) ks) ob'
    rw [this]; exact q1
   ·intro l hl;rw [BH ls AU,List.mem_append,List.mem_singleton,hr] at hl
    rcases hl with hl | rfl
    ·exact EI l hl
    ·exact hi
   ·exact (o.swap.put _).perm (.cons _ (by
     rw [← List.cons_append];exact List.Perm.append_right _ q2.symm))
  ·have D3 : ks.idxOf r.i=ks.length:=List.idxOf_eq_length hi
   have e1 : (Xs[ks.idxOf r.i]?).getD .A1=.A1:=by simp [JN,D3]
   rw [e1]
   have hN : WG 3 Pv [] .A1 ([] : List Lk):=.inl ⟨rfl,rfl,rfl⟩;refine hN.app (f:=Pv) (by exact o) r rfl (by simp [AK]) fun Aw H o=>?_
   have hg : H.get KE=some (.map (ks.map iI) Xs):=o.tl.h0;refine tt ?_;rw [hg];refine tt ?_;rw [Rp _ _ JN,if_neg hi];refine tw w ?_;refine ⟨Lh _ _,A5 (ks++[r.i],Xs++[.buf Aw ([]++[r]).length],ob++[(Aw,.cells 3 (flat (([]++[r]).map Pv)) 0)]) AU ⟨?_, ?_, ?_, ?_⟩ rfl⟩
   ·have:=U1 AU (by rw [hr]; exact hi) EI;rw [hr] at this
    show J2 3 Pv _ (CP ls (k+1) (ks++[r.i])) _
    rw [this]; exact hR.snoc (.inr ⟨Aw,rfl,rfl⟩)
   ·rw [List.nodup_append];refine ⟨HK,by simp,fun a ha b hb=>?_⟩;rw [List.mem_singleton] at hb;subst hb
    rintro rfl;exact hi ha
   ·intro l hl;rw [BH ls AU,List.mem_append,List.mem_singleton,hr] at hl
    show l.i∈ks++[r.i]
    rw [List.mem_append,List.mem_singleton]
    rcases hl with hl | rfl
    ·exact .inl (EI l hl)
    ·exact .inr rfl
   ·refine (o.swap.put _).perm (.cons _ ?_);rw [List.append_assoc];exact List.perm_middle.symm
 ·have AU:=A9 h1;refine tt ?_
  obtain rfl : k=ls.length:=by omega
  refine oA hR [] H (by exact o) fun H o=>AX ?_;clear hR
  have N8 : (AV.fn (.func 249) [.ref Mh 0,.ptr [.int .i64 most]]).cells=[.fn (.func 249) [.ref Mh 0,.ptr [.int .i64 most]]]:=rfl
  have o:=AB.pull [_] o;refine tw N8 ?_;refine Yv o (by simp) (by simp) rfl (by simp only [Bu,CZ]; exact ⟨rfl,trivial⟩) fun H o=>?_;have o:=s2 o;rw [List.nil_append] at o;refine bY 9 4 (by simp) (by simp) o rfl fun H o=>AX ?_;simp only [List.take_succ_cons,List.take_zero]
  have hM:=Vj (ls:=ls) (ks:=ks) (by simpa using EI)
  have hX : Cb iL H0 H ((Mh,.cells 1 [.buf gQ 0] 0)::(FM,.cells 1 ((List.replicate A4.length (-1)).map iI) 0)::[(KE,.map (ks.map iI) ((CP ls ls.length ks).map (mL Pv))),(Ff,.cells 4 [iL A4,AV.GX KE,AV.buf FM A4.length,.fn (.func 249) [.ref Mh 0,.ptr [.int .i64 most]]] 4)]) (.buf gQ 0) [] :=
   .inr ⟨gQ,rfl,o.perm (List.reverse_perm _).symm⟩
  clear o
  have hneg : ∀ i : Int,0≤i→i.toNat<A4.length→ix (List.replicate A4.length (-1)) i=-1:=fun i h0 h1=>by
   simp [ix,gE,h1]
  refine tt ?_
  refine (Vt B A4 ls Hh Gd Ss QW _ _ hM most HD FM KE Ff Mh _ (List.replicate A4.length (-1)) rfl ⟨by simp,fun q hq=>.inl (by
   rw [List.length_replicate] at hq
   simp [gE,hq])⟩ (fun l hl h0=>by
    have a:=Hh.ok.i l hl;rw [hneg _ a.1 a.2] at h0; omega) H0 H _ (.buf gQ 0) [] hX (by simp) (by simp)).mono ?_
  clear hX
  rintro r H ⟨X,rfl,hX⟩;rw [List.nil_append,List.length_nil,Nat.sub_zero] at hX;rw [List.length_nil,Nat.zero_add]
  have hso : H6 A4 ls (List.replicate A4.length (-1))=Vk A4 ls:=rfl;rw [hso] at hX ⊢;refine tt ?_;refine Al hX.obj (by simp) (tt ?_)
  rcases hX with ⟨rfl,e,o⟩ | ⟨id,rfl,o⟩
  ·refine tt ?_;exact A6 (by rw [e]; rfl) o.sub
  ·refine tt ?_;refine Ak o rfl fun H o=>tt ?_;exact A6 rfl o.sub
end Go.Proofs.Shf
namespace Go.Shf
open Go.AW
def S8 (f : SF) (s : List Int) (i : Nat) (b : Int) : Lk:=⟨(i : Int),indexOf s (ix (ix f.shape.comp (s.getD i default)) b),ix f.Aa b,N3 (ix (B2 f s) (indexOf s (ix (ix f.shape.comp (s.getD i default)) b)))⟩
theorem qP (f : SF) (s : List Int) (i : Nat) : ((EA f.shape s i f.shape.AH.length).map (Jp f s))=(outs f.shape (ix f.shape.to (s.getD i default))).map (S8 f s i):=by
 rw [EA,outs,List.map_map,List.map_map]
 rfl
theorem Vc (f : SF) (s : List Int) (k : Nat) : (EL f.shape s (k+1)).map (Jp f s)=(EL f.shape s k).map (Jp f s)++(outs f.shape (ix f.shape.to (s.getD k default))).map (S8 f s k):=by
 rw [Iv,List.map_append,qP]
theorem wZ {f : SF} {x : Int} {s : List Int} (h : f.Shape) (hs : f.shape.Ax x s) : K1 (B2 f s) (EE f s):=by
 refine ⟨Xt h hs,fun l hl=>?_,fun l hl y hy=>?_⟩
 ·obtain ⟨r,hr,rfl⟩:=List.mem_map.mp hl
  rfl
 ·obtain ⟨r,hr,rfl⟩:=List.mem_map.mp hl
  obtain ⟨i,hi,b,hb,e,rfl⟩:=GB.mp hr
  have hx:=F9 h hs hi hb e
  have ha:=h.act b (by rw [h.al]; exact hb);simp only [Jp,Gt,List.getD_cons_zero,List.getD_cons_succ,AJ] at hy ⊢
  have h1:=ha.2 y hy
  have h3:=(D0 h hs hx.1.2).1
  have e2 : ix (B2 f s) (indexOf s (ix (ix f.shape.comp (s.getD i default)) b))=ix f.A4 (f.shape.to.getD b default):=by
   have h4:=hx.2.1;simp only [ix] at h3 h4 ⊢;rw [h3,h4]
   have h5:=hx.2.2;simp only [ix,Int.toNat_natCast] at h5;simp only [Int.toNat_natCast];rw [h5]
  simp only [ix,Int.toNat_natCast] at e2 h1 ⊢;rw [e2]; exact h1
end Go.Shf
namespace Go.Proofs.Shf
open Go.AW Go.Proofs Go.Shf
theorem fT (B : Nat) (f : SF) (h : f.Shape) (x : Int) (s : List Int) (hs : f.shape.Ax x s) : PB B 166 [.ptr f.cells,iL s] (.CK [iL (B2 f s),mL Pv (EE f s)]):=by
 refine ⟨fun H0=>c166.go fun Gc=>?_⟩
 have hm:=h.is.1.m
 have Fh:=h.is.1.o
 have Hg:=h.is.1.He
 have Gd:=h.sl
 have Pz:=h.al
 have sE:=hs.len;refine tt ?_;refine Af (.nil _) fun Cv H o=>tt ?_;refine Af o fun Ec H o=>tt ?_
 refine AD [0,1,6,18,19] (G:=Nat × Nat) (fun k g=>[(7,some (.buf g.1 k)),(8,some (.buf g.2 ((EL f.shape s k).map (Jp f s)).length)),(20,some (.int .i64 (k : Int)))])
  (fun k g H=>AB H0 H [(g.2,.cells 3 (flat (((EL f.shape s k).map (Jp f s)).map Pv)) 0),(g.1,.cells 1 (((B2 f s).take k).map iI) 0)]) s.length (Cv,Ec) o rfl ?_
 clear o
 rintro k ⟨Cv,Ec⟩ H hk o;dsimp only at o;refine tt ?_;apply bk <;> intro h1
 ·have AU:=A7 h1
  have w:=ws k
  have Kl:=hs.arr (AE.mpr ⟨k,AU,rfl⟩)
  have Cu:=h.is.1.C7 Kl.1.2
  have nF : ix f.A4 (ix f.shape.to (s.getD k default))=(B2 f s).getD k default:=(D0 h hs AU).1.symm
  have G7 : (B2 f s).length=s.length:=by simp [B2]
  refine tt ?_;refine ⟨AU,⟨Kl.1.1,by omega⟩,⟨Cu.1,by omega⟩, ?_⟩;rw [nF];refine Ac (f:=iI) ((B2 f s).getD k default) o.swap rfl (by rw [List.length_take]; omega) (by rw [List.length_take]; simp only [AK]; omega) fun Cv H o=>?_;rw [← BH _ (by omega)] at o ⊢;refine tt ?_;refine ⟨⟨Kl.1.1,by omega⟩, ?_⟩;refine (HO B f.shape _).go fun _=>?_
  generalize hL : outs f.shape (ix f.shape.to (s.getD k default))=L at *;refine tt ?_
  have l9 : L.length≤40:=by
   rw [← hL,outs,List.length_map];refine Nat.le_trans (List.length_filter_le _ _) ?_;rw [List.length_range]; omega
  have jc:=G9 f.shape s k
  have hMl2 : ((EL f.shape s k).map (Jp f s)).length≤1600:=by
   rw [List.length_map];refine Nat.le_trans jc (Nat.le_trans (Nat.mul_le_mul (show k≤40 by omega) hm) (by omega))
  generalize hM : (EL f.shape s k).map (Jp f s)=M at *
  have w2 : ((B2 f s).take (k+1)).length=k+1:=by rw [List.length_take]; omega
  rw [w2]
  refine AD [0,1,6,7,9,10,18,19,20,49,50] (G:=Nat) (fun j g=>[(8,some (.buf g (M++(L.take j).map (S8 f s k)).length)),(51,some (.int .i64 (j : Int)))])
   (fun j g H=>AB H0 H [(g,.cells 3 (flat ((M++(L.take j).map (S8 f s k)).map Pv)) 0),(Cv,.cells 1 (((B2 f s).take (k+1)).map iI) 0)]) L.length Ec (by simpa using o.swap) (by simp only [List.take_zero,List.map_nil,List.append_nil]; rfl) ?_
  clear o
  rintro j Ec H hj o
  replace o : AB H0 H [(Ec,.cells 3 (flat ((M++(L.take j).map (S8 f s k)).map Pv)) 0),(Cv,.cells 1 (((B2 f s).take (k+1)).map iI) 0)]:=o;refine tt ?_;apply bk <;> intro h2
  ·have Ah:=A7 h2
   have w3:=ws j
   have hLj : L.getD j default∈L:=AE.mpr ⟨j,Ah,rfl⟩;rw [← hL] at hLj
   have hb:=BV.mp hLj;rw [hL] at hb
   generalize FY : L.getD j default=b at *;refine tt ?_;refine ⟨Ah, ?_⟩;rw [FY]
   have Ma:=h.is.1.cl
   have hrw:=h.is.1.row (s.getD k default).toNat Kl.1.2;refine ⟨_,(CL B f.shape (s.getD k default) b ⟨Kl.1.1,by omega⟩ ⟨hb.1,by simp only [ix]; omega⟩).run,tt ?_⟩;refine ⟨_,(P4 B s _).run,⟨hb.1,by omega⟩, ?_⟩
   have nP : ∀ z : Int,(AV.int .i64 z).cells=[.int .i64 z]:=fun _=>rfl;simp only [nP,Fw,Ht,List.set_cons_zero,List.set_cons_succ];refine ⟨by simp,⟨rfl,by simp only [Bu,CZ]; exact ⟨rfl,rfl,rfl,trivial⟩⟩, ?_⟩;refine L0 (f:=Pv) (S8 f s k b) o rfl rfl (by simp only [List.length_append,List.length_map,List.length_take,AK]; omega) fun HC H o=>?_
   have e : (M++(L.take j).map (S8 f s k))++[S8 f s k b]=M++(L.take (j+1)).map (S8 f s k):=by
    rw [BH L Ah,FY,List.map_append,← List.append_assoc]; rfl
   rw [e] at o ⊢;refine tw w3 ?_;exact A5 HC Ah o rfl
  ·have Ah:=A9 h2
   obtain rfl : j=L.length:=by omega
   have e:=Vc f s k;rw [hM,hL] at e;rw [List.take_length,← e] at o ⊢;refine tw w ?_;exact A5 (Cv,Ec) AU o rfl
 ·have AU:=A9 h1
  obtain rfl : k=s.length:=by omega
  refine tt ?_;refine Ak o.swap ?_ fun H o=>?_
  ·simp [B2]
  refine RX o rfl fun H o=>tt ?_;exact A6 (by rw [List.take_of_length_le (by simp [B2])]; rfl) o.sub
theorem Ml (B : Nat) (f : SF) (h : f.Shape) (x : Int) (s : List Int) (hs : f.shape.Ax x s) (most : Nat) (HD : most≤1048576) :
  PB B 93 [.ptr f.cells,iL s,.int .i64 most] (.CK [BD ((BQ f s).take (most+1)),.bool (decide ((BQ f s).length≤most))]):=by
 refine ⟨fun H0=>c93.go fun Gc=>?_⟩
 have hm:=h.is.1.m
 have sE:=hs.len
 have G7 : (B2 f s).length=s.length:=by simp [B2]
 refine tt ?_;refine (fT B f h x s hs).go fun _=>tt ?_;refine (cX B (B2 f s) (EE f s) (wZ h hs) (by omega) (fun i hi=>?_) ?_ most HD).go fun _=>?_
 ·have:=(D0 h hs (i:=i) (by omega)).2.2;omega
 ·rw [EE,List.length_map];refine Nat.le_trans (G9 f.shape s s.length) (Nat.le_trans (Nat.mul_le_mul (show s.length≤40 by omega) hm) (by omega))
 refine tt ?_;exact A6 rfl (.refl _)
end Go.Proofs.Shf
namespace Go.Shf
open Go.AW Go.Proofs.Shf
abbrev kB : Int→AV:=AV.int .u8
instance : One kB:=⟨fun _=>rfl,fun _=>rfl⟩
def Du (L : List (List Int)) : List Int:=L.flatMap fun l=>l.map IntKind.u8.wrap++[255]
def NH (L : List (List Int)) : List UInt8:=(Du L).map fun n=>UInt8.ofNat n.toNat
theorem Qu (L : List (List Int)) (l : List Int) : Du (L++[l])=Du L++l.map IntKind.u8.wrap++[255]:=by
 simp [Du]
theorem UJ (A C : List (List Int)) : Du (A++C)=Du A++Du C:=by simp [Du]
theorem SV (L : List (List Int)) (k : Nat) : (Du (L.take k)).length≤(Du L).length:=by
 have : Du L=Du (L.take k)++Du (L.drop k):=by rw [← UJ,List.take_append_drop]
 rw [this,List.length_append]; omega
theorem b9 (L : List (List Int)) : L.length≤(Du L).length:=by
 induction L with
 | nil=>simp
 | cons a L ih =>
  have : Du (a::L)=Du [a]++Du L:=UJ [a] L;rw [this,List.length_append]
  have : 1≤(Du [a]).length:=by simp [Du]
  simp only [List.length_cons]; omega
theorem dP (L : List (List Int)) {k : Nat} (hk : k<L.length) : (Du (L.take k)).length+(L.getD k default).length+1≤(Du L).length:=by
 have h1:=SV L (k+1);rw [BH L hk,Qu] at h1;simp only [List.length_append,List.length_map,List.length_cons,List.length_nil] at h1;omega
def RS (L : List (List Int)) : Nat→List AV × List AV
 | 0=>([],[])
 | k+1=>Ie (.str (NH [L.getD k default])) (iI k) (RS L k).1 (RS L k).2
theorem TS (k x : AV) (hk : ∃ s,k=.str s) : ∀ (ks vs : List AV),(∀ a,a∈ks→∃ s,a=.str s)→∀ a,a∈(Ie k x ks vs).1→∃ s,a=.str s
 | [],_,h,a,ha=>by simp [Ie] at ha; subst ha; exact hk
 | b::ks,[],h,a,ha=>by simp [Ie] at ha; subst ha; exact hk
 | b::ks,v::vs,h,a,ha=>by
  simp only [Ie] at ha
  split at ha
  ·simp only [List.mem_cons] at ha
   rcases ha with rfl | ha
   ·exact hk
   ·exact h a (by simp [ha])
  ·simp only [List.mem_cons] at ha
   rcases ha with rfl | ha
   ·exact h a (by simp)
   ·exact TS k x hk ks vs (fun c hc=>h c (by simp [hc])) a ha
theorem Xd (L : List (List Int)) : ∀ k a,a∈(RS L k).1→∃ s,a=.str s
 | 0,a,h=>by simp [RS] at h
 | k+1,a,h=>TS _ _ ⟨_,rfl⟩ _ _ (Xd L k) a h
theorem JQ (L : List (List Int)) (k : Nat) (s : List UInt8) : LU 1 (.str s) (RS L k).1:=⟨rfl,fun a ha=>by obtain ⟨t,rfl⟩:=Xd L k a ha; rfl⟩
end Go.Shf
namespace Go.Proofs.Shf
open Go.AW Go.Proofs Go.Shf
theorem Rg (B : Nat) (L : List (List Int)) (hb : (Du L).length≤1000000) : PB B 192 [BD L] (.str (NH L)):=by
 refine ⟨fun H0=>ef.go fun Gc=>?_⟩
 have hL : L.length≤(Du L).length:=b9 L;refine tt ?_;refine Af (.nil _) fun Ch H o=>tt ?_
 refine AD [9,10] (G:=Nat) (fun k g=>[(3,some (.buf g (Du (L.take k)).length)),(11,some (.int .i64 (k : Int)))])
  (fun k g H=>AB H0 H [(g,.cells 1 ((Du (L.take k)).map kB) 0)]) L.length Ch o rfl ?_
 clear o
 rintro k Ch H hk o
 replace o : AB H0 H [(Ch,.cells 1 ((Du (L.take k)).map kB) 0)]:=o;refine tt ?_;apply bk <;> intro h1
 ·have AU:=A7 h1
  have w:=ws k;refine tt ?_;refine ⟨AU, ?_⟩
  have lV:=dP L AU
  generalize hl : L.getD k default=l at *
  generalize hP : Du (L.take k)=P at *
  have hP2 : Du (L.take (k+1))=P++l.map IntKind.u8.wrap++[255]:=by rw [BH L AU,Qu,hP,hl]
  refine AD [9,10,11,15,16] (G:=Nat) (fun j g=>[(3,some (.buf g (P++(l.take j).map IntKind.u8.wrap).length)),(17,some (.int .i64 (j : Int)))])
   (fun j g H=>AB H0 H [(g,.cells 1 ((P++(l.take j).map IntKind.u8.wrap).map kB) 0)]) l.length Ch (by simpa using o) (by simp only [List.take_zero,List.map_nil,List.append_nil]; rfl) ?_
  clear o
  rintro j Ch H hj o
  replace o : AB H0 H [(Ch,.cells 1 ((P++(l.take j).map IntKind.u8.wrap).map kB) 0)]:=o;refine tt ?_;apply bk <;> intro h2
  ·have Ah:=A7 h2
   have w2:=ws j;refine tt ?_;refine ⟨Ah, ?_⟩;refine Ac (f:=kB) (IntKind.u8.wrap (l.getD j default)) o rfl rfl (by simp only [List.length_append,List.length_map,List.length_take,AK]; omega) fun HC H o=>?_
   have e : (P++(l.take j).map IntKind.u8.wrap)++[IntKind.u8.wrap (l.getD j default)]=P++(l.take (j+1)).map IntKind.u8.wrap:=by
    rw [BH l Ah,List.map_append,← List.append_assoc]; rfl
   rw [e] at o ⊢;refine tw w2 ?_;exact A5 HC Ah o rfl
  ·have Ah:=A9 h2
   obtain rfl : j=l.length:=by omega
   rw [List.take_length] at o ⊢;refine tt ?_;refine Ac (f:=kB) 255 o rfl rfl (by simp only [List.length_append,List.length_map,AK]; omega) fun HC H o=>?_;rw [← hP2] at o ⊢;refine tw w ?_;exact A5 HC AU o rfl
 ·have AU:=A9 h1
  obtain rfl : k=L.length:=by omega
  rw [List.take_length] at o ⊢;refine tt ?_;refine Ak o rfl fun H o=>tt ?_
  have Zz : RU (some (mL kB (Du L)))=some (∀ e,e∈(Du L).map kB→e.isByte=true,.str (NH L)):=by
   rw [mL,jO,List.map_map]; rfl
  rw [Zz];refine tt ?_;refine ⟨fun e he=>?_,A6 rfl o.sub⟩
  obtain ⟨n,_,rfl⟩:=List.mem_map.mp he
  rfl
theorem ZH (B : Nat) (L : List (List Int)) (hl : L.length≤1000000) (hb : ∀ l,l∈L→l.length≤1000) : PB B 255 [BD L] (.IH (RS L L.length).1 (RS L L.length).2):=by
 refine ⟨fun H0=>de.go fun Gc=>tt ?_⟩;refine PS (.nil _) fun Ch H o=>tt ?_
 refine AD [3,7,8] (G:=Unit) (fun k g=>[(9,some (.int .i64 (k : Int)))])
  (fun k g H=>AB H0 H [(Ch,.map (RS L k).1 (RS L k).2)]) L.length () o rfl ?_
 clear o
 rintro k _ H hk o
 replace o : AB H0 H [(Ch,.map (RS L k).1 (RS L k).2)]:=o;refine tt ?_;apply bk <;> intro h1
 ·have AU:=A7 h1
  have w:=ws k;refine tt ?_;refine ⟨AU, ?_⟩
  have hm : L.getD k default∈L:=AE.mpr ⟨k,AU,rfl⟩;refine (Rg B [L.getD k default] (by have:=hb _ hm; simp [Du]; simp only [gE] at this; omega)).go fun _=>?_
  have hg : H.get Ch=some (.map (RS L k).1 (RS L k).2):=o.h0;refine tt ?_;rw [hg];refine tt ?_;refine ⟨JQ L k _, ?_⟩;refine tw w ?_;exact A5 () AU (o.put _) rfl
 ·have AU:=A9 h1
  obtain rfl : k=L.length:=by omega
  refine tt ?_;refine j8 3 o rfl fun H o=>AX ?_;refine tt ?_;exact A6 rfl o.sub
end Go.Proofs.Shf
namespace Go.Shf
open Go.AW
structure NJ where
 shape : B0
 A4 : List Int
 nQ : List (List Int)
 BM : List (List (List Int))
 marks : List (List Bool)
@[go_sem] def NJ.cls (v : NJ) : List AV:=[iI v.shape.AR,iL v.shape.AH,iL v.shape.to,iL v.shape.Aw,BD v.shape.comp,iL v.A4,BD v.nQ,Gi v.BM]
@[go_sem] def NJ.cells (v : NJ) (cnt : AV) : List AV:=[.ptr v.cls,.ptr v.shape.cells,mL (mL AV.bool) v.marks,cnt]
def S1 (S : List (List Int)) (m : List Bool) (f : Int) (k : Nat) : Bool:=(List.range k).all fun n=>!(m.getD n default) || decide (f∈S.getD n default)
theorem ZW (S : List (List Int)) (m : List Bool) (f : Int) (k : Nat) : S1 S m f (k+1)=(S1 S m f k && (!(m.getD k default) || decide (f∈S.getD k default))):=by
 simp [S1,List.range_succ,List.all_append]
def KK (v : NJ) (x : Nat) : List Int:=(outs v.shape x).filter fun f=>S1 (v.BM.getD x default) (v.marks.getD x default) f (v.marks.getD x default).length
theorem MB {α : Type} [Inhabited α] (p : α→Bool) (l : List α) {k : Nat} (hk : k<l.length) : (l.take (k+1)).filter p=(l.take k).filter p++if p (l.getD k default) then [l.getD k default] else []:=by
 have hN : l[k]=l.getD k default:=by simp [gE,hk]
 have ht : l.take (k+1)=l.take k++[l.getD k default]:=by rw [← hN]; exact (List.take_append_getElem hk).symm
 rw [ht,List.filter_append]
 congr 1
 simp only [List.filter_cons,List.filter_nil]
end Go.Shf
namespace Go.Proofs.Shf
open Go.AW Go.Proofs Go.Shf
theorem Yp (B : Nat) (v : NJ) (cnt : AV) (x : Nat) (hx : x<v.marks.length) (hs : x<v.BM.length) (hl : (v.marks.getD x default).length≤(v.BM.getD x default).length) (hm : v.shape.AH.length≤40) (Dz : (v.marks.getD x default).length≤1000000) :
  PB B 254 [.ptr (v.cells cnt),.int .i64 x] (iL (KK v x)):=by
 refine ⟨fun H0=>c254.go fun Gc=>tt ?_⟩;refine Af (.nil _) fun CS H o=>tt ?_
 have l9 : (outs v.shape x).length≤40:=by
  rw [outs,List.length_map];refine Nat.le_trans (List.length_filter_le _ _) ?_;rw [List.length_range]; omega
 refine (HO B v.shape x).go fun _=>?_
 generalize hL : outs v.shape x=L at *
 generalize hP : (fun f=>S1 (v.BM.getD x default) (v.marks.getD x default) f (v.marks.getD x default).length)=P
 have hR : KK v x=L.filter P:=by rw [KK,hL,hP]
 rw [hR]
 generalize hM : v.marks.getD x default=M at *
 generalize hS : v.BM.getD x default=S at *;refine tt ?_
 refine AD [0,1,17,18] (G:=Nat) (fun k g=>[(5,some (.buf g ((L.take k).filter P).length)),(19,some (.int .i64 (k : Int)))])
  (fun k g H=>AB H0 H [(g,.cells 1 (((L.take k).filter P).map iI) 0)]) L.length CS o rfl ?_
 clear o
 rintro k CS H hk o
 replace o : AB H0 H [(CS,.cells 1 (((L.take k).filter P).map iI) 0)]:=o;refine tt ?_;apply bk <;> intro h1
 ·have AU:=A7 h1
  have w:=ws k;refine tt ?_;refine ⟨AU, ?_⟩
  generalize hf : L.getD k default=f at *
  have hPf : P f=S1 S M f M.length:=by rw [← hP]
  refine ⟨hx, ?_⟩;rw [hM]
  refine AD [0,1,5,7,17,18,19,29,30] (G:=Unit) (fun j _=>[(8,some (.bool (S1 S M f j))),(31,some (.int .i64 (j : Int)))])
   (fun j _ H'=>H'=H) M.length () rfl rfl ?_
  rintro j _ H' hj rfl;refine tt ?_;apply bk <;> intro h2
  ·have Ah:=A7 h2
   have w2:=ws j
   have Zo:=ZW S M f j
   cases hc : S1 S M f j with
   | false =>
    rw [hc,Bool.false_and] at Zo;refine tt ?_;refine ⟨Ah, ?_⟩;refine tw w2 ?_;exact A5 () Ah rfl (by rw [Zo])
   | true =>
    rw [hc,Bool.true_and] at Zo
    cases KF : M.getD j default with
    | false =>
     rw [KF] at Zo;refine tw KF ?_;refine ⟨Ah, ?_⟩;refine tw w2 ?_;exact A5 () Ah rfl (by rw [Zo]; rfl)
    | true =>
     rw [KF] at Zo;refine tw KF ?_;refine ⟨Ah,hs, ?_⟩;rw [hS];refine ⟨by omega, ?_⟩;refine (Rt B (S.getD j default) f).go fun _=>?_
     have hdd : dec (f∈S.getD j default)=decide (f∈S.getD j default):=by
      by_cases e : f∈S.getD j default
      ·rw [FK.mpr e,decide_eq_true e]
      ·rw [Oi.mpr e,decide_eq_false e]
     rw [hdd];refine tw w2 ?_;exact A5 () Ah rfl (by rw [Zo]; rfl)
  ·have Ah:=A9 h2
   obtain rfl : j=M.length:=by omega
   rw [← hPf]
   have Ga:=MB P L AU;rw [hf] at Ga
   cases hPv : P f with
   | false =>
    refine tw w ?_;rw [hPv] at Ga;simp only [Bool.false_eq_true,if_false,List.append_nil] at Ga;rw [← Ga] at o ⊢;exact A5 CS AU o rfl
   | true =>
    refine tt ?_;rw [hPv] at Ga;simp only [if_true] at Ga;refine Ac (f:=iI) f o rfl rfl (by have:=List.length_filter_le P (L.take k); rw [List.length_take] at this; simp only [AK]; omega) fun HC H o=>?_;rw [← Ga] at o ⊢;refine tw w ?_;exact A5 HC AU o rfl
 ·have AU:=A9 h1
  obtain rfl : k=L.length:=by omega
  rw [List.take_length] at o ⊢;refine tt ?_;refine Ak o rfl fun H o=>tt ?_;exact A6 rfl o.sub
end Go.Proofs.Shf
namespace Go.Shf
open Go.AW
theorem Uo {k x : AV} : ∀ {ks vs : List AV},(∀ a,a∈ks→k.Sb a=false)→vs.length=ks.length→Ie k x ks vs=(ks++[k],vs++[x])
 | [],vs,_,h=>by
  have : vs=[]:=List.eq_nil_of_length_eq_zero h;subst this; rfl
 | b::ks,[],_,h=>by simp at h
 | b::ks,v::vs,h1,h=>by
  simp only [Ie,h1 b (by simp),Bool.false_eq_true,if_false];rw [Uo (fun a ha=>h1 a (by simp [ha])) (by simpa using h)]
  rfl
theorem UD : ∀ {ks : List (List UInt8)} {vs : List AV},vs.length=ks.length→∀ s,J5 (.str s) (ks.map AV.str) vs=vs[ks.idxOf s]?
 | [],vs,h,i=>by
  have : vs=[]:=List.eq_nil_of_length_eq_zero h;subst this; rfl
 | k::ks,[],h,i=>by simp at h
 | k::ks,v::vs,h,i=>by
  simp only [List.map_cons,J5,AV.Sb,decide_eq_true_eq,List.idxOf_cons]
  by_cases e : i=k
  ·subst e; simp
  ·have h2 : (k == i)=false:=by simpa using fun h=>e h.symm
   rw [if_neg e,UD (by simpa using h),h2]; simp
theorem Um {a b : List Int} (ha : ∀ y,y∈a→0≤y∧y<255) (hb : ∀ y,y∈b→0≤y∧y<255) (h : NH [a]=NH [b]) : a=b:=by
 have h1 : a.map (fun y=>UInt8.ofNat (IntKind.u8.wrap y).toNat)=b.map (fun y=>UInt8.ofNat (IntKind.u8.wrap y).toNat):=by
  simp only [NH,Du,List.flatMap_cons,List.flatMap_nil,List.append_nil,List.map_append,List.map_map] at h;exact List.append_cancel_right h
 have hw : ∀ y : Int,0≤y∧y<255→IntKind.u8.wrap y=y:=fun y hy=>by
  have e : y % 256=y:=by omega
  simp only [IntKind.wrap,IntKind.bits,IntKind.signed]
  simpa using e
 clear h
 induction a generalizing b with
 | nil=>cases b with
  | nil=>rfl
  | cons y b=>simp at h1
 | cons x a ih=>cases b with
  | nil=>simp at h1
  | cons y b =>
   simp only [List.map_cons,List.cons.injEq] at h1
   have hx:=ha x (by simp)
   have hy:=hb y (by simp);rw [hw x hx,hw y hy] at h1
   have e : x=y:=by
    have h2:=congrArg UInt8.toNat h1.1;simp only [UInt8.toNat_ofNat'] at h2;omega
   rw [e,ih (fun z hz=>ha z (by simp [hz])) (fun z hz=>hb z (by simp [hz])) h1.2]
theorem qF {L : List (List Int)} (nd : L.Nodup) (hb : ∀ l,l∈L→∀ y,y∈l→0≤y∧y<255) : ∀ k,k≤L.length→RS L k=(((L.take k).map fun l=>NH [l]).map AV.str,(List.range k).map fun i : Nat=>iI (i : Int)):=by
 intro k
 induction k with
 | zero=>intro _; rfl
 | succ k ih =>
  intro hk
  have hk : k<L.length:=by omega
  rw [RS,ih (by omega),Uo]
  ·rw [Go.Proofs.Shf.BH L hk,List.range_succ]; simp
  ·intro a ha;simp only [List.map_map,List.mem_map,Function.comp_apply] at ha
   obtain ⟨l,hl,rfl⟩:=ha;simp only [AV.Sb,decide_eq_false_iff_not]
   intro e
   have hm : L.getD k default∈L:=AE.mpr ⟨k,hk,rfl⟩
   have:=Um (hb _ hm) (hb _ (List.mem_of_mem_take hl)) e;rw [← this] at hl
   obtain ⟨j,hj,e2⟩:=AE.mp hl;rw [List.length_take] at hj
   have e3 : L.getD j default=L.getD k default:=by
    rw [← e2]; simp [gE,List.getElem?_take,show j<k by omega]
   have h1:=Bp nd (k:=j) (by omega)
   have h2:=Bp nd hk;rw [e3,h2] at h1;omega
  ·simp
   omega
theorem SJ {L : List (List Int)} (nd : L.Nodup) (hb : ∀ l,l∈L→∀ y,y∈l→0≤y∧y<255) {m : List Int} (hm : m∈L) : J5 (.str (NH [m])) (RS L L.length).1 (RS L L.length).2=some (iI (indexOf L m)):=by
 obtain ⟨k,hk,rfl⟩:=AE.mp hm;rw [qF nd hb _ (Nat.le_refl _),List.take_length,UD (by simp),Bp nd hk]
 have : (L.map fun l=>NH [l]).idxOf (NH [L.getD k default])=k:=by
  have HK : (L.map fun l=>NH [l]).Nodup:=by
   rw [List.Nodup,List.pairwise_map];refine List.Pairwise.imp_of_mem ?_ nd
   intro a b ha Zz Bq e;exact Bq (Um (hb a ha) (hb b Zz) e)
  have IM : k<(L.map fun l=>NH [l]).length:=by simpa using hk
  have:=HK.idxOf_getElem k IM
  simpa [gE,hk] using this
 rw [this]
 simp [hk]
end Go.Shf
namespace Go.AW
theorem Cb.focus {α β : Type} {f : α→AV} {g : β→AV} {H0 H : AA} {x : Nat × AF} {p r : List (Nat × AF)} {X Y : AV} {A : List α} {C : List β} (h : Cb f H0 H (x::(p++r)) X A) (hp : Q6 g p Y C) :
  ∃ q,Q6 f q X A∧Cb g H0 H (x::(r++q)) Y C:=by
 obtain ⟨q,o,hq⟩:=h.split;refine ⟨q,hq,Cb.mk (p:=p) (o.perm ?_) hp⟩
 have:=Tq q [x] p r;refine (by simpa using this : (q++x::(p++r)).Perm (p++x::(q++r))).trans ?_;exact List.Perm.append_left p (.cons _ List.perm_append_comm)
end Go.AW
namespace Go.Shf
open Go.AW
def kC (L : List (List Int)) : AV:=.IH (RS L L.length).1 (RS L L.length).2
instance : One kC:=⟨fun _=>rfl,fun _=>rfl⟩
def EM (v : NJ) : List (List Int):=(List.range v.marks.length).map (KK v)
end Go.Shf
namespace Go.Proofs.Shf
open Go.AW Go.Proofs Go.Shf
@[go_sem] noncomputable def Eu (f : SF) (V : List (List Int)) : AV:=.ptr [.ptr f.cells,iI f.shape.AR,iL f.shape.AH,iL f.shape.to,iL f.shape.Aw,BD f.shape.comp,iL (B5 f V),BD (BK f V),BD V,Gi (B9 f V),mL kC (B9 f V)]
open Classical in
noncomputable def KQ (f : SF) (V : List (List Int)) : AV:=if Bh f V then Eu f V else .Gk
theorem Xg (B : Nat) (v : NJ) (cnt : AV) (f : SF) (h : f.Shape) (Ee : v.shape=f.shape) (Dz : (v.marks.length : Int)=f.shape.AR) (Gd : v.BM.length=v.marks.length)
  (Jo : ∀ x,x<v.marks.length→(v.marks.getD x default).length≤(v.BM.getD x default).length∧(v.marks.getD x default).length≤1000000)
  (c : BT f.shape (EM v)) : PB B 177 [.ptr (v.cells cnt),.ptr f.cells] (.CK [KQ f (EM v),.bool (dec (Bh f (EM v)))]):=by
 obtain ⟨c0,sz,pl,sv,mk⟩:=v
 obtain rfl : c0=f.shape:=Ee;refine ⟨fun H0=>yC.go fun Gc=>?_⟩
 have hm:=h.is.1.m
 have Fh:=h.is.1.o
 have Hg:=h.is.1.He
 have G7:=h.sl
 have Pz:=h.al;simp only at Dz Gd Jo
 generalize hv : (⟨f.shape,sz,pl,sv,mk⟩ : NJ)=v at c ⊢
 have js : v.marks=mk:=by rw [← hv]
 have NA : v.shape=f.shape:=by rw [← hv]
 have sa : v.BM=sv:=by rw [← hv]
 have hVl : (EM v).length=mk.length:=by simp [EM,js]
 have hLx : ∀ x,x<mk.length→(EM v).getD x default=KK v x:=fun x hx=>by rw [EM,AS _ _ (by rw [js]; exact hx)]
 generalize hV : EM v=V at *
 have mC : v.cells cnt=[.ptr v.cls,.ptr f.shape.cells,mL (mL AV.bool) mk,cnt]:=by rw [NJ.cells,NA,js]
 generalize hcls : v.cls=cls at mC;rw [mC];refine tt ?_;refine (KN B f.shape).go fun _=>tt ?_
 let st : AV→AV→AV→AV→AV→AF:=fun x6 x7 x8 x9 x10=>.cells 11 [.ptr f.cells,iI f.shape.AR,iL f.shape.AH,iL f.shape.to,iL f.shape.Aw,BD f.shape.comp,x6,x7,x8,x9,x10] 0
 refine nb (.nil _) fun Cv H o=>tt ?_
 refine AD [0,1,6,7] (G:=(AV × AV × AV × AV) × List (Nat × AF) × List (Nat × AF) × List (Nat × AF)) (fun k g=>[(8,some (.int .i64 (k : Int)))])
  (fun k g H=>Cb iL H0 H ((Cv,st g.1.1 .A1 g.1.2.1 g.1.2.2.1 g.1.2.2.2)::(g.2.1++(g.2.2.1++g.2.2.2))) g.1.2.1 (V.take k)∧Q6 BD g.2.1 g.1.2.2.1 ((List.range k).map (Au f V)) ∧
   Q6 kC g.2.2.1 g.1.2.2.2 ((List.range k).map (Au f V))∧Q6 iI g.2.2.2 g.1.1 ((List.range k).map (Dk f V))∧∀ x,x<k→(Au f V x).length≤16)
  f.shape.AR.toNat ((.A1,.A1,.A1,.A1),[],[],[]) ⟨.inl ⟨rfl,rfl,o⟩,.inl ⟨rfl,rfl,rfl⟩,.inl ⟨rfl,rfl,rfl⟩,.inl ⟨rfl,rfl,rfl⟩,by simp⟩ rfl ?_
 clear o
 rintro k ⟨⟨X6,X8,X9,X10⟩,p9,p10,p6⟩ H hk ⟨hX,h9,YM,h6,Aj⟩;dsimp only at hX h9 YM h6;refine tt ?_;apply bk <;> intro h1
 ·have AU:=A7 h1
  have lV : k<mk.length:=by omega
  have w:=ws k;refine tt ?_
  have IM:=Jo k lV;rw [← js,← sa] at IM
  have Im : AV.ptr [.ptr cls,.ptr f.shape.cells,mL (mL AV.bool) mk,cnt]=.ptr (v.cells cnt):=by rw [mC]
  refine (show PB B 254 [.ptr [.ptr cls,.ptr f.shape.cells,mL (mL AV.bool) mk,cnt],.int .i64 k] (iL (KK v k)) from by
   rw [Im]; exact Yp B v cnt k (by rw [js]; exact lV) (by rw [sa]; omega) IM.1 (by rw [NA]; exact hm) IM.2).go fun _=>?_
  rw [← hLx k lV];refine tt ?_;refine (Ml B f h k (V.getD k default) (c.sv k (by omega)) 16 (by omega)).go fun _=>?_
  have Pj : BQ f (V.getD k default)=Au f V k:=rfl;rw [Pj]
  generalize hF : Au f V k=F at *;refine tt ?_;apply bk <;> intro h2
  ·refine tt ?_
   have Ah : 16<F.length:=by simpa using h2
   have Ev : ¬ Bh f V:=fun e=>by have:=e k (by omega); rw [hF] at this; omega
   have Cq : H0.sub H:=by obtain ⟨_,oo,_⟩:=hX.split; exact oo.sub
   refine A6 ?_ Cq;rw [KQ,if_neg Ev,Ab Ev]
  ·have Ah : F.length≤16:=by simpa using h2
   have vS : F.take 17=F:=List.take_of_length_le (by omega);rw [vS];refine tt ?_;refine Al hX.obj (by simp [st]) (tt ?_);refine hX.app (V.getD k default) rfl (by rw [List.length_take]; simp only [AK]; omega) fun Aw H o=>?_;rw [← BH V (by omega)] at o ⊢;refine tt ?_;refine sw o.swap fun H o=>?_
   have hX : Cb iL H0 H ((Cv,st X6 .A1 (.buf Aw (V.take (k+1)).length) X9 X10)::(p9++(p10++p6))) (.buf Aw (V.take (k+1)).length) (V.take (k+1)):=.inr ⟨Aw,rfl,o.swap⟩
   generalize (AV.buf Aw (V.take (k+1)).length)=X8 at hX;clear o
   obtain ⟨p8,h8,hX⟩:=hX.focus h9;refine tt ?_;refine Al hX.obj (by simp [st]) (tt ?_)
   obtain ⟨Fk,tk⟩ : ∃ Fk,Fk=(List.range (k+1)).map (Au f V):=⟨_,rfl⟩
   obtain ⟨Sk,rz⟩ : ∃ Sk,Sk=(List.range (k+1)).map (Dk f V):=⟨_,rfl⟩
   have e9 : (List.range k).map (Au f V)++[F]=Fk:=by rw [tk,List.range_succ,List.map_append,← hF]; rfl
   have e6 : (List.range k).map (Dk f V)++[(F.length : Int)]=Sk:=by
    rw [rz,List.range_succ,List.map_append,← hF]; rfl
   have nF:=c.sv k (by omega)
   have sE:=nF.len;rw [List.append_assoc] at hX;refine hX.app F rfl (by simp only [List.length_map,List.length_range,AK]; omega) fun Aw H o=>?_;rw [e9] at o ⊢;refine tt ?_;refine sw o.swap fun H o=>?_
   have hX : Cb BD H0 H ((Cv,st X6 .A1 X8 (.buf Aw Fk.length) X10)::(p10++(p6++p8))) (.buf Aw Fk.length) Fk:=.inr ⟨Aw,rfl,o.swap⟩
   generalize (AV.buf Aw Fk.length)=X9 at hX;clear o
   obtain ⟨p9,h9,hX⟩:=hX.focus YM;rw [List.append_assoc] at hX;refine tt ?_;refine Al hX.obj (by simp [st]) (tt ?_);refine ⟨_,(ZH B F (by omega) fun l hl=>?_).run, ?_⟩
   ·rw [← hF] at hl
    have:=(((Ba h nF).mem l).mp hl).len;omega
   refine tt ?_;refine ⟨⟨rfl,fun c hc=>by cases List.mem_singleton.mp hc; rfl⟩, ?_⟩;refine hX.app (f:=kC) F rfl (by simp only [List.length_map,List.length_range,AK]; omega) fun Aw H o=>?_;rw [e9] at o ⊢;refine tt ?_;refine sw o.swap fun H o=>?_
   have hX : Cb kC H0 H ((Cv,st X6 .A1 X8 X9 (.buf Aw Fk.length))::(p6++(p8++p9))) (.buf Aw Fk.length) Fk:=.inr ⟨Aw,rfl,o.swap⟩
   generalize (AV.buf Aw Fk.length)=X10 at hX;clear o
   obtain ⟨p10,YM,hX⟩:=hX.focus h6;rw [List.append_assoc] at hX;refine tt ?_;refine Al hX.obj (by simp [st]) (tt ?_);refine hX.app (F.length : Int) rfl (by simp only [List.length_map,List.length_range,AK]; omega) fun Aw H o=>?_;rw [e6] at o ⊢;refine tt ?_;refine sw o.swap fun H o=>?_
   have hX : Cb iI H0 H ((Cv,st (.buf Aw Sk.length) .A1 X8 X9 X10)::(p8++(p9++p10))) (.buf Aw Sk.length) Sk:=.inr ⟨Aw,rfl,o.swap⟩
   generalize (AV.buf Aw Sk.length)=X6 at hX;clear o
   obtain ⟨p6,h6,hX⟩:=hX.focus h8;rw [List.append_assoc] at hX;rw [tk] at h9 YM;rw [rz] at h6;refine tw w ?_;refine A5 ((X6,X8,X9,X10),p9,p10,p6) (by omega) ⟨hX,h9,YM,h6,fun x hx=>?_⟩ rfl
   by_cases e : x=k
   ·subst e; rw [hF]; exact Ah
   ·exact Aj x (by omega)
 ·have AU:=A9 h1;refine tt ?_
  have rB : k=V.length:=by omega
  have Bf : Bh f V:=fun x hx=>Aj x (by omega);rw [KQ,if_pos Bf,Ay Bf]
  have hVk : V.take k=V:=List.take_of_length_le (by omega);rw [hVk] at hX
  have tk : (List.range k).map (Au f V)=B9 f V:=by rw [rB]; rfl
  have rz : (List.range k).map (Dk f V)=B5 f V:=by rw [rB]; rfl
  rw [tk] at h9 YM;rw [rz] at h6;refine Ef 8 hX rfl fun H o=>?_;clear hX;have o:=s1 o
  have hX:=Cb.mk (o.perm List.perm_middle.symm) h9;clear o;refine Ef 9 hX rfl fun H o=>?_;clear hX;have o:=s1 o
  have hX:=Cb.mk (o.perm List.perm_middle.symm) YM;clear o;refine Ef 10 hX rfl fun H o=>?_;clear hX;have o:=s1 o
  have hX:=Cb.mk (p:=p6) (l:=[_]) (o.perm (List.perm_append_singleton _ _).symm) h6;clear o;refine Ef 6 hX rfl fun H o=>AX ?_;clear hX;have o:=s1 o
  generalize HJ : st=st2;clear Aj h9 YM h6 HJ st2 st
  let st : AV→AF:=fun x7=>.cells 11 [.ptr f.cells,iI f.shape.AR,iL f.shape.AH,iL f.shape.to,iL f.shape.Aw,BD f.shape.comp,iL (B5 f V),x7,BD V,Gi (B9 f V),mL kC (B9 f V)] 0
  refine tt ?_
  refine AD [6,7,98] (G:=AV) (fun a g=>[(99,some (.int .i64 (a : Int)))])
   (fun a X H=>Cb iL H0 H [(Cv,st X)] X ((List.range a).map (Gn f V))) f.shape.AH.length .A1 (.inl ⟨rfl,rfl,o⟩) rfl ?_
  clear o
  rintro a X H ha hX
  replace hX : Cb iL H0 H [(Cv,st X)] X ((List.range a).map (Gn f V)):=hX;refine tt ?_;apply bk <;> intro h2
  ·have Ah:=A7 h2
   have w2:=ws a
   have GZ : 0≤(a : Int)∧(a : Int).toNat<f.shape.AH.length:=⟨by omega,by simpa using Ah⟩
   have IL:=h.is.1.Cl GZ.2
   have Cu:=h.is.1.C7 GZ.2;simp only [AJ] at IL Cu
   obtain ⟨q,o,hq⟩:=hX.split;clear hX;refine tt ?_;refine ⟨Ah,by omega, ?_⟩;refine Ae iI o fun BW H o=>tt ?_
   have ft : ix (B9 f V) (f.shape.AH.getD a default)=Au f V (f.shape.AH.getD a default).toNat:=by rw [ix,B9,AS _ _ (by omega)]
   have hF1 : ix (B9 f V) (f.shape.to.getD a default)=Au f V (f.shape.to.getD a default).toNat:=by rw [ix,B9,AS _ _ (by omega)]
   have gP : (B9 f V).length=V.length:=by simp [B9]
   have hfs0 : (Au f V (f.shape.AH.getD a default).toNat).length≤16:=Bf _ (by omega)
   have K9:=c.AH h.is GZ
   have CJ:=c.to h.is GZ;simp only [AJ] at K9 CJ
   have hl1:=CJ.len
   have Li : Gn f V a=(Au f V (f.shape.AH.getD a default).toNat).map fun t=>indexOf (Au f V (f.shape.to.getD a default).toNat) (Bd f.shape V a t):=rfl
   have VG : ∀ t,t∈Au f V (f.shape.AH.getD a default).toNat→NQ f (ix V (f.shape.AH.getD a default)) t:=fun t ht=>((Ba h K9).mem t).mp ht
   have fq : ∀ t,t∈Au f V (f.shape.to.getD a default).toNat↔NQ f (ix V (f.shape.to.getD a default)) t:=fun t=>(Ba h CJ).mem t
   have hnd1 : (Au f V (f.shape.to.getD a default).toNat).Nodup:=(Ba h CJ).nodup
   have vT : ∀ t,t∈Au f V (f.shape.AH.getD a default).toNat→Bd f.shape V a t∈Au f V (f.shape.to.getD a default).toNat:=fun t ht=>by
    rw [fq]
    have:=M8 h c GZ (t:=t) (by simp only [AJ]; exact VG t ht)
    simpa only [AJ] using this
   have Pm : ∀ t,t∈Au f V (f.shape.to.getD a default).toNat→∀ y,y∈t→0≤y∧y<255:=fun t ht y hy=>by
    have N6:=(fq t).mp ht
    obtain ⟨j,hj,rfl⟩:=AE.mp hy
    have aO : j<(ix V (f.shape.to.getD a default)).length:=by rw [← N6.len]; exact hj
    have h1:=N6.Nb j aO
    have h2:=(D0 h CJ (i:=j) aO);rw [h2.1] at h2;omega
   have Pd : H.get Cv=some (st X):=o.get (Cv,st X) (by simp);refine Al Pd (by simp [st]) (tt ?_);refine ⟨⟨IL.1,by omega⟩, ?_⟩;rw [ft]
   generalize hF0v : Au f V (f.shape.AH.getD a default).toNat=F0 at *
   generalize hF1v : Au f V (f.shape.to.getD a default).toNat=F1 at *
   refine AD [6,7,12,13,14,98,99,123,124] (G:=Nat × List Int) (fun i g=>[(15,some (.buf g.1 g.2.length)),(125,some (.int .i64 (i : Int)))])
    (fun i g H=>g.2=(F0.take i).map (fun t=>indexOf F1 (Bd f.shape V a t))∧AB H0 H ((g.1,.cells 1 (g.2.map iI) 0)::(q++[(Cv,st X)]))) F0.length (BW,[]) ⟨by simp,o⟩ rfl ?_
   clear o Pd
   rintro i ⟨BW,row⟩ H hi ⟨B4,o⟩;dsimp only at B4 o
   have Lu : row.length=i:=by rw [B4,List.length_map,List.length_take]; omega
   refine tt ?_;apply bk <;> intro h3
   ·have BB:=A7 h3
    have w3:=ws i;refine tt ?_;refine ⟨BB, ?_⟩;refine Ae iI o fun rT H o=>?_
    have Pd : H.get Cv=some (st X):=o.get (Cv,st X) (by simp);refine tt ?_;refine Al Pd (by simp [st]) (tt ?_);refine ⟨⟨Cu.1,by omega⟩, ?_⟩
    have hTm : F0.getD i default∈F0:=AE.mpr ⟨i,BB,rfl⟩
    generalize hT : F0.getD i default=T at *
    have hTf:=VG T hTm
    generalize hW : ix V (f.shape.to.getD a default)=W at *
    generalize hU : ix V (f.shape.AH.getD a default)=U at *
    have si : f.shape.Ax (f.shape.to.getD a default) W:=CJ
    have hUs : f.shape.Ax (f.shape.AH.getD a default) U:=K9
    have hWl:=si.len
    have hTl:=hTf.len
    refine AD [6,7,12,13,14,15,17,98,99,123,124,125,136,137] (G:=Nat × List Int) (fun n g=>[(18,some (.buf g.1 g.2.length)),(138,some (.int .i64 (n : Int)))])
     (fun n g H=>g.2=(W.take n).map (fun b=>ix T (indexOf U (ix (ix f.shape.comp a) b)))∧AB H0 H ((g.1,.cells 1 (g.2.map iI) 0)::(BW,.cells 1 (row.map iI) 0)::(q++[(Cv,st X)]))) W.length (rT,[]) ⟨by simp,o⟩ rfl ?_
    clear o Pd
    rintro n ⟨rT,mv⟩ H hnn ⟨gC,o⟩;dsimp only at gC o
    have hml2 : mv.length=n:=by rw [gC,List.length_map,List.length_take]; omega
    have Pd : H.get Cv=some (st X):=o.get (Cv,st X) (by simp);refine tt ?_;apply bk <;> intro h4
    ·have DC:=A7 h4
     have w4:=ws n;refine tt ?_
     have hb : W.getD n default∈W:=AE.mpr ⟨n,DC,rfl⟩
     have FY:=si.arr hb
     have HJ:=c.st a GZ (W.getD n default) (by simp only [AJ]; rw [hW]; exact hb);simp only [AJ] at HJ;rw [hU] at HJ
     have EI:=B3 HJ
     have B4:=h.is.1.Ld (a:=(a : Int)) GZ.2;simp only [AJ] at B4;refine ⟨DC, ?_⟩;refine Al Pd (by simp [st]) (tt ?_);refine ⟨⟨IL.1,by omega⟩, ?_⟩;rw [hU];refine ⟨_,(CL B f.shape a (W.getD n default) ⟨by omega,by rw [h.is.1.cl]; exact GZ.2⟩ ⟨FY.1.1,by rw [AJ]; omega⟩).run,tt ?_⟩;refine ⟨_,(P4 B U _).run,tt ?_⟩;try simp only [AJ] at EI
     refine ⟨⟨EI.1,by omega⟩, ?_⟩;refine Ac (f:=iI) (ix T (indexOf U (ix (ix f.shape.comp a) (W.getD n default)))) o (by simp only [AJ]) rfl (by simp only [AK]; omega) fun rT H o=>?_;refine tw w4 ?_;exact A5 (_,_) (by omega) ⟨by rw [BH W DC,List.map_append,gC]; rfl,o⟩ rfl
    ·have DC:=A9 h4
     obtain rfl : n=W.length:=by omega
     rw [List.take_length] at gC
     have l8 : mv=Bd f.shape V a T:=by
      rw [gC,Bd];simp only [AJ];rw [hW,hU]
     refine tt ?_;refine Ak o rfl fun H o=>?_
     have Pd : H.get Cv=some (st X):=o.get (Cv,st X) (by simp);refine tt ?_;refine Al Pd (by simp [st]) (tt ?_);refine ⟨⟨Cu.1,by omega⟩,_,(Rg B [mv] (by simp [Du]; omega)).run, ?_⟩;rw [hF1];simp only [kC];refine tt ?_;refine ⟨JQ _ _ _, ?_⟩
     have aU:=vT T hTm;rw [← l8] at aU;rw [SJ hnd1 Pm aU];simp only [Option.getD_some];refine ⟨⟨rfl,fun c hc=>by cases List.mem_singleton.mp hc; rfl⟩, ?_⟩;refine Ac (f:=iI) (indexOf F1 mv) o rfl rfl (by simp only [AK]; omega) fun BW H o=>?_;refine tw w3 ?_;exact A5 (_,_) (by omega) ⟨by rw [BH F0 BB,List.map_append,hT,B4,l8]; rfl,o⟩ rfl
   ·have BB:=A9 h3
    obtain rfl : i=F0.length:=by omega
    rw [List.take_length,← Li] at B4;refine tt ?_;refine Ak o rfl fun H o=>tt ?_
    have hX : Cb iL H0 H [(Cv,st X)] X ((List.range a).map (Gn f V)):=Cb.mk o hq;clear o;refine Al hX.obj (by simp [st]) (tt ?_);refine hX.app row rfl (by simp only [List.length_map,List.length_range,AK]; omega) fun Aw H o=>tt ?_;refine sw o.swap fun H o=>?_
    have e7 : (List.range a).map (Gn f V)++[row]=(List.range (a+1)).map (Gn f V):=by rw [List.range_succ,List.map_append,B4]; rfl
    have hX : Cb iL H0 H [(Cv,st (.buf Aw ((List.range a).map (Gn f V)++[row]).length))] (.buf Aw ((List.range a).map (Gn f V)++[row]).length) ((List.range a).map (Gn f V)++[row]):=.inr ⟨Aw,rfl,o.swap⟩
    generalize (AV.buf Aw ((List.range a).map (Gn f V)++[row]).length)=X7 at hX;rw [e7] at hX;refine tw w2 ?_;exact A5 X7 (by omega) hX rfl
  ·have Ah:=A9 h2
   obtain rfl : a=f.shape.AH.length:=by omega
   refine tt ?_;refine Ef 7 hX rfl fun H o=>?_;have o:=s1 o;refine CX 7 o rfl fun H o=>AX ?_;refine tt ?_;exact A6 rfl o.sub
end Go.Proofs.Shf
namespace Go.Shf
open Go.AW
noncomputable def Dl (f : SF) (V : List (List Int)) (x : Nat) : List Int:=((List.range (ix f.A4 x).toNat).map Int.ofNat).map fun e=>indexOf (Au f V x) (Bl f (V.getD x default) e)
noncomputable def BR (f : SF) (V : List (List Int)) : List (List Int):=(List.range f.A4.length).map (Dl f V)
end Go.Shf
namespace Go.Proofs.Shf
open Go.AW Go.Proofs Go.Shf
theorem XT (B : Nat) (f : SF) (h : f.Shape) (hc : f.DE) (V : List (List Int)) (c : BT f.shape V) (Bf : Bh f V) : PB B 180 [Eu f V] (BD (BR f V)):=by
 refine ⟨fun H0=>bm.go fun Gc=>?_⟩
 have hm:=h.is.1.m
 have Fh:=h.is.1.o
 have Hg:=h.is.1.He
 have G7:=h.sl
 have Pz:=h.al
 have Wz:=c.len;refine tt ?_;refine Ae iL (.nil _) fun Ch H o=>tt ?_
 refine AD [0,15,16] (G:=Nat) (fun k g=>[(3,some (.buf g k)),(17,some (.int .i64 (k : Int)))])
  (fun k g H=>AB H0 H [(g,.cells 1 (((List.range k).map (Dl f V)).map iL) 0)]) f.A4.length Ch o rfl ?_
 clear o
 rintro k Ch H hk o
 replace o : AB H0 H [(Ch,.cells 1 (((List.range k).map (Dl f V)).map iL) 0)]:=o;refine tt ?_;apply bk <;> intro h1
 ·have AU:=A7 h1
  have w:=ws k
  have EZ:=c.sv k (by omega)
  have sE:=EZ.len
  have CW:=h.Dk (y:=(k : Int)) (by omega)
  have Zm : ix f.A4 k=f.A4.getD k default:=by simp only [AJ]
  have aN : (B9 f V).getD k default=Au f V k:=by rw [B9,AS _ _ (by omega)]
  have sK : (Au f V k).length≤16:=Bf k (by omega)
  have Qb : (B9 f V).length=V.length:=by simp [B9]
  refine tt ?_;refine ⟨AU, ?_⟩;refine Ae iI o fun F8 H o=>tt ?_;rw [Zm] at CW
  refine AD [0,3,4,15,16,17,23] (G:=Nat × List Int) (fun e g=>[(6,some (.buf g.1 g.2.length)),(24,some (.int .i64 (e : Int)))])
   (fun e g H=>g.2=((List.range e).map Int.ofNat).map (fun e=>indexOf (Au f V k) (Bl f (V.getD k default) e))∧AB H0 H [(g.1,.cells 1 (g.2.map iI) 0),(Ch,.cells 1 (((List.range k).map (Dl f V)).map iL) 0)]) (f.A4.getD k default).toNat (F8,[]) ⟨rfl,o⟩ rfl ?_
  clear o
  rintro e ⟨F8,row⟩ H he ⟨B4,o⟩;dsimp only at B4 o
  have Lu : row.length=e:=by rw [B4]; simp
  refine tt ?_;apply bk <;> intro h2
  ·have Ah:=A7 h2
   have w2:=ws e
   have jC : (0 : Int)≤(e : Int)∧(e : Int)<ix f.A4 (k : Int):=by rw [Zm]; omega
   have Gj:=JB h hc EZ jC
   have CH : Bl f (V.getD k default) e∈Au f V k:=((Ba h EZ).mem _).mpr Gj
   have HK : (Au f V k).Nodup:=(Ba h EZ).nodup
   have Pm : ∀ t,t∈Au f V k→∀ y,y∈t→0≤y∧y<255:=fun t ht y hy=>by
    have N6:=((Ba h EZ).mem t).mp ht
    obtain ⟨j,hj,rfl⟩:=AE.mp hy
    have aO : j<(V.getD k default).length:=by rw [← N6.len]; exact hj
    have h1:=N6.Nb j aO
    have h2:=(D0 h EZ (i:=j) aO);rw [h2.1] at h2;omega
   have YX : (Bl f (V.getD k default) e).length=(V.getD k default).length:=by simp [Bl]
   refine tt ?_;refine ⟨by omega,by omega,_,(Jy B f (V.getD k default) e (fun a ha=>?_) (by omega) (fun a ha=>?_)).run,⟨rfl,fun c hc=>by cases List.mem_singleton.mp hc; rfl⟩, ?_⟩
   ·have:=EZ.arr ha; omega
   ·have hv:=EZ.arr ha
    have h1:=h.DN hv.1.2;rw [hv.2,Zm] at h1;omega
   refine ⟨_,(Rg B [Bl f (V.getD k default) e] (by simp only [Du,List.flatMap_cons,List.flatMap_nil,List.append_nil,List.length_append,List.length_map,List.length_cons,List.length_nil]; omega)).run, ?_⟩;rw [aN];simp only [kC];refine tt ?_;refine ⟨JQ _ _ _, ?_⟩;rw [SJ HK Pm CH];simp only [Option.getD_some];refine ⟨⟨rfl,fun c hc=>by cases List.mem_singleton.mp hc; rfl⟩, ?_⟩;refine Ac (f:=iI) (indexOf (Au f V k) (Bl f (V.getD k default) e)) o rfl rfl (by simp only [AK]; omega) fun HC H o=>?_
   have e8 : row++[indexOf (Au f V k) (Bl f (V.getD k default) e)]=((List.range (e+1)).map Int.ofNat).map (fun e=>indexOf (Au f V k) (Bl f (V.getD k default) e)):=by
    rw [B4,List.range_succ]; simp
   refine tw w2 ?_;exact A5 (_,_) (by omega) ⟨e8,o⟩ rfl
  ·have Ah:=A9 h2
   have jC : e=(f.A4.getD k default).toNat:=by omega
   have Dr : row=Dl f V k:=by rw [B4,jC,Dl,AJ]
   refine tt ?_;refine Ak o rfl fun H o=>tt ?_;refine Ac (f:=iL) row o rfl (by simp) (by simp only [List.length_map,List.length_range,AK]; omega) fun HC H o=>?_
   have e7 : (List.range k).map (Dl f V)++[row]=(List.range (k+1)).map (Dl f V):=by rw [List.range_succ,List.map_append,Dr]; rfl
   rw [e7] at o ⊢;refine tw w ?_;exact A5 HC (by omega) o (by simp)
 ·have AU:=A9 h1
  obtain rfl : k=f.A4.length:=by omega
  refine tt ?_;refine Ak o (by simp) fun H o=>tt ?_;exact A6 rfl o.sub
end Go.Proofs.Shf
namespace Go.Shf
open Go.AW
@[go_sem] def Dw (c : B0) (S : List (List (List Int))) (sz : AV) (pl : AV) : List AV:=[iI c.AR,iL c.AH,iL c.to,iL c.Aw,BD c.comp,sz,pl,Gi S]
def NJ.mark (v : NJ) (x : Int) (s : List Int) : Bool:=(ix v.marks x).getD (indexOf (ix v.BM x) s).toNat default
end Go.Shf
namespace Go.Proofs.Shf
open Go.AW Go.Proofs Go.Shf
theorem MJ (B : Nat) (c : B0) (S : List (List (List Int))) (sz pl : AV) (x : Int) (hx : 0≤x∧x.toNat<S.length) (s : List Int) : PB B 312 [.ptr (Dw c S sz pl),.int .i64 x,iL s] (.int .i64 (indexOf (ix S x) s)):=by
 refine ⟨fun H0=>xy.go fun Gc=>tt ?_⟩;refine ⟨hx, ?_⟩;refine (Kz B (ix S x) 326 [.ptr [iL s]] (fun t=>dec (s=t)) fun t _=>(eY B s t).run).go fun _=>?_;rw [LC];refine tt ?_;exact A6 rfl (.refl _)
theorem pP (B : Nat) (v : NJ) (cnt : AV) (x : Int) (s : List Int) (hx : 0≤x∧x.toNat<v.BM.length) (hm : x.toNat<v.marks.length) (hs : s∈ix v.BM x) (hl : (ix v.marks x).length=(ix v.BM x).length) :
  PB B 338 [.ptr (v.cells cnt),.int .i64 x,iL s] (.bool (v.mark x s)):=by
 refine ⟨fun H0=>c338.go fun Gc=>?_⟩
 have EI:=B3 hs;refine tt ?_;refine ⟨⟨hx.1,hm⟩, ?_⟩;refine ⟨_,(MJ B v.shape v.BM (iL v.A4) (BD v.nQ) x hx s).run,tt ?_⟩;exact ⟨⟨EI.1,by omega⟩,A6 rfl (.refl _)⟩
def U9 (v : NJ) (s t : List Int) : Prop:=∀ a,a∈t→v.mark (ix v.shape.to a) (DR v.shape a s)=true
theorem Vm (B : Nat) (v : NJ) (hc : v.shape.Is) (cnt : AV) (s t : List Int) (x : Int) (hs : v.shape.Ax x s) (ht : ∀ a,a∈t→0≤a∧a.toNat<v.shape.AH.length∧ix v.shape.AH a=x) (Gd : (v.BM.length : Int)=v.shape.AR) (Dz : v.marks.length=v.BM.length)
  (Aj : ∀ y : Int,0≤y∧y<v.shape.AR→(ix v.marks y).length=(ix v.BM y).length∧∀ s,v.shape.Ax y s→s∈ix v.BM y) (htn : t.length≤1000000) :
  PB B 329 [.ptr (v.cells cnt),iL s,iL t] (.bool (dec (U9 v s t))):=by
 refine ⟨fun H0=>vr.go fun Gc=>tt ?_⟩
 refine AD [0,1,9,10] (G:=Unit) (fun k _=>[(11,some (.int .i64 (k : Int)))])
  (fun k _ H=>H=H0∧∀ i,i<k→v.mark (ix v.shape.to (t.getD i default)) (DR v.shape (t.getD i default) s)=true) t.length () ⟨rfl,by simp⟩ rfl ?_
 rintro k _ H hk ⟨rfl,ki⟩;refine tt ?_;apply bk <;> intro h1
 ·have AU:=A7 h1
  have w:=ws k
  have ha:=ht _ (AE.mpr ⟨k,AU,rfl⟩)
  have Cu:=hc.1.C7 ha.2.1
  have Hg:=hc.1.He;refine tt ?_;refine ⟨AU,⟨ha.1,by omega⟩, ?_⟩
  generalize Ew : t.getD k default=a at *;refine ⟨_,(Y7 B v.shape hc.1 a ⟨ha.1,ha.2.1⟩ s).run, ?_⟩
  have hp:=Aj _ Cu;refine ⟨_,(pP B v cnt (ix v.shape.to a) (DR v.shape a s) ⟨Cu.1,by omega⟩ (by omega) (hp.2 _ ?_) hp.1).run, ?_⟩
  ·exact EU hc ⟨ha.1,ha.2.1⟩ (by rw [ha.2.2]; exact hs)
  cases KF : v.mark (ix v.shape.to a) (DR v.shape a s) with
  | true =>
   refine tw w ?_;exact A5 () AU ⟨rfl,AG ki (by rw [Ew]; exact KF)⟩ rfl
  | false =>
   refine tt ?_;refine A6 ?_ (.refl _);rw [Ab]
   intro e
   have:=e a (by rw [← Ew]; exact AE.mpr ⟨k,AU,rfl⟩);rw [KF] at this; cases this
 ·have AU:=A9 h1;refine tt ?_;refine A6 ?_ (.refl _);rw [Ay]
  intro a ha
  obtain ⟨i,hi,rfl⟩:=AE.mp ha;exact ki i (by omega)
theorem OS (B : Nat) (f : SF) (h : f.Shape) (V : List (List Int)) (c : BT f.shape V) : PB B 103 [.agg f.cells,BD V,.agg (CM f V)] (BD (BR f V)):=by
 refine ⟨fun H0=>xL.go fun Gc=>?_⟩
 have hm:=h.is.1.m
 have Fh:=h.is.1.o
 have Hg:=h.is.1.He
 have G7:=h.sl
 have Pz:=h.al
 have Wz:=c.len;refine tt ?_;refine Ae iL (.nil _) fun Cv H o=>tt ?_
 refine AD [1,3,5] (G:=Nat) (fun k g=>[(7,some (.buf g k)),(8,some (.int .i64 (k : Int)))])
  (fun k g H=>AB H0 H [(g,.cells 1 (((List.range k).map (Dl f V)).map iL) 0)]) f.A4.length Cv o rfl ?_
 clear o
 rintro k Cv H hk o
 replace o : AB H0 H [(Cv,.cells 1 (((List.range k).map (Dl f V)).map iL) 0)]:=o;refine tt ?_;apply bk <;> intro h1
 ·have AU:=A7 h1
  have w:=ws k
  have EZ:=c.sv k (by omega)
  have sE:=EZ.len
  have CW:=h.Dk (y:=(k : Int)) (by omega)
  have Zm : ix f.A4 k=f.A4.getD k default:=by simp only [AJ]
  have aN : (B9 f V).getD k default=Au f V k:=by rw [B9,AS _ _ (by omega)]
  have Qb : (B9 f V).length=V.length:=by simp [B9]
  refine tt ?_;refine Ae iI o fun HC H o=>tt ?_;rw [Zm] at CW
  refine AD [1,3,5,7,8] (G:=Nat × List Int) (fun e g=>[(9,some (.buf g.1 g.2.length)),(10,some (.int .i64 (e : Int)))])
   (fun e g H=>g.2=((List.range e).map Int.ofNat).map (fun e=>indexOf (Au f V k) (Bl f (V.getD k default) e))∧AB H0 H [(g.1,.cells 1 (g.2.map iI) 0),(Cv,.cells 1 (((List.range k).map (Dl f V)).map iL) 0)]) (f.A4.getD k default).toNat (HC,[]) ⟨rfl,o⟩ rfl ?_
  clear o
  rintro e ⟨HC,row⟩ H he ⟨B4,o⟩;dsimp only at B4 o
  have Lu : row.length=e:=by rw [B4]; simp
  refine tt ?_;refine ⟨by omega, ?_⟩;apply bk <;> intro h2
  ·have Ah:=A7 h2
   have w2:=ws e;refine tt ?_;refine ⟨by omega,by omega,_,(SP B f (V.getD k default) e (fun a ha=>?_) (by omega) (fun a ha=>?_)).run, ?_⟩
   ·have:=EZ.arr ha; omega
   ·have hv:=EZ.arr ha
    have h1:=h.DN hv.1.2;rw [hv.2,Zm] at h1;omega
   rw [aN];refine ⟨_,(Hm B (Au f V k) (Bl f (V.getD k default) e)).run,tt ?_⟩;refine Ac (f:=iI) (indexOf (Au f V k) (Bl f (V.getD k default) e)) o rfl rfl (by simp only [AK]; omega) fun HC H o=>?_
   have e8 : row++[indexOf (Au f V k) (Bl f (V.getD k default) e)]=((List.range (e+1)).map Int.ofNat).map (fun e=>indexOf (Au f V k) (Bl f (V.getD k default) e)):=by
    rw [B4,List.range_succ]; simp
   refine tw w2 ?_;exact A5 (_,_) (by omega) ⟨e8,o⟩ rfl
  ·have Ah:=A9 h2
   have jC : e=(f.A4.getD k default).toNat:=by omega
   have Dr : row=Dl f V k:=by rw [B4,jC,Dl,AJ]
   refine tt ?_;refine Ak o rfl fun H o=>tt ?_;refine Ac (f:=iL) row o rfl (by simp) (by simp only [List.length_map,List.length_range,AK]; omega) fun HC H o=>?_
   have e7 : (List.range k).map (Dl f V)++[row]=(List.range (k+1)).map (Dl f V):=by rw [List.range_succ,List.map_append,Dr]; rfl
   rw [e7] at o ⊢;refine tw w ?_;exact A5 HC (by omega) o (by simp)
 ·have AU:=A9 h1
  obtain rfl : k=f.A4.length:=by omega
  refine tt ?_;refine Ak o (by simp) fun H o=>tt ?_;exact A6 rfl o.sub
theorem Jj {j : Df} {f : SF} (h : codeF j f=0) : j.Form∧f.Is∧DF j=0∧j.shape=f.shape:=by
 unfold codeF at h
 by_cases h1 : j.Form∧f.Is
 ·rw [if_neg (fun e=>e h1)] at h
  by_cases h2 : DF j=0∧¬ j.shape=f.shape
  ·rw [if_pos h2] at h; cases h
  ·rw [if_neg h2] at h;exact ⟨h1.1,h1.2,h,Classical.byContradiction fun e=>h2 ⟨h,e⟩⟩
 ·rw [if_pos h1] at h; cases h
def CT (L : List (List (List Int))) : List Int:=L.map fun l=>(l.length : Int)
open Classical in
noncomputable def UB (c : B0) : AV:=if Be c then .ptr (Dw c (AM c) (iL (CT (AM c))) (BD (BC c (AM c)))) else .Gk
def Tj (B : Nat) (c : B0) : Prop:=∀ x : Nat,x<c.AR.toNat→∃ l,PB B 334 [.ptr c.cells,.int .i64 x] (.CK [BD l,.bool (dec (OW c x))])∧(OW c x→l=Gg c x∧l.length≤16)
theorem QJ (B : Nat) (c : B0) (hc : c.Is) (EZ : Tj B c) : PB B 323 [.ptr c.cells] (.CK [UB c,.bool (dec (Be c))]):=by
 refine ⟨fun H0=>xB.go fun Gc=>?_⟩
 have hm:=hc.1.m
 have Fh:=hc.1.o
 have Hg:=hc.1.He;refine tt ?_;refine (KN B c).go fun _=>tt ?_
 let st : AV→AV→AV→AF:=fun x5 x6 x7=>.cells 8 [iI c.AR,iL c.AH,iL c.to,iL c.Aw,BD c.comp,x5,x6,x7] 0
 refine nb (.nil _) fun BN H o=>tt ?_
 refine AD [0,4] (G:=(AV × AV) × List (Nat × AF)) (fun k g=>[(5,some (.int .i64 (k : Int)))])
  (fun k g H=>Cb BD H0 H ((BN,st g.1.1 .A1 g.1.2)::(g.2++[])) g.1.2 ((List.range k).map fun x : Nat=>Gg c (x : Int))∧Q6 iI g.2 g.1.1 (CT ((List.range k).map fun x : Nat=>Gg c (x : Int)))∧∀ x : Nat,x<k→OW c x)
  c.AR.toNat ((.A1,.A1),[]) ⟨.inl ⟨rfl,rfl,o⟩,.inl ⟨rfl,rfl,rfl⟩,by simp⟩ rfl ?_
 clear o
 rintro k ⟨⟨X5,X7⟩,p5⟩ H hk ⟨hX,h5,Aj⟩;dsimp only at hX h5;refine tt ?_;apply bk <;> intro h1
 ·have AU:=A7 h1
  have w:=ws k
  obtain ⟨l,hl,Ia⟩:=EZ k (by omega);refine tt ?_;refine hl.go fun _=>tt ?_
  by_cases nW : OW c k
  ·rw [Ay nW]
   obtain ⟨rfl,hl16⟩:=Ia nW;refine tt ?_
   obtain ⟨Lk,jz⟩ : ∃ Lk,Lk=(List.range (k+1)).map fun x : Nat=>Gg c (x : Int):=⟨_,rfl⟩
   have e7 : ((List.range k).map fun x : Nat=>Gg c (x : Int))++[Gg c k]=Lk:=by rw [jz,List.range_succ,List.map_append]; rfl
   have e5 : CT ((List.range k).map fun x : Nat=>Gg c (x : Int))++[((Gg c k).length : Int)]=CT Lk:=by
    rw [← e7,CT,CT,List.map_append]; rfl
   have l9 : Lk.length=k+1:=by rw [jz]; simp
   have QW : (CT Lk).length=k+1:=by rw [CT,List.length_map,l9]
   refine tt ?_;refine Al hX.obj (by simp [st]) (tt ?_);refine hX.app (Gg c k) rfl (by simp only [List.length_map,List.length_range,AK]; omega) fun Aw H o=>?_;rw [e7] at o ⊢;refine tt ?_;refine sw o.swap fun H o=>?_
   have hX : Cb BD H0 H ((BN,st X5 .A1 (.buf Aw Lk.length))::(p5++[])) (.buf Aw Lk.length) Lk:=.inr ⟨Aw,rfl,o.swap⟩
   generalize (AV.buf Aw Lk.length)=X7 at hX;clear o
   obtain ⟨p7,h7,hX⟩:=hX.focus h5;rw [List.nil_append] at hX;refine tt ?_;refine Al hX.obj (by simp [st]) (tt ?_);refine hX.app ((Gg c k).length : Int) rfl (by simp only [CT,List.length_map,List.length_range,AK]; omega) fun Aw H o=>?_;rw [e5] at o ⊢;refine tt ?_;refine sw o.swap fun H o=>?_
   have hX : Cb iI H0 H ((BN,st (.buf Aw (CT Lk).length) .A1 X7)::p7) (.buf Aw (CT Lk).length) (CT Lk):=.inr ⟨Aw,rfl,o.swap⟩
   generalize (AV.buf Aw (CT Lk).length)=X5 at hX;clear o;rw [← List.append_nil p7] at hX
   obtain ⟨p5,h5,hX⟩:=hX.focus h7;rw [jz] at hX h5;rw [List.nil_append,← List.append_nil p5] at hX;refine tw w ?_;refine A5 ((X5,X7),p5) (by omega) ⟨hX,h5,fun x hx=>?_⟩ rfl
   by_cases e : x=k
   ·subst e; exact nW
   ·exact Aj x (by omega)
  ·rw [Ab nW];refine tt ?_
   have Ev : ¬ Be c:=fun e=>nW (e k (by omega))
   have Cq : H0.sub H:=by obtain ⟨_,oo,_⟩:=hX.split; exact oo.sub
   refine A6 ?_ Cq;rw [UB,if_neg Ev,Ab Ev]
 ·have AU:=A9 h1;refine tt ?_
  have rB : k=c.AR.toNat:=by omega
  have Bf : Be c:=fun x hx=>Aj x (by omega);rw [UB,if_pos Bf,Ay Bf]
  have jz : ((List.range k).map fun x : Nat=>Gg c (x : Int))=AM c:=by rw [rB]; rfl
  have tab:=HT hc Bf;rw [jz] at hX h5
  generalize hL : AM c=L at *;refine Ef 7 hX rfl fun H o=>?_;clear hX;have o:=s1 o
  have hX:=Cb.mk (o.perm List.perm_middle.symm) h5;clear o;refine Ef 5 hX rfl fun H o=>AX ?_;clear hX;have o:=s1 o
  generalize HJ : st=st2;clear Aj h5 HJ st2 st
  let st : AV→AF:=fun x6=>.cells 8 [iI c.AR,iL c.AH,iL c.to,iL c.Aw,BD c.comp,iL (CT L),x6,Gi L] 0
  have l9:=tab.len;refine tt ?_
  refine AD [0,4,60] (G:=AV) (fun a g=>[(61,some (.int .i64 (a : Int)))])
   (fun a X H=>Cb iL H0 H [(BN,st X)] X ((List.range a).map (KZ c L))) c.AH.length .A1 (.inl ⟨rfl,rfl,o⟩) rfl ?_
  clear o
  rintro a X H ha hX
  replace hX : Cb iL H0 H [(BN,st X)] X ((List.range a).map (KZ c L)):=hX;refine tt ?_;apply bk <;> intro h2
  ·have Ah:=A7 h2
   have w2:=ws a
   have GZ : 0≤(a : Int)∧(a : Int).toNat<c.AH.length:=⟨by omega,by simpa using Ah⟩
   have IL:=hc.1.Cl GZ.2
   have Cu:=hc.1.C7 GZ.2;simp only [AJ] at IL Cu
   obtain ⟨q,o,hq⟩:=hX.split;clear hX;refine tt ?_;refine Ae iI o fun BW H o=>?_
   have jB : H.get BN=some (st X):=o.get (BN,st X) (by simp);refine tt ?_;refine Al jB (by simp [st]) (tt ?_);refine ⟨Ah,⟨IL.1,by omega⟩, ?_⟩
   have ft : ix L (c.AH.getD a default)=L.getD (c.AH.getD a default).toNat default:=rfl
   have nW:=tab.YH (c.AH.getD a default).toNat (by omega)
   have B4 : KZ c L a=(L.getD (c.AH.getD a default).toNat default).map fun s=>indexOf (ix L (c.to.getD a default)) (DR c a s):=rfl;rw [ft]
   generalize hF : L.getD (c.AH.getD a default).toNat default=F at *
   refine AD [0,4,8,60,61,77,78] (G:=Nat × List Int) (fun i g=>[(9,some (.buf g.1 g.2.length)),(79,some (.int .i64 (i : Int)))])
    (fun i g H=>g.2=(F.take i).map (fun s=>indexOf (ix L (c.to.getD a default)) (DR c a s))∧AB H0 H ((g.1,.cells 1 (g.2.map iI) 0)::(q++[(BN,st X)]))) F.length (BW,[]) ⟨by simp,o⟩ rfl ?_
   clear o jB
   rintro i ⟨BW,row⟩ H hi ⟨hr,o⟩;dsimp only at hr o
   have Lu : row.length=i:=by rw [hr,List.length_map,List.length_take]; omega
   have jB : H.get BN=some (st X):=o.get (BN,st X) (by simp);refine tt ?_;apply bk <;> intro h3
   ·have BB:=A7 h3
    have w3:=ws i;refine tt ?_;refine ⟨BB,by omega,_,(Y7 B c hc.1 a GZ (F.getD i default)).run,tt ?_⟩;refine BG.GR (es:=[.ptr (Dw c L (iL (CT L)) X),.int .i64 (c.to.getD a default),iL (DR c a (F.getD i default))]) (.int _ _) rfl (fun j hj=>?_) (MJ B c L (iL (CT L)) X (c.to.getD a default) ⟨Cu.1,by omega⟩ _).run ?_
    ·obtain rfl | rfl | rfl : j=0∨j=1∨j=2:=by simp only [List.length_cons,List.length_nil] at hj; omega
     ·exact (Tr.ref BN 8 0 _ _ jB rfl fun i _=>.val _).arg
     ·exact DT _
     ·exact DT _
    refine tt ?_;refine Ac (f:=iI) (indexOf (ix L (c.to.getD a default)) (DR c a (F.getD i default))) o rfl rfl (by simp only [AK]; omega) fun BW H o=>?_;refine tw w3 ?_;exact A5 (_,_) (by omega) ⟨by rw [BH F BB,List.map_append,hr]; rfl,o⟩ rfl
   ·have BB:=A9 h3
    obtain rfl : i=F.length:=by omega
    rw [List.take_length,← B4] at hr;refine tt ?_;refine Ak o rfl fun H o=>tt ?_
    have hX : Cb iL H0 H [(BN,st X)] X ((List.range a).map (KZ c L)):=Cb.mk o hq;clear o;refine Al hX.obj (by simp [st]) (tt ?_);refine hX.app row rfl (by simp only [List.length_map,List.length_range,AK]; omega) fun Aw H o=>tt ?_;refine sw o.swap fun H o=>?_
    have e7 : (List.range a).map (KZ c L)++[row]=(List.range (a+1)).map (KZ c L):=by rw [List.range_succ,List.map_append,hr]; rfl
    have hX : Cb iL H0 H [(BN,st (.buf Aw ((List.range a).map (KZ c L)++[row]).length))] (.buf Aw ((List.range a).map (KZ c L)++[row]).length) ((List.range a).map (KZ c L)++[row]):=.inr ⟨Aw,rfl,o.swap⟩
    generalize (AV.buf Aw ((List.range a).map (KZ c L)++[row]).length)=X7 at hX;rw [e7] at hX;refine tw w2 ?_;exact A5 X7 (by omega) hX rfl
  ·have Ah:=A9 h2
   obtain rfl : a=c.AH.length:=by omega
   refine tt ?_;refine Ef 6 hX rfl fun H o=>?_;have o:=s1 o;refine CX 4 o rfl fun H o=>AX ?_;refine tt ?_;exact A6 rfl o.sub
end Go.Proofs.Shf
