/- Contracts, part 3. -/
import Derived.Test.YthflgdphhajkbaaGreatT2
set_option linter.unusedVariables false
set_option linter.unusedSimpArgs false
set_option linter.unusedSectionVars false
open Nat (reduceEqDiff reduceAdd reduceMul reduceLeDiff reduceLT)
namespace Go.Proofs.Shf
open Go.AW Go.Proofs Go.Shf
@[go_sem] noncomputable def Cx (f : SF) (V : List (List Int)) : List AV:=[iI f.shape.AO,iL f.shape.AJ,iL f.shape.to,iL f.shape.Av,BA f.shape.comp,iL (BM f V),BA (BZ f V),Ft (BN f V)]
open Classical in
noncomputable def Jv (f : SF) (V : List (List Int)) : List AV:=if Bu f V then Cx f V else MN
theorem Xw {f : SF} {V : List (List Int)} (h : Bu f V) : Jv f V=Cx f V:=by rw [Jv,if_pos h]
theorem YN {f : SF} {V : List (List Int)} (h : ¬ Bu f V) : Jv f V=MN:=by rw [Jv,if_neg h]
abbrev pn : List AV:=[.int .i64 0,.A1,.A1,.A1,.A1,.A1,.A1,.A1]
theorem P4 (B : Nat) (f : SF) (h : f.Shape) (V : List (List Int)) (v : Ba f.shape V) : PB B 191 [.agg f.cells,BA V] (.CG [.agg (Jv f V),.bool (dec (Bu f V))]):=by
 refine ⟨fun H0=>dw.go fun _=>?_⟩
 have hm:=h.is.1.m
 have F3:=h.is.1.o
 have IQ:=h.is.1.HN
 have VZ:=v.len;refine tt ?_;refine nb (.nil _) fun BJ H o=>tt ?_;refine nb o fun F4 H o=>tt ?_;refine sw o fun H o=>tt ?_;refine Ac o (by simp) (tt ?_);refine (EX B f.shape).go fun _=>tt ?_;refine Ae o fun DM H o=>tt ?_;refine Ae o fun iC H o=>tt ?_;refine nb o fun Cq H o=>tt ?_;refine sw o fun H o=>?_
 replace o:=AA.push [_] (AA.pull [_,_] o);simp only [List.cons_append,List.nil_append] at o;refine tt ?_
 have ho6 : True:=trivial
 let base : List (Nat × AF):=[(F4,.cells 5 [iI f.shape.AO,iL f.shape.AJ,iL f.shape.to,iL f.shape.Av,BA f.shape.comp] 0),(BJ,.cells 8 pn 0)]
 let st : AV→AV→AV→Nat × AF:=fun a b c=>(Cq,.cells 8 [iI f.shape.AO,iL f.shape.AJ,iL f.shape.to,iL f.shape.Av,BA f.shape.comp,a,b,c] 0)
 refine AD [1,2,4,6,7] (G:=AV × Nat × List Int) (fun k _=>[(8,some (.int .i64 (k : Int)))])
  (fun k g H=>(g.2.2=(List.range k).map (DH f V)∧∀ x,x<k→(B2 f V x).length≤16)∧CZ BA H0 H (st (.buf g.2.1 k) (.buf iC 0) g.1::(g.2.1,.cells 1 (g.2.2.map iI) 0)::(iC,.cells 1 [] 0)::base) g.1 ((List.range k).map (B2 f V))) V.length (.A1,DM,[])
  ⟨⟨rfl,by simp⟩,.inl ⟨rfl,rfl,o⟩⟩ rfl ?_
 rintro k ⟨X,DM,sz⟩ H hk ⟨⟨CU,Ak⟩,hX⟩;dsimp only at CU hX
 have sY : sz.length=k:=by rw [CU]; simp
 refine tt ?_;apply bk <;> intro h1
 ·refine tt ?_
  have AR:=A7 h1
  have w1:=ws k;refine ⟨AR, ?_⟩;refine ⟨_,(JA B f k (V.getD k default) h (v.sv k AR) 17 (by omega) (by omega)).run, ?_⟩
  have Fc : C8 f (V.getD k default)=B2 f V k:=rfl;rw [Fc]
  generalize hF : B2 f V k=F at *
  have htl2 : (F.take 17).length=min 17 F.length:=List.length_take;refine tt ?_;apply bk <;> intro h2
  ·refine tt ?_
   have Ah:=A7 h2
   have ES : ¬ Bu f V:=fun h=>by have:=h k AR; rw [hF] at this; omega
   obtain ⟨q,o,hq⟩:=hX.split
   have jE : H.get BJ=some (.cells 8 pn 0):=o.get (BJ,.cells 8 pn 0) (by simp [base])
   have ku:=o.out (BJ,.cells 8 pn 0) (by simp [base]);rw [jE,Mk];refine ⟨⟨by omega,by simp,(by (try simp only [go_sem]); (try simp)),(by first | (simp only [go_sem]; done) | ((try simp only [go_sem]); simp [AV.one,EP]))⟩,tt ?_⟩;refine A6 ?_ (Go.AW.C7 o.sub ku);rw [YN ES,Aa ES]
   simp [uZ,wr,MN]
  ·have Ah:=A9 h2;refine tt ?_
   have hF17 : F.take 17=F:=List.take_of_length_le (by omega);rw [hF17];refine Af hX.obj (by simp) (tt ?_);refine hX.app (f:=BA) F rfl (by simp only [AL]; simp; omega) fun idF H o=>tt ?_;refine sw o.swap fun H o=>tt ?_;refine AK o (by simp) (tt ?_);refine Ad (f:=iI) (F.length : Int) (AA.pull [_,_] o) rfl sY.symm (by simp only [AL]; omega) fun DM H o=>tt ?_
   replace o:=AA.push [_,_] o;simp only [List.cons_append,List.nil_append] at o;refine sw o fun H o=>?_;refine tw w1 ?_
   have e1 : (List.range (k+1)).map (B2 f V)=(List.range k).map (B2 f V)++[F]:=by rw [Bb,hF]
   have e2 : (sz++[(F.length : Int)]).length=k+1:=by simp [sY]
   have o2:=o.swap;rw [e2] at o2;exact A5 (AV.buf idF ((List.range k).map (B2 f V)++[F]).length,DM,sz++[(F.length : Int)]) (by omega) ⟨⟨by rw [Bb,← CU,DH,hF],AG Ak (by rw [hF]; omega)⟩,.inr ⟨idF,by rw [e1],by rw [e1]; exact o2⟩⟩ rfl
 ·have AR:=A9 h1;refine tt ?_
  have Bc : Bu f V:=fun x hx=>Ak x (by omega)
  have Me : k=V.length:=by omega
  refine Ec 7 hX rfl fun H o=>AY ?_;have o:=s1 o;refine tt ?_;clear hX
  have IW : (List.range k).map (B2 f V)=BN f V:=by rw [Me]; rfl
  rw [IW] at o
  refine AD [1,4,6,7] (G:=Nat × List (List Int)) (fun a _=>[(10,some (.int .i64 (a : Int)))])
   (fun a g H=>g.2=(List.range a).map (Gw f V)∧AA H0 H (st (.buf DM k) (.buf g.1 a) (Ft (BN f V))::(DM,.cells 1 (sz.map iI) 0)::(g.1,.cells 1 (g.2.map iL) 0)::base)) f.shape.AJ.length (iC,[]) ⟨rfl,o⟩ rfl ?_
  rintro a ⟨iC,AU⟩ H ha ⟨Px,o⟩;dsimp only at Px o
  have sW : AU.length=a:=by rw [Px]; simp
  have wA : H.get F4=some (.cells 5 [iI f.shape.AO,iL f.shape.AJ,iL f.shape.to,iL f.shape.Av,BA f.shape.comp] 0):=o.get (F4,_) (by simp [base]);refine tt ?_;refine Af wA (by simp) (tt ?_);apply bk <;> intro h2
  ·have Ah:=A7 h2
   have w2:=ws a;refine tt ?_
   have Ge : 0≤(a : Int)∧(a : Int).toNat<f.shape.AJ.length:=⟨by omega,by simpa using Ah⟩
   have JP:=h.is.1.Cn Ge.2
   have DS:=h.is.1.Cb Ge.2;simp only [AH] at JP DS;refine Af wA (by simp) (tt ?_);refine ⟨Ah,Af wA (by simp) ?_⟩;refine tt ?_;refine ⟨by omega, ?_⟩;refine Ag iI o fun BQ H o=>tt ?_
   have jq : (BN f V).getD (f.shape.AJ.getD a default).toNat default=B2 f V (f.shape.AJ.getD a default).toNat:=by rw [BN,AX _ _ (by omega)]
   have hF1 : (BN f V).getD (f.shape.to.getD a default).toNat default=B2 f V (f.shape.to.getD a default).toNat:=by rw [BN,AX _ _ (by omega)]
   have jc : ix (BN f V) (f.shape.AJ.getD a default)=B2 f V (f.shape.AJ.getD a default).toNat:=jq
   have hF1' : ix (BN f V) (f.shape.to.getD a default)=B2 f V (f.shape.to.getD a default).toNat:=hF1
   have Fc : (BN f V).length=V.length:=by simp [BN]
   have hfs0 : (B2 f V (f.shape.AJ.getD a default).toNat).length≤16:=Bc _ (by omega)
   have KB:=v.AJ h.is Ge
   have CF:=v.to h.is Ge;simp only [AH] at KB CF
   have hl1:=CF.len
   let rest : List (Nat × AF):=st (.buf DM k) (.buf iC a) (Ft (BN f V))::(DM,.cells 1 (sz.map iI) 0)::(iC,.cells 1 (AU.map iL) 0)::base
   refine AD [1,4,6,7,10,11,12] (G:=Nat × List Int) (fun i g=>[(13,some (.buf g.1 g.2.length)),(14,some (.int .i64 (i : Int)))])
    (fun i g H=>g.2=((B2 f V (f.shape.AJ.getD a default).toNat).take i).map (fun t=>indexOf (B2 f V (f.shape.to.getD a default).toNat) (Bz f.shape V a t))∧AA H0 H ((g.1,.cells 1 (g.2.map iI) 0)::rest)) (B2 f V (f.shape.AJ.getD a default).toNat).length (BQ,[]) ⟨by simp,o⟩ rfl ?_
   rintro i ⟨BQ,row⟩ H hi ⟨B3,o⟩;dsimp only at B3 o
   have Mc : row.length=i:=by rw [B3,List.length_map,List.length_take]; omega
   have Py : H.get Cq=some (.cells 8 [iI f.shape.AO,iL f.shape.AJ,iL f.shape.to,iL f.shape.Av,BA f.shape.comp,.buf DM k,.buf iC a,Ft (BN f V)] 0):=o.tl.h0
   have wA : H.get F4=some (.cells 5 [iI f.shape.AO,iL f.shape.AJ,iL f.shape.to,iL f.shape.Av,BA f.shape.comp] 0):=o.get (F4,_) (by simp [rest,base]);refine tt ?_;refine Af Py (by simp) (tt ?_);refine ⟨⟨JP.1,by omega⟩, ?_⟩;rw [jc];apply bk <;> intro h3
   ·have B8:=A7 h3
    have w3:=ws i;refine tt ?_;refine Ag iI o fun rV H o=>tt ?_
    generalize hT : (B2 f V (f.shape.AJ.getD a default).toNat).getD i default=T at *
    have hTf : Qc f (V.getD (f.shape.AJ.getD a default).toNat default) T:=by
     rw [← hT];exact ((C5 h KB).mem _).mp (AE.mpr ⟨i,B8,rfl⟩)
    have hVf : ix V (f.shape.AJ.getD a default)=V.getD (f.shape.AJ.getD a default).toNat default:=rfl
    have hVt : ix V (f.shape.to.getD a default)=V.getD (f.shape.to.getD a default).toNat default:=rfl
    generalize hW : ix V (f.shape.to.getD a default)=W at *
    generalize hU : ix V (f.shape.AJ.getD a default)=U at *
    refine AD [1,4,6,7,10,11,12,13,14] (G:=Nat × List Int) (fun q g=>[(15,some (.buf g.1 g.2.length)),(16,some (.int .i64 (q : Int)))])
     (fun q g H=>g.2=(W.take q).map (fun b=>ix T (indexOf U (ix (ix f.shape.comp a) b)))∧AA H0 H ((g.1,.cells 1 (g.2.map iI) 0)::(BQ,.cells 1 (row.map iI) 0)::rest)) W.length (rV,[]) ⟨by simp,o⟩ rfl ?_
    rintro q ⟨rV,mv⟩ H hq ⟨wD,o⟩;dsimp only at wD o
    have E6 : mv.length=q:=by rw [wD,List.length_map,List.length_take]; omega
    have Py : H.get Cq=some (.cells 8 [iI f.shape.AO,iL f.shape.AJ,iL f.shape.to,iL f.shape.Av,BA f.shape.comp,.buf DM k,.buf iC a,Ft (BN f V)] 0):=o.tl.tl.h0
    have wA : H.get F4=some (.cells 5 [iI f.shape.AO,iL f.shape.AJ,iL f.shape.to,iL f.shape.Av,BA f.shape.comp] 0):=o.get (F4,_) (by simp [rest,base]);refine tt ?_;rw [hW];refine ⟨⟨DS.1,by omega⟩, ?_⟩;apply bk <;> intro h4
    ·have Cr:=A7 h4
     have w4:=ws q;refine tt ?_
     have hb : W.getD q default∈W:=AE.mpr ⟨q,Cr,rfl⟩
     have vo : f.shape.Az (f.shape.to.getD a default) W:=CF
     have hUs : f.shape.Az (f.shape.AJ.getD a default) U:=KB
     have QC:=vo.arr hb
     have HM:=v.st a Ge (W.getD q default) (by simp only [AH]; rw [hW]; exact hb);simp only [AH] at HM;rw [hU] at HM
     have Eo:=BD HM
     have hTl : T.length=U.length:=by rw [hVf]; exact hTf.len
     have B3:=h.is.1.L8 (a:=(a : Int)) Ge.2;simp only [AH] at B3;refine Af Py (by simp) (tt ?_);refine ⟨⟨JP.1,by omega⟩, ?_⟩;rw [jc];refine ⟨B8,⟨JP.1,by omega⟩, ?_⟩;rw [hT,hU];refine Rl wA (by simp) ?_;refine tt ?_;refine ⟨⟨DS.1,by omega⟩, ?_⟩;rw [hW];refine ⟨Cr,_,(F9 B f.shape a (W.getD q default) ⟨by omega,by rw [h.is.1.cl]; exact Ge.2⟩ ⟨QC.1.1,by rw [AH]; omega⟩).run,tt ?_⟩;refine ⟨_,(FU ..).run,tt ?_⟩;refine ⟨⟨Eo.1,by omega⟩, ?_⟩;refine Ad (ix T (indexOf U (ix (ix f.shape.comp a) (W.getD q default)))) o (by simp only [AH]) rfl (by simp only [AL]; omega) fun rV H o=>?_;refine tw w4 ?_;exact A5 (_,_) (by omega) ⟨by rw [BW W _ Cr,wD]; simp only [AH],o⟩ rfl
    ·have Cr:=A9 h4;refine tt ?_;refine Al o rfl fun H o=>tt ?_
     have Py : H.get Cq=some (.cells 8 [iI f.shape.AO,iL f.shape.AJ,iL f.shape.to,iL f.shape.Av,BA f.shape.comp,.buf DM k,.buf iC a,Ft (BN f V)] 0):=o.tl.h0;refine Af Py (by simp) (tt ?_);refine ⟨⟨DS.1,by omega⟩, ?_⟩;rw [hF1'];refine (KY ..).go fun _=>tt ?_
     have mD : mv=Bz f.shape V a T:=by
      rw [wD,show q=W.length by omega,List.take_length,Bz];simp only [AH];rw [hW,hU]
     refine Ad (indexOf (B2 f V (f.shape.to.getD a default).toNat) mv) o rfl rfl (by simp only [AL]; omega) fun BQ H o=>?_;refine tw w3 ?_;exact A5 (_,_) (by omega) ⟨by rw [BW _ _ B8,hT,B3,mD],o⟩ rfl
   ·have B8:=A9 h3;refine tt ?_;refine Al o rfl fun H o=>tt ?_;refine AK o (by simp) (tt ?_)
    have E3 : row=Gw f V a:=by rw [B3,List.take_of_length_le (by omega)]; rfl
    refine Ad (f:=iL) row (AA.pull [_,_] o) rfl sW.symm (by simp only [AL]; omega) fun iC H o=>?_
    replace o:=AA.push [_,_] o;simp only [List.cons_append,List.nil_append] at o;refine tt ?_;refine sw o fun H o=>?_
    have e2 : (AU++[row]).length=a+1:=by simp [sW]
    rw [e2] at o;refine tw w2 ?_;exact A5 (iC,AU++[row]) (by omega) ⟨by rw [Bb,← Px,E3],o⟩ rfl
  ·have Ah:=A9 h2;refine tt ?_
   have Np : a=f.shape.AJ.length:=by omega
   refine B5 (f:=iI) (A:=sz) 5 o rfl sY.symm fun H o=>?_;have o:=s1 o;refine B5 (f:=iL) (A:=AU) 6 o rfl sW.symm fun H o=>AY ?_;have o:=s1 o;refine tt ?_;refine Ac o (by simp) (tt ?_);refine sw (AA.pull [_,_] o) fun H o=>tt ?_;rw [o.rc 8 0 (by simp)];refine tt ?_
   have e1 : sz=BM f V:=by rw [CU,Me]; rfl
   have e2 : AU=BZ f V:=by rw [Px,Np]; rfl
   exact A6 (by rw [Xw Bc,Aw Bc,e1,e2]; rfl) o.sub
def S4 (ls : List Lk) (ks vs : List AV) : Prop:=(∀ i : Int,Li 0 (iI i) ks) ∧
 ∀ i : Int,(JG (iI i) ks vs).getD .A1=mL Q9 (ls.filter fun l=>decide (l.i=i))∨((JG (iI i) ks vs).getD .A1=.A1∧(ls.filter fun l=>decide (l.i=i))=[])
theorem WY (B : Nat) (A4 : List Int) (ls : List Lk) (Hp : Ju A4 ls) (Fg : A4.length≤1000) (Qi : ls.length≤1000000) (ks vs : List AV) (hM : S4 ls ks vs) (FJ Kq K7 DM : Nat) (fv : AV) :
  ∀ (n : Nat) (p : List Int),DY p=n→GU A4 p→∀ (H0 H : AB) (l : List (Nat × AF)) (X : AV) (note : List Int) (i : Nat) (e : Int),
   CZ iI H0 H ((Kq,.cells 1 [X] 0)::(FJ,.cells 1 (p.map iI) 0)::l) X note→(K7,.map ks vs)∈l→i<p.length→0≤e∧e<A4.getD i default→note.length+DY p≤1000 →
   CB B 287 [.Gd [iL A4,.Gg K7,.buf FJ A4.length,fv] DM,.int .i64 i,.int .i64 e,.ref Kq 0] H
    (fun r H'=>∃ ok p' N X',r=.bool ok∧CZ iI H0 H' ((Kq,.cells 1 [X'] 0)::(FJ,.cells 1 (p'.map iI) 0)::l) X' (note++N)∧JO A4 ls p i e p' N ok∧N.length+DY p'≤DY p):=by
 intro n
 induction n using Nat.strongRecOn with
 | _ n ih =>
 intro p hn hp H0 H l X note i e hX hm hi he hnb;refine fp.go fun _=>?_
 have Kn:=hp.1;refine tt ?_
 have hgL:=hX.get (x:=(FJ,.cells 1 (p.map iI) 0)) (by simp);refine ⟨by omega,Bo hgL hi ?_⟩;refine tt ?_;apply bk <;> intro h1
 ·refine tt ?_
  have AR:=A7 h1;refine ⟨by omega,Bo hgL hi ?_⟩;refine tt ?_;exact ⟨H,.refl _,_,p,[],X,rfl,by rw [List.append_nil]; exact hX,.Jr hp hi (by omega),by simp⟩
 refine tt ?_
 have AR:=A9 h1
 have h0 : p.getD i default=-1:=(hp.2 i hi).resolve_right fun h=>by omega
 obtain ⟨q,o,hq⟩:=hX.split;refine ⟨by omega,Bw e (AA.nC q o) rfl hi fun H o=>?_⟩;refine tt ?_
 have hX:=CZ.mk (AA.nL q o) hq;clear o hq;refine Af hX.obj (by simp) (tt ?_);refine hX.app (i : Int) rfl (by simp only [AL]; omega) fun Av H o=>tt ?_;refine sw o.swap fun H o=>?_
 have hX : CZ iI H0 H ((Kq,.cells 1 [.buf Av (note++[(i : Int)]).length] 0)::(FJ,.cells 1 ((p.set i e).map iI) 0)::l) (.buf Av (note++[(i : Int)]).length) (note++[(i : Int)]):=.inr ⟨Av,rfl,o.swap⟩;clear o
 have hgM:=hX.get (x:=(K7,.map ks vs)) (by simp [hm]);refine tt ?_;rw [hgM];refine tt ?_;refine ⟨hM.1 i, ?_⟩
 have hV:=hM.2 i
 generalize hVv : (JG (iI i) ks vs).getD .A1=V at *
 generalize hrs : (ls.filter fun l=>decide (l.i=(i : Int)))=rs at *
 have hlen : Ee (some V)=some (True,.int .i64 rs.length):=by
  rcases hV with rfl | ⟨rfl,rfl⟩
  ·exact kG rs
  ·rfl
 refine tw hlen ?_
 have Mc : rs.length≤1000000:=by rw [← hrs]; exact Nat.le_trans (List.length_filter_le _ _) Qi
 have sA : ∀ j,j<rs.length→rs.getD j default∈ls∧(rs.getD j default).i=i:=by
  intro j hj
  have : rs.getD j default∈(ls.filter fun l=>decide (l.i=(i : Int))):=by rw [hrs]; exact AE.mpr ⟨j,hj,rfl⟩
  rw [List.mem_filter,decide_eq_true_eq] at this;exact this
 have wH : DY (p.set i e)<DY p:=MI hi h0 he.1
 refine AD [0,2,3,48,49] (G:=List Int × List Int × AV) (fun k _=>[(50,some (.int .i64 (k : Int)))])
  (fun k g H=>CZ iI H0 H ((Kq,.cells 1 [g.2.2] 0)::(FJ,.cells 1 (g.1.map iI) 0)::l) g.2.2 (note++g.2.1)∧NI A4 ls p i e rs k g.1 g.2.1∧g.2.1.length+DY g.1≤DY p∧0<g.2.1.length) rs.length (p.set i e,[(i : Int)],.buf Av (note++[(i : Int)]).length)
  ⟨hX,.zero hp hi h0 he,by simp only [List.length_singleton]; omega,by simp⟩ rfl ?_
 rintro k ⟨p',N,X'⟩ H hk ⟨hX,hL,ue,hN0⟩;dsimp only at hX hL ue hN0;refine tt ?_;apply bk <;> intro h2
 ·have Ah:=A7 h2
  have w2:=ws k
  have hVr : V=mL Q9 rs:=hV.resolve_right fun h=>by rw [h.2] at Ah; simp at Ah
  rw [hVr]
  have CJ:=sA k Ah
  generalize hr : rs.getD k default=r at *
  have bj:=Hp.ok.j r CJ.1
  have bl:=Hp.ok.left r CJ.1;rw [CJ.2,AH] at bl
  have vp:=Hp.lf r CJ.1 _ (Bh (i:=e) (l:=r.left) (by omega))
  obtain ⟨q,o,hq⟩:=hX.split;refine tt ?_;refine ⟨Ah,by simp [AL],Ai o fun Lv H o=>?_⟩;rw [hr];refine tt ?_;refine sw o fun H o=>tt ?_;refine AK o (by simp) (tt ?_);refine AK o (by simp) (tt ?_);refine ⟨⟨he.1,by omega⟩, ?_⟩
  have hX:=CZ.mk o.tl hq;clear o hq
  have NZ : GU A4 p':=hL.gv hp
  have hsl' : p'.length=p.length:=hL.len
  have VM : r.j=((r.j.toNat : Nat) : Int):=(Int.toNat_of_nonneg bj.1).symm;rw [VM];refine (ih (DY p') (by omega) p' rfl NZ H0 H l X' (note++N) r.j.toNat (ix r.left e) hX hm (by omega) ⟨vp.1,vp.2⟩ (by rw [List.length_append]; omega)).mono ?_
  rintro v H' ⟨ok,p2,N2,X2,rfl,Xb,hQ,hNu2⟩;rw [List.append_assoc] at Xb;refine tt ?_
  cases ok with
  | true =>
   refine tt ?_;refine tw w2 ?_
   have D0:=hL.step hp hi Ah (by rw [hr]; omega) (by omega) (by rw [hr]; exact bj.1) (by rw [hr]; exact hQ) (fun j hj=>?_) sA Hp
   ·exact A5 (p2,N++N2,X2) (by omega) ⟨Xb,D0,by simp only [List.length_append]; omega,by simp only [List.length_append]; omega⟩ rfl
   ·have vh:=sA j hj
    have bj:=Hp.ok.j _ vh.1
    have bl:=Hp.ok.left _ vh.1;rw [vh.2,AH] at bl
    have vp:=Hp.lf _ vh.1 _ (Bh (i:=e) (l:=(rs.getD j default).left) (by omega));exact ⟨bj.1,by omega,vp.1⟩
  | false =>
   refine tt ?_;refine ⟨H',.refl _,false,p2,N++N2,X2,rfl,Xb,hL.fail hp hi h0 Ah (by rw [hr]; exact hQ) (by omega) sA Hp,by simp only [List.length_append]; omega⟩
 ·have Ah:=A9 h2;refine tt ?_;refine ⟨H,.refl _,true,p',N,X',rfl,hX,hL.done (by omega) fun l hl e2=>?_,ue⟩;rw [← hrs,List.mem_filter];exact ⟨hl,decide_eq_true e2⟩
end Go.Proofs.Shf
namespace Go.AW
open Go.Proofs Go.Proofs.Shf
theorem AA.ext {H0 H H' : AB} {l : List (Nat × AF)} (h : AA H0 H l) (k : H.sub H') : AA H0 H' l :=
 ⟨h.sub.trans k,fun x hx=>k _ _ (h.get x hx),h.nd,h.out⟩
theorem CZ.ext {α : Type} {f : α→AV} {H0 H H' : AB} {l : List (Nat × AF)} {X : AV} {A : List α} (h : CZ f H0 H l X A) (k : H.sub H') : CZ f H0 H' l X A:=by
 rcases h with ⟨h1,h2,h⟩ | ⟨id,h1,h⟩
 ·exact .inl ⟨h1,h2,h.ext k⟩
 ·exact .inr ⟨id,h1,h.ext k⟩
theorem U4 {α : Type} [Inhabited α] {f : α→AV} [One f] {B : Nat} {H : AB} {id n fr : Nat} {A : List α} (h0 : H.get id=some (.cells 1 (A.map f) fr)) (hn : n=A.length) :
  ∀ g w v,Ao g B H w→Ab g (.buf id n) v→Ab (g.EB H w) (mL f A) v:=by
 subst hn
 have:=Tr.buf (H:=H) id fr (A.map f) (A.map f) h0 rfl (fun i hi=>by rw [List.length_map] at hi; rw [getD_map A hi]; exact CW _) (fun i _=>.val _);rw [List.length_map] at this;exact this.arg
theorem AA.KW {H0 H : AB} {l l' : List (Nat × AF)} (h : AA H0 H l) (k : l'.Sublist l) : AA H0 H l' :=
 ⟨h.sub,fun x hx=>h.get x (k.subset hx),h.nd.sublist (k.map _),fun x hx=>h.out x (k.subset hx)⟩
theorem CZ.KW {α : Type} {f : α→AV} {H0 H : AB} {l l' : List (Nat × AF)} {X : AV} {A : List α} (h : CZ f H0 H l X A) (k : l'.Sublist l) : CZ f H0 H l' X A:=by
 rcases h with ⟨h1,h2,h⟩ | ⟨id,h1,h⟩
 ·exact .inl ⟨h1,h2,h.KW k⟩
 ·exact .inr ⟨id,h1,h.KW (k.cons_cons _)⟩
theorem QA.Ee {α : Type} {f : α→AV} {p : List (Nat × AF)} {X : AV} {A : List α} (h : QA f p X A) : Ee (some X)=some (True,.int .i64 A.length):=by
 rcases h with ⟨_,rfl,rfl⟩ | ⟨id,_,rfl⟩ <;> rfl
theorem QA.sub {α : Type} {f : α→AV} {p : List (Nat × AF)} {X : AV} {A : List α} (h : QA f p X A) {i : Nat} (hi : i<A.length) : ∃ id,p=[(id,.cells 1 (A.map f) 0)]∧X=.buf id A.length:=by
 rcases h with ⟨_,_,rfl⟩ | h
 ·simp at hi
 ·exact h
theorem Tq {α : Type} (A B C l : List α) : (A++(B++(C++l))).Perm (C++(B++(A++l))):=by
 have : (A++(B++C)).Perm (C++(B++A)):=by
  refine (List.perm_append_comm).trans ?_;rw [← List.append_assoc];exact List.Perm.append_right A List.perm_append_comm
 simpa using List.Perm.append_right l this
theorem B7.zo {α : Type} [Inhabited α] {f : α→AV} [One f] {P : Program} {B : Nat} {fn : FuncId} {args : List AV} {H : AB} {Q : List α→Prop} {K : Am} (h : B7 P B fn args H (PQ f H [] Q))
  (hk : ∀ A H',H.sub H'→Q A→K (mL f A) H') : B7 P B fn args H K:=by
 refine ⟨h.1,fun g w vs hW hv=>(h.2 g w vs hW hv).mono fun e w' ⟨v,he,g',r,H',a,⟨id,A,e1,o,q⟩,c,d,k⟩=>?_⟩;subst e1
 obtain ⟨g2,q1,q2,q3⟩:=d.mS o.h0;exact ⟨v,he,g2,mL f A,_,a.trans q1,hk A _ (Go.AW.C7 o.sub (o.out _ (by simp))) q,q3 g2 v (.refl _) (c.mono q1),q2,k⟩
end Go.AW
namespace Go.Proofs.Shf
open Go.AW Go.Proofs Go.Shf
theorem fS (B : Nat) (most : Nat) (FY : most≤1048576) (p : List Int) (H0 H : AB) (l : List (Nat × AF)) (FJ Fz n : Nat) (X : AV) (out : List (List Int)) (hn : n=p.length)
  (hX : CZ iL H0 H ((Fz,.cells 1 [X] 0)::l) X out) (hm : (FJ,.cells 1 (p.map iI) 0)∈l) (ho : out.length≤most) :
  CB B 249 [.buf FJ n,.ref Fz 0,.ptr [.int .i64 most]] H (fun r H'=>∃ X',r=.bool (decide (out.length+1≤most))∧CZ iL H0 H' ((Fz,.cells 1 [X'] 0)::l) X' (out++[p])):=by
 refine bf.go fun _=>?_;refine tt ?_;refine Af hX.obj (by simp) (tt ?_)
 have hc : CB B 221 [.buf FJ n] H (PQ iI H [] (·=p)) :=
  B7.Y0 (f:=iI) (Q:=(·=p)) (es:=[iL p]) (AA.nil H) (fun _=>.int _ _) rfl (fun i hi=>by
   obtain rfl : i=0:=by simp only [List.length_cons,List.length_nil] at hi; omega
   exact U4 (hX.get (x:=(FJ,.cells 1 (p.map iI) 0)) (by simp [hm])) hn) (Ji B p H.Ov H.Ov [] (.nil _)) fun id A H' o q=>⟨id,A,rfl,o,q⟩
 refine hc.zo fun A H1 hs hA=>⟨hs, ?_⟩;subst hA
 have hX:=hX.ext hs;refine tt ?_;refine hX.app A rfl (by simp only [AL]; omega) fun Av H o=>tt ?_;refine sw o.swap fun H o=>tt ?_
 have hX : CZ iL H0 H ((Fz,.cells 1 [.buf Av (out++[A]).length] 0)::l) (.buf Av (out++[A]).length) (out++[A]):=.inr ⟨Av,rfl,o.swap⟩;refine Af hX.obj (by simp) (tt ?_);exact ⟨H,.refl _,_,by simp,hX⟩
end Go.Proofs.Shf
namespace Go.AW
open Go.Proofs Go.Shf Go.Proofs.Shf
theorem K2 {l : List Int} {a : Int} (h : 0≤indexOf l a) : (indexOf l a).toNat<l.length∧l.getD (indexOf l a).toNat default=a∧∀ m,m<(indexOf l a).toNat→l.getD m default≠a:=by
 have hm:=(ET l a).mp h
 have hi:=BD hm;refine ⟨hi.2.1,hi.2.2,fun m E6 e=>?_⟩;unfold indexOf at E6
 split at E6
 ·rename_i i hs
  rw [List.idxOf?_eq_some_iff] at hs
  obtain ⟨h1,h2,h3⟩:=hs
  have wT : m<i:=by simpa using E6
  have h4 : m<l.length:=by omega
  have:=h3 m wT;exact this (by simpa [gE,h4] using e)
 ·simp at E6
end Go.AW
namespace Go.Proofs.Shf
open Go.AW Go.Proofs Go.Shf
theorem WQ (B : Nat) (A4 : List Int) (ls : List Lk) (Hp : Ju A4 ls) (Fg : A4.length≤1000) (T9 : ∀ i,i<A4.length→A4.getD i default≤1000000) (Qi : ls.length≤1000000) (ks vs : List AV) (hM : S4 ls ks vs) (most : Nat) (FY : most≤1048576) (FJ K7 DM Fz : Nat) :
  ∀ (n : Nat) (p : List Int),DY p=n→GU A4 p→KP ls p→∀ (H0 H : AB) (l : List (Nat × AF)) (X : AV) (out : List (List Int)),
   CZ iL H0 H ((Fz,.cells 1 [X] 0)::(FJ,.cells 1 (p.map iI) 0)::l) X out→(K7,.map ks vs)∈l→out.length≤most →
   CB B 250 [.Gd [iL A4,.Gg K7,.buf FJ A4.length,.fn (.func 249) [.ref Fz 0,.ptr [.int .i64 most]]] DM] H
    (fun r H'=>∃ X',r=.bool (decide (out.length+(H7 A4 ls p).length≤most))∧CZ iL H0 H' ((Fz,.cells 1 [X'] 0)::(FJ,.cells 1 (p.map iI) 0)::l) X' (out++(H7 A4 ls p).take (most+1 - out.length))):=by
 intro n
 induction n using Nat.strongRecOn with
 | _ n ih =>
 intro p hn hp hc H0 H l X out hX hm ho;refine ga.go fun _=>?_
 have Kn:=hp.1;refine tt ?_;refine B7.FV (es:=[iL p,.int .i64 (-1)]) (.int _ _) rfl (fun i hi=>?_) (Lg B p (-1)).run ?_
 ·obtain rfl | rfl : i=0∨i=1:=by simp only [List.length_cons,List.length_nil] at hi; omega
  ·exact U4 (hX.get (x:=(FJ,.cells 1 (p.map iI) 0)) (by simp)) Kn.symm
  ·exact DA _
 have hib:=GL p (-1);refine tt ?_;apply bk <;> intro h1
 ·refine tt ?_
  have AR:=A7 h1
  have Ak : ∀ m,m<p.length→p.getD m default≠-1:=fun m hm e=>by
   have:=(ET p (-1)).mpr (AE.mpr ⟨m,hm,e⟩);omega
  have hex : H7 A4 ls p=[p]:=GP (Pm (hc.cons Hp hp) Ak);rw [hex];refine (fS B most FY p H0 H ((FJ,.cells 1 (p.map iI) 0)::l) FJ Fz A4.length X out Kn.symm hX (by simp) ho).mono ?_
  rintro r H' ⟨X',rfl,hX⟩;refine tt ?_;refine ⟨H',.refl _,X',rfl, ?_⟩;rw [List.take_of_length_le (by simp; omega)];exact hX
 have AR:=A9 h1
 obtain ⟨f1,f2,f3⟩:=K2 (l:=p) (a:=-1) (by omega)
 generalize gQ : indexOf p (-1)=ii at *
 obtain ⟨i,rfl⟩ : ∃ i : Nat,ii=(i : Int):=⟨ii.toNat,by omega⟩;rw [Int.toNat_natCast] at f1 f2 f3
 have aC:=lR Hp hp hc f1 f2 f3
 replace aC : H7 A4 ls p=CI A4 ls p i (A4.getD i default).toNat:=aC
 have hbi:=T9 i (by omega);refine tt ?_;refine ⟨by omega, ?_⟩
 generalize CU : A4.getD i default=sz at *
 refine AD [0,3,32] (G:=AV) (fun k _=>[(33,some (.int .i64 (k : Int)))])
  (fun k X H=>CZ iL H0 H ((Fz,.cells 1 [X] 0)::(FJ,.cells 1 (p.map iI) 0)::l) X (out++CI A4 ls p i k)∧out.length+(CI A4 ls p i k).length≤most) sz.toNat X
  ⟨by rw [Mw,List.append_nil]; exact hX,by rw [Mw]; exact ho⟩ rfl ?_
 rintro k X H hk ⟨hX,Q0⟩
 replace hX : CZ iL H0 H ((Fz,.cells 1 [X] 0)::(FJ,.cells 1 (p.map iI) 0)::l) X (out++CI A4 ls p i k):=hX
 replace Q0 : out.length+(CI A4 ls p i k).length≤most:=Q0;refine tt ?_;apply bk <;> intro h2
 rotate_left
 ·have Ah:=A9 h2;refine tt ?_
  have hke : k=sz.toNat:=by omega
  refine ⟨H,.refl _,X, ?_, ?_⟩
  ·rw [aC,← hke,decide_eq_true Q0]
  ·rw [aC,← hke,List.take_of_length_le (by omega)]; exact hX
 have Ah:=A7 h2
 have w2:=ws k
 obtain ⟨pp,o,Vc⟩:=hX.split;clear hX;refine tt ?_;refine Ae o fun VQ H o=>tt ?_;refine Ai o fun CP H o=>tt ?_;refine sw o fun H o=>tt ?_
 have hX : CZ iI H0 H ((CP,.cells 1 [.buf VQ 0] 0)::(FJ,.cells 1 (p.map iI) 0)::(pp++(Fz,.cells 1 [X] 0)::l)) (.buf VQ 0) [] :=
  .inr ⟨VQ,rfl,o.swap.perm (.cons _ (.cons _ (by
   refine (List.Perm.append_left pp (List.Perm.swap _ _ _)).trans List.perm_middle)))⟩
 clear o
 refine (WY B A4 ls Hp Fg Qi ks vs hM FJ CP K7 DM (.fn (.func 249) [.ref Fz 0,.ptr [.int .i64 most]]) _ p rfl hp H0 H (pp++(Fz,.cells 1 [X] 0)::l) (.buf VQ 0) [] i k hX (by simp [hm]) f1 ⟨by omega,by omega⟩ (by
  have : DY p≤p.length:=List.countP_le_length;simp only [List.length_nil]; omega)).mono ?_
 rintro v H ⟨ok,p',N,X',rfl,hX,hQ,ue⟩;rw [List.nil_append] at hX
 obtain ⟨q,o,hq⟩:=hX.split
 have hY : CZ iL H0 H ((Fz,.cells 1 [X] 0)::(FJ,.cells 1 (p'.map iI) 0)::(q++(CP,.cells 1 [X'] 0)::l)) X (out++CI A4 ls p i k):=by
  refine CZ.mk (p:=pp) (o.perm ?_) Vc
  have:=Tq (q++[(CP,AF.cells 1 [X'] 0)]) [(FJ,.cells 1 (p'.map iI) 0)] (pp++[(Fz,.cells 1 [X] 0)]) l
  simpa using this
 clear o hX
 have hUn:=hQ.qZ
 have HH:=Mn A4 ls p i k
 have HI:=Wv A4 ls p i (k:=k+1) (m:=sz.toNat) (by omega)
 have NZ : p'.length=p.length:=hQ.len
 have hNb : ∀ j,j<N.length→0≤N.getD j default∧(N.getD j default).toNat<p'.length:=fun j hj=>by
  have:=(hQ.new (N.getD j default)).mp (AE.mpr ⟨j,hj,rfl⟩);exact ⟨this.1,by omega⟩
 have hNl : N.length≤1000:=by
  have : DY p≤p.length:=List.countP_le_length;omega
 cases ok
 case' true =>
  have jC:=ZY (ls:=ls) (A4:=A4) (hQ.ext_iff f1 f2 ⟨by omega,by omega⟩);refine tt ?_;refine (ih (DY p') (by rw [← hn]; exact cT hQ f1 f2 (by omega) ue) p' rfl ⟨by omega,fun r hr=>hQ.part r (by omega)⟩ (hc.set Hp hp hQ) H0 H (q++(CP,.cells 1 [X'] 0)::l) X (out++CI A4 ls p i k) hY (by simp [hm]) (by simp; exact Q0)).mono ?_;clear hY
  rintro v H ⟨X2,rfl,hY⟩;rw [← jC] at hY ⊢
  generalize hb : decide ((out++CI A4 ls p i k).length+(H7 A4 ls (p.set i k)).length≤most)=b
  replace hb : b=decide (out.length+(CI A4 ls p i (k+1)).length≤most):=by
   rw [← hb,HH]; simp only [List.length_append]; congr 1; rw [Nat.add_assoc]
  refine tt ?_
 case' false =>
  have jC:=hQ.none f1 f2 ⟨by omega,by omega⟩;refine tt ?_
  generalize Xb : X=X2 at hY
  generalize hb : true=b
  replace hb : b=decide (out.length+(CI A4 ls p i (k+1)).length≤most):=by
   rw [← hb,HH,jC,List.append_nil,decide_eq_true Q0]
  replace hY : CZ iL H0 H ((Fz,.cells 1 [X2] 0)::(FJ,.cells 1 (p'.map iI) 0)::(q++(CP,.cells 1 [X'] 0)::l)) X2 ((out++CI A4 ls p i k)++(H7 A4 ls (p.set i k)).take (most+1 - (out++CI A4 ls p i k).length)):=by
   rw [jC]; simpa using hY
 all_goals
  generalize hA : (out++CI A4 ls p i k)++(H7 A4 ls (p.set i k)).take (most+1 - (out++CI A4 ls p i k).length)=A at hY
  have hlN:=hq.Ee;refine Af (hY.get (x:=(CP,.cells 1 [X'] 0)) (by simp)) (by simp) ?_;refine tw hlN ?_
  refine AD [0,3,7,32,33,47,48] (G:=Unit) (fun j _=>[(49,some (.int .i64 (j : Int)))])
   (fun j _ H=>CZ iL H0 H ((Fz,.cells 1 [X2] 0)::(FJ,.cells 1 ((HS p' N j).map iI) 0)::(q++(CP,.cells 1 [X'] 0)::l)) X2 A) N.length ()
   (by rw [Yp]; exact hY) rfl ?_
  clear hY
  rintro j _ H hj hY
  replace hY : CZ iL H0 H ((Fz,.cells 1 [X2] 0)::(FJ,.cells 1 ((HS p' N j).map iI) 0)::(q++(CP,.cells 1 [X'] 0)::l)) X2 A:=hY;refine tt ?_;apply bk <;> intro h3
  ·have B8:=A7 h3
   have wj:=ws j
   obtain ⟨Av,rfl,rfl⟩:=hq.sub B8
   have hb:=hNb j B8;refine tt ?_;refine ⟨B8,Bo (f:=iI) (hY.get (x:=(Av,.cells 1 (N.map iI) 0)) (by simp)) B8 ?_⟩;refine tt ?_
   obtain ⟨qq,o,sL⟩:=hY.split;refine ⟨⟨hb.1,by omega⟩,Bw (-1) (AA.nC qq o) rfl (by rw [Tx]; exact hb.2) fun H o=>?_⟩
   have hY:=CZ.mk (AA.nL qq o) sL;rw [← Zy p' N B8 hb.1] at hY;refine tw wj ?_;exact A5 () B8 hY rfl
  ·have B8:=A9 h3
   have jm : j=N.length:=by omega
   rw [jm,hUn] at hY
   have hY:=hY.KW (l':=(Fz,.cells 1 [X2] 0)::(FJ,.cells 1 (p.map iI) 0)::l) (.cons_cons _ (.cons_cons _ ((List.sublist_cons_self _ _).trans (List.sublist_append_right _ _))))
   obtain ⟨r,hr⟩:=HI
   cases b
   ·refine tt ?_
    have bC:=of_decide_eq_false hb.symm;refine ⟨H,.refl _,X2, ?_, ?_⟩
    ·rw [aC,hr,decide_eq_false];simp only [List.length_append]; omega
    ·rw [aC,hr,HH];rw [HH,List.length_append] at bC
     have e : (CI A4 ls p i k++H7 A4 ls (p.set i k)++r).take (most+1 - out.length)=CI A4 ls p i k++(H7 A4 ls (p.set i k)).take (most+1 - (out++CI A4 ls p i k).length):=by
      rw [List.append_assoc,List.take_append,List.take_of_length_le (by omega),List.take_append,List.length_append];rw [show most+1 - out.length - (CI A4 ls p i k).length=most+1 - (out.length+(CI A4 ls p i k).length) by omega];rw [show most+1 - (out.length+(CI A4 ls p i k).length) - (H7 A4 ls (p.set i k)).length=0 by omega]
      simp
     rw [e,← List.append_assoc,hA]; exact hY
   ·refine tw w2 ?_
    have bC:=of_decide_eq_true hb.symm;refine A5 X2 (by omega) ⟨?_,bC⟩ rfl;rw [HH,List.length_append] at bC;rw [List.take_of_length_le (by rw [List.length_append]; omega)] at hA;rw [HH,← List.append_assoc,hA]; exact hY
end Go.Proofs.Shf
namespace Go.AW
theorem dQ {F : Env→AB→Prop} {σ : Env} {H0 H : AB} {l : List (Nat × AF)} {id sz : Nat} {cs : List AV} {fr : Nat} {cs0 : List AV} (t k : Nat) (hf : fr≤k) (hk : k≤cs.length) (o : AA H0 H ((id,.cells sz cs fr)::l)) (ht : σ.get t=some (.Gd cs0 id))
  (hF : ∀ H',AA H0 H' ((id,.cells sz cs k)::l)→Gj F ((t,some (.Gd (cs.take k) id))::σ) H') : Gj F σ H:=by
 have h1:=o.h0;simp only at h1;refine Da (σ1:=(t,some (.Gd (cs.take k) id))::σ) ?_ (hF _ (o.put (.cells sz cs k)))
 intro g B w tm hW hE
 obtain ⟨q1,q2⟩:=hE t _ ht
 generalize hu : tm.getD t undef=u at q2
 cases q2 with
 | Gd _ _ b cap _ D3 _ _ =>
  have mG:=hW.dg h1 D3 hf hk
  obtain ⟨p,hp,hr⟩:=hW.ob _ _ h1;rw [D3] at hp; cases hp;simp only [Aj] at hr
  obtain ⟨r1,r2,r3,r4,c,el,r5,r6,r7,r8⟩:=hr
  obtain ⟨g1,g2⟩:=mG.Hu b k c el (0,0) r5 fun i p o e hp VS=>by
   by_cases K9 : i=id
   ·subst K9;rw [D3] at hp; cases hp
    simp at e;exact ⟨_,_,_,e.symm,Nat.le_refl _⟩
   ·exfalso
    cases p with
    | nil=>cases VS
    | HC b' cap' =>
     cases VS;exact mG.inj i id b cap' cap K9 (by simp [e]) (by simp) hp D3
    | mp b' =>
     cases VS
     obtain ⟨q,hq,hr⟩:=mG.ob _ _ e;rw [hp] at hq; cases hq
     cases o with
     | cells sz' cs' f'=>simp [Aj] at hr
     | map ks vs =>
      simp only [Aj] at hr
      obtain ⟨_,_,es,clk,h5,_⟩:=hr;rw [r5] at h5; cases h5
  refine ⟨_,g1,g2,fun s x e=>?_⟩;simp only [Env.get] at e
  split at e
  ·rename_i hs; cases e; subst hs
   refine ⟨q1, ?_⟩;rw [hu]
   have D1 : (cs.take k).length=k:=by rw [List.length_take]; omega
   refine .Gd _ id b cap (fun i=>c.getD i undef) (g1.io _ _ D3) (fun i hi=>?_) (fun i hi=>?_)
   ·rw [D1] at hi;simp only [Gh.Hu]
    have : i<c.size:=by omega
    simp [hi,Array.getD,this]
   ·rw [D1] at hi
    have e2 : (cs.take k).getD i nv=cs.getD i nv:=by simp [gE,hi]
    rw [e2]; exact (r8 i (by omega)).mono g1
  ·obtain ⟨z1,z2⟩:=hE s x e; exact ⟨z1,z2.mono g1⟩
theorem Zd {H0 H : AB} {l : List (Nat × AF)} {K : Am} {id sz off n fr : Nat} {cs vs : List AV} (o : AA H0 H ((id,.cells sz cs fr)::l)) (h0 : fr≤off) (h1 : off+n≤cs.length) (h2 : vs.length=n) (h3 : ∀ c,c∈vs→c.one=true)
  (hk : ∀ H',AA H0 H' ((id,.cells sz (wr cs off vs) fr)::l)→K nv H') : OZ (H.get id) id off n vs K H:=by
 have e:=o.h0;simp only at e;rw [e,Mk];exact ⟨⟨h0,h1,h2,h3⟩,hk _ (o.put _)⟩
end Go.AW
namespace Go.Proofs.Shf
open Go.AW Go.Proofs Go.Shf
theorem L9 (B : Nat) (x : Int) (n : Nat) (hn : n≤1048576) (H0 H : AB) (l : List (Nat × AF)) (o : AA H0 H l) : CB B 248 [.int .i64 x,.int .i64 n] H (PQ iI H0 l (·=List.replicate n x)):=by
 refine yS.go fun _=>?_;refine tt ?_;refine ⟨by simp [AL]; omega,DD iI 0 rfl o fun id H o=>?_⟩;refine tt ?_;refine AD [0,5,10] (G:=Unit) (fun k _=>[(11,some (.int .i64 (k : Int)))]) (fun k _ H=>AA H0 H ((id,.cells 1 ((List.replicate k x++List.replicate (n - k) 0).map iI) 0)::l)) n () (by simpa using o) rfl ?_;clear o
 rintro k _ H hk o
 replace o : AA H0 H ((id,.cells 1 ((List.replicate k x++List.replicate (n - k) 0).map iI) 0)::l):=o;refine tt ?_;apply bk <;> intro h1
 ·have AR:=A7 h1
  have w:=ws k;refine tt ?_;refine ⟨by omega,Bw x o rfl (by simp; omega) fun H o=>?_⟩
  have e : (List.replicate k x++List.replicate (n - k) 0).set k x=List.replicate (k+1) x++List.replicate (n - (k+1)) 0:=by
   rw [List.set_append_right _ _ (by simp),List.length_replicate,Nat.sub_self,show n - k=(n - (k+1))+1 by omega,List.replicate_succ (n:=n - (k+1)),List.set_cons_zero,List.replicate_succ' (n:=k),List.append_assoc]
   rfl
  rw [e] at o;refine tw w ?_;exact A5 () (by omega) o rfl
 ·have AR:=A9 h1;refine tt ?_
  obtain rfl : k=n:=by omega
  exact Gy o (by simp) (by simp)
theorem B9 {α : Type} [Inhabited α] (l : List α) {k : Nat} (hk : k<l.length) : l.take (k+1)=l.take k++[l.getD k default]:=by
 have hN : l[k]=l.getD k default:=by simp [gE,hk]
 rw [← hN]; exact (List.take_append_getElem hk).symm
def CN (ls : List Lk) (k : Nat) (ks : List Int) : List (List Lk):=ks.map fun i=>(ls.take k).filter fun l=>decide (l.i=i)
theorem Hh (ls : List Lk) {k : Nat} (hk : k<ls.length) (i : Int) : ((ls.take (k+1)).filter fun l=>decide (l.i=i))=((ls.take k).filter fun l=>decide (l.i=i))++if (ls.getD k default).i=i then [ls.getD k default] else []:=by
 have hN : ls[k]=ls.getD k default:=by simp [gE,hk]
 have ht : ls.take (k+1)=ls.take k++[ls.getD k default]:=by rw [← hN]; exact (List.take_append_getElem hk).symm
 rw [ht,List.filter_append]
 congr 1
 simp only [List.filter_cons,List.filter_nil,decide_eq_true_eq]
theorem XJ {ls : List Lk} {ks : List Int} {k : Nat} (hk : k<ls.length) (Eo : (ls.getD k default).i∈ks) (Hq : ks.Nodup) :
  CN ls (k+1) ks=(CN ls k ks).set (ks.idxOf (ls.getD k default).i) ((CN ls k ks).getD (ks.idxOf (ls.getD k default).i) []++[ls.getD k default]):=by
 generalize hr : ls.getD k default=r at *
 have D1 : ks.idxOf r.i<ks.length:=List.idxOf_lt_length_iff.mpr Eo;apply List.ext_getElem (by simp [CN])
 intro m h1 h2
 have hm : m<ks.length:=by simpa [CN] using h1
 have XU : ks[ks.idxOf r.i]=r.i:=List.getElem_idxOf D1;simp only [CN,List.getElem_map,List.getElem_set,Hh ls hk,hr]
 by_cases e : ks.idxOf r.i=m
 ·subst e;rw [if_pos rfl,XU,if_pos rfl]
  simp [gE,D1,XU]
 ·rw [if_neg e,if_neg,List.append_nil]
  intro e2;exact e ((List.getElem_inj Hq (h₀:=D1) (h₁:=hm)).mp (by rw [XU,e2]))
theorem Tl {ls : List Lk} {ks : List Int} {k : Nat} (hk : k<ls.length) (Eo : ¬ (ls.getD k default).i∈ks) (Ak : ∀ l,l∈ls.take k→l.i∈ks) :
  CN ls (k+1) (ks++[(ls.getD k default).i])=CN ls k ks++[[ls.getD k default]]:=by
 generalize hr : ls.getD k default=r at *;simp only [CN,List.map_append,List.map_cons,List.map_nil,Hh ls hk,hr]
 congr 1
 ·apply List.map_congr_left
  intro i hi;rw [if_neg (show ¬ r.i=i from fun e=>Eo (by rw [e]; exact hi)),List.append_nil]
 ·have : ((ls.take k).filter fun l=>decide (l.i=r.i))=[]:=by
   rw [List.filter_eq_nil_iff]
   intro l hl e
   have:=Ak l hl; rw [of_decide_eq_true e] at this; exact Eo this
  rw [this]; simp
theorem Vt {ls : List Lk} {ks : List Int} (Ak : ∀ l,l∈ls→l.i∈ks) : S4 ls (ks.map iI) ((CN ls ls.length ks).map (mL Q9)):=by
 refine ⟨fun i=>Lb i ks,fun i=>?_⟩;rw [Su (by simp [CN])]
 by_cases hi : i∈ks
 ·left
  have D1 : ks.idxOf i<ks.length:=List.idxOf_lt_length_iff.mpr hi
  have XU : ks[ks.idxOf i]=i:=List.getElem_idxOf D1
  simp [CN,D1,XU]
 ·right
  have D1 : ks.idxOf i=ks.length:=List.idxOf_eq_length hi;refine ⟨by simp [CN,D1], ?_⟩;rw [List.filter_eq_nil_iff]
  intro l hl e
  have:=Ak l hl; rw [of_decide_eq_true e] at this; exact hi this
theorem fW (B : Nat) (A4 : List Int) (ls : List Lk) (Hp : Ju A4 ls) (Fg : A4.length≤1000) (T9 : ∀ i,i<A4.length→A4.getD i default≤1000000) (Qi : ls.length≤1000000) (most : Nat) (FY : most≤1048576) :
  PB B 171 [iL A4,mL Q9 ls,.int .i64 most] (.CG [BA ((Wb A4 ls).take (most+1)),.bool (decide ((Wb A4 ls).length≤most))]):=by
 refine ⟨fun H0=>yN.go fun _=>tt ?_⟩;refine Ae (.nil _) fun VQ H o=>tt ?_;refine Ai o fun Fz H o=>tt ?_;refine sw o fun H o=>tt ?_;refine OW o fun K7 H o=>tt ?_;refine (L9 B (-1) A4.length (by omega) H0 H _ o).own fun FJ A H o hA=>?_;rw [hA] at o
 have Lz : A.length=A4.length:=by rw [hA]; simp
 rw [Lz];clear hA Lz
 have ua : (AV.Gg K7).cells=[.Gg K7]:=rfl;try simp only [go_sem,↓reduceIte,reduceEqDiff,reduceAdd,reduceMul,reduceLeDiff,reduceLT,ua,FI,HE,List.set_cons_zero,List.set_cons_succ]
 refine nb o fun DM H o=>tt ?_;refine lG 9 3 (by simp) o rfl fun H o=>AY ?_;simp only [List.take_succ_cons,List.take_zero];refine tt ?_
 refine AD [5,8,9,21,22] (G:=List Int × List AV × List (Nat × AF)) (fun k _=>[(23,some (.int .i64 (k : Int)))])
  (fun k g H=>JM 3 Q9 g.2.1 (CN ls k g.1) g.2.2∧g.1.Nodup∧(∀ l,l∈ls.take k→l.i∈g.1) ∧
   AA H0 H ((K7,.map (g.1.map iI) g.2.1)::(g.2.2++[(DM,.cells 4 [iL A4,AV.Gg K7,AV.buf FJ A4.length,AV.NY] 3),(FJ,.cells 1 ((List.replicate A4.length (-1)).map iI) 0),(Fz,.cells 1 [AV.buf VQ 0] 0),(VQ,.cells 1 [] 0)])))
  ls.length ([],[],[]) ⟨.nil,.nil,by simp,o.perm (by
   refine List.Perm.trans ?_ (List.Perm.swap _ _ _);exact .cons _ (.swap _ _ _))⟩ rfl ?_
 clear o
 rintro k ⟨ks,Xs,ob⟩ H hk ⟨hR,Hq,Eo,o⟩;dsimp only at hR Hq Eo o;refine tt ?_
 have IV : Xs.length=ks.length:=by have:=hR.len; simpa [CN] using this
 apply bk <;> intro h1
 ·have AR:=A7 h1
  have w:=ws k;refine tt ?_;refine ⟨AR, ?_⟩;refine nb o fun G0 H o=>?_
  generalize hr : ls.getD k default=r at *;refine tt ?_;refine sw o fun H o=>tt ?_;refine D8 11 o rfl fun H o=>AY ?_
  have hg : H.get K7=some (.map (ks.map iI) Xs):=o.h0;refine tt ?_;rw [hg];refine tt ?_;refine ⟨Lb _ _, ?_⟩;rw [Su IV]
  by_cases hi : r.i∈ks
  ·have D1 : ks.idxOf r.i<ks.length:=List.idxOf_lt_length_iff.mpr hi
   obtain ⟨p,rest,h2,h3,h4⟩:=hR.split (ks.idxOf r.i) (by omega)
   have e1 : (Xs[ks.idxOf r.i]?).getD .A1=Xs.getD (ks.idxOf r.i) nv:=by simp [gE,IV,D1]
   rw [e1]
   have o:=o.perm (List.Perm.cons _ (List.Perm.append_right _ h2)) |>.perm (l:=_) (r:=p++((K7,.map (ks.map iI) Xs)::(rest++_))) (by
    rw [List.append_assoc]; exact List.perm_middle.symm)
   have Lz : ((CN ls k ks).getD (ks.idxOf r.i) []).length≤ls.length:=by
    simp [CN,gE,D1];exact Nat.le_trans (List.length_filter_le _ _) (by rw [List.length_take]; omega)
   refine h3.app (f:=Q9) o r rfl (by simp only [AL]; omega) fun Av H o=>?_
   generalize hA : (CN ls k ks).getD (ks.idxOf r.i) []=A at *
   have hg : H.get K7=some (.map (ks.map iI) Xs):=o.tl.h0;refine tt ?_;rw [hg];refine tt ?_;rw [Sm _ _ IV,if_pos hi];refine tw w ?_
   obtain ⟨ob',q1,q2⟩:=h4 (.buf Av (A++[r]).length) (A++[r]) [(Av,.cells 3 (flat ((A++[r]).map Q9)) 0)] (.inr ⟨Av,rfl,rfl⟩);refine ⟨Lb _ _,A5 (ks,Xs.set (ks.idxOf r.i) (.buf Av (A++[r]).length),ob') AR ⟨?_,Hq, ?_, ?_⟩ rfl⟩
   ·have:=XJ AR (by rw [hr]; exact hi) Hq;rw [hr,hA] at this
    show JM 3 Q9 _ (CN ls (k+1) ks) ob'
    rw [this]; exact q1
   ·intro l hl;rw [B9 ls AR,List.mem_append,List.mem_singleton,hr] at hl
    rcases hl with hl | rfl
    ·exact Eo l hl
    ·exact hi
   ·exact (o.swap.put _).perm (.cons _ (by
     rw [← List.cons_append];exact List.Perm.append_right _ q2.symm))
  ·have D1 : ks.idxOf r.i=ks.length:=List.idxOf_eq_length hi
   have e1 : (Xs[ks.idxOf r.i]?).getD .A1=.A1:=by simp [IV,D1]
   rw [e1]
   have hN : W3 3 Q9 [] .A1 ([] : List Lk):=.inl ⟨rfl,rfl,rfl⟩;refine hN.app (f:=Q9) (by exact o) r rfl (by simp [AL]) fun Av H o=>?_
   have hg : H.get K7=some (.map (ks.map iI) Xs):=o.tl.h0;refine tt ?_;rw [hg];refine tt ?_;rw [Sm _ _ IV,if_neg hi];refine tw w ?_;refine ⟨Lb _ _,A5 (ks++[r.i],Xs++[.buf Av ([]++[r]).length],ob++[(Av,.cells 3 (flat (([]++[r]).map Q9)) 0)]) AR ⟨?_, ?_, ?_, ?_⟩ rfl⟩
   ·have:=Tl AR (by rw [hr]; exact hi) Eo;rw [hr] at this
    show JM 3 Q9 _ (CN ls (k+1) (ks++[r.i])) _
    rw [this]; exact hR.snoc (.inr ⟨Av,rfl,rfl⟩)
   ·rw [List.nodup_append];refine ⟨Hq,by simp,fun a ha b hb=>?_⟩;rw [List.mem_singleton] at hb;subst hb
    rintro rfl;exact hi ha
   ·intro l hl;rw [B9 ls AR,List.mem_append,List.mem_singleton,hr] at hl
    show l.i∈ks++[r.i]
    rw [List.mem_append,List.mem_singleton]
    rcases hl with hl | rfl
    ·exact .inl (Eo l hl)
    ·exact .inr rfl
   ·refine (o.swap.put _).perm (.cons _ ?_);rw [List.append_assoc];exact List.perm_middle.symm
 ·have AR:=A9 h1;refine tt ?_
  obtain rfl : k=ls.length:=by omega
  refine pZ hR [] H (by exact o) fun H o=>AY ?_;clear hR
  have Ly : (AV.fn (.func 249) [.ref Fz 0,.ptr [.int .i64 most]]).cells=[.fn (.func 249) [.ref Fz 0,.ptr [.int .i64 most]]]:=rfl
  have o:=AA.pull [_] o;refine tw Ly ?_;refine Zd o (by simp) (by simp) rfl (by simp only [Bi,CR]; exact ⟨rfl,trivial⟩) fun H o=>?_;have o:=s2 o;rw [List.nil_append] at o;refine dQ 9 4 (by simp) (by simp) o rfl fun H o=>AY ?_;simp only [List.take_succ_cons,List.take_zero]
  have hM:=Vt (ls:=ls) (ks:=ks) (by simpa using Eo)
  have hX : CZ iL H0 H ((Fz,.cells 1 [.buf VQ 0] 0)::(FJ,.cells 1 ((List.replicate A4.length (-1)).map iI) 0)::[(K7,.map (ks.map iI) ((CN ls ls.length ks).map (mL Q9))),(DM,.cells 4 [iL A4,AV.Gg K7,AV.buf FJ A4.length,.fn (.func 249) [.ref Fz 0,.ptr [.int .i64 most]]] 4)]) (.buf VQ 0) [] :=
   .inr ⟨VQ,rfl,o.perm (List.reverse_perm _).symm⟩
  clear o
  have hneg : ∀ i : Int,0≤i→i.toNat<A4.length→ix (List.replicate A4.length (-1)) i=-1:=fun i h0 h1=>by
   simp [ix,gE,h1]
  refine tt ?_
  refine (WQ B A4 ls Hp Fg T9 Qi _ _ hM most FY FJ K7 DM Fz _ (List.replicate A4.length (-1)) rfl ⟨by simp,fun q hq=>.inl (by
   rw [List.length_replicate] at hq
   simp [gE,hq])⟩ (fun l hl h0=>by
    have a:=Hp.ok.i l hl;rw [hneg _ a.1 a.2] at h0; omega) H0 H _ (.buf VQ 0) [] hX (by simp) (by simp)).mono ?_
  clear hX
  rintro r H ⟨X,rfl,hX⟩;rw [List.nil_append,List.length_nil,Nat.sub_zero] at hX;rw [List.length_nil,Nat.zero_add]
  have hso : H7 A4 ls (List.replicate A4.length (-1))=Wb A4 ls:=rfl;rw [hso] at hX ⊢;refine tt ?_;refine Af hX.obj (by simp) (tt ?_)
  rcases hX with ⟨rfl,e,o⟩ | ⟨id,rfl,o⟩
  ·refine tt ?_;exact A6 (by rw [e]; rfl) o.sub
  ·refine tt ?_;refine Al o rfl fun H o=>tt ?_;exact A6 rfl o.sub
end Go.Proofs.Shf
namespace Go.Shf
open Go.AW
def SI (f : SF) (s : List Int) (i : Nat) (b : Int) : Lk:=⟨(i : Int),indexOf s (ix (ix f.shape.comp (s.getD i default)) b),ix f.AU b,My (ix (B0 f s) (indexOf s (ix (ix f.shape.comp (s.getD i default)) b)))⟩
theorem o8 (f : SF) (s : List Int) (i : Nat) : ((E5 f.shape s i f.shape.AJ.length).map (Jn f s))=(outs f.shape (ix f.shape.to (s.getD i default))).map (SI f s i):=by
 rw [E5,outs,List.map_map,List.map_map]
 rfl
theorem Wr (f : SF) (s : List Int) (k : Nat) : (EM f.shape s (k+1)).map (Jn f s)=(EM f.shape s k).map (Jn f s)++(outs f.shape (ix f.shape.to (s.getD k default))).map (SI f s k):=by
 rw [JB,List.map_append,o8]
theorem gr {f : SF} {x : Int} {s : List Int} (h : f.Shape) (hs : f.shape.Az x s) : Ju (B0 f s) (E9 f s):=by
 refine ⟨YU h hs,fun l hl=>?_,fun l hl y hy=>?_⟩
 ·obtain ⟨r,hr,rfl⟩:=List.mem_map.mp hl
  rfl
 ·obtain ⟨r,hr,rfl⟩:=List.mem_map.mp hl
  obtain ⟨i,hi,b,hb,e,rfl⟩:=GM.mp hr
  have hx:=F6 h hs hi hb e
  have ha:=h.act b (by rw [h.al]; exact hb);simp only [Jn,H8,List.getD_cons_zero,List.getD_cons_succ,AH] at hy ⊢
  have h1:=ha.2 y hy
  have h3:=(DG h hs hx.1.2).1
  have e2 : ix (B0 f s) (indexOf s (ix (ix f.shape.comp (s.getD i default)) b))=ix f.A4 (f.shape.to.getD b default):=by
   have h4:=hx.2.1;simp only [ix] at h3 h4 ⊢;rw [h3,h4]
   have h5:=hx.2.2;simp only [ix,Int.toNat_natCast] at h5;simp only [Int.toNat_natCast];rw [h5]
  simp only [ix,Int.toNat_natCast] at e2 h1 ⊢;rw [e2]; exact h1
end Go.Shf
namespace Go.Proofs.Shf
open Go.AW Go.Proofs Go.Shf
theorem eP (B : Nat) (f : SF) (h : f.Shape) (x : Int) (s : List Int) (hs : f.shape.Az x s) : PB B 166 [.ptr f.cells,iL s] (.CG [iL (B0 f s),mL Q9 (E9 f s)]):=by
 refine ⟨fun H0=>c166.go fun Gi=>?_⟩
 have hm:=h.is.1.m
 have F3:=h.is.1.o
 have IQ:=h.is.1.HN
 have Fg:=h.sl
 have Np:=h.al
 have wK:=hs.len;refine tt ?_;refine Ae (.nil _) fun Cq H o=>tt ?_;refine Ae o fun Ea H o=>tt ?_
 refine AD [0,1,6,18,19] (G:=Nat × Nat) (fun k g=>[(7,some (.buf g.1 k)),(8,some (.buf g.2 ((EM f.shape s k).map (Jn f s)).length)),(20,some (.int .i64 (k : Int)))])
  (fun k g H=>AA H0 H [(g.2,.cells 3 (flat (((EM f.shape s k).map (Jn f s)).map Q9)) 0),(g.1,.cells 1 (((B0 f s).take k).map iI) 0)]) s.length (Cq,Ea) o rfl ?_
 clear o
 rintro k ⟨Cq,Ea⟩ H hk o;dsimp only at o;refine tt ?_;apply bk <;> intro h1
 ·have AR:=A7 h1
  have w:=ws k
  have Kk:=hs.arr (AE.mpr ⟨k,AR,rfl⟩)
  have DS:=h.is.1.Cb Kk.1.2
  have n8 : ix f.A4 (ix f.shape.to (s.getD k default))=(B0 f s).getD k default:=(DG h hs AR).1.symm
  have Fc : (B0 f s).length=s.length:=by simp [B0]
  refine tt ?_;refine ⟨AR,⟨Kk.1.1,by omega⟩,⟨DS.1,by omega⟩, ?_⟩;rw [n8];refine Ad (f:=iI) ((B0 f s).getD k default) o.swap rfl (by rw [List.length_take]; omega) (by rw [List.length_take]; simp only [AL]; omega) fun Cq H o=>?_;rw [← B9 _ (by omega)] at o ⊢;refine tt ?_;refine ⟨⟨Kk.1.1,by omega⟩, ?_⟩;refine (GY B f.shape _).go fun _=>?_
  generalize hL : outs f.shape (ix f.shape.to (s.getD k default))=L at *;refine tt ?_
  have l5 : L.length≤40:=by
   rw [← hL,outs,List.length_map];refine Nat.le_trans (List.length_filter_le _ _) ?_;rw [List.length_range]; omega
  have jw:=GO f.shape s k
  have hMl2 : ((EM f.shape s k).map (Jn f s)).length≤1600:=by
   rw [List.length_map];refine Nat.le_trans jw (Nat.le_trans (Nat.mul_le_mul (show k≤40 by omega) hm) (by omega))
  generalize hM : (EM f.shape s k).map (Jn f s)=M at *
  have w2 : ((B0 f s).take (k+1)).length=k+1:=by rw [List.length_take]; omega
  rw [w2]
  refine AD [0,1,6,7,9,10,18,19,20,49,50] (G:=Nat) (fun j g=>[(8,some (.buf g (M++(L.take j).map (SI f s k)).length)),(51,some (.int .i64 (j : Int)))])
   (fun j g H=>AA H0 H [(g,.cells 3 (flat ((M++(L.take j).map (SI f s k)).map Q9)) 0),(Cq,.cells 1 (((B0 f s).take (k+1)).map iI) 0)]) L.length Ea (by simpa using o.swap) (by simp only [List.take_zero,List.map_nil,List.append_nil]; rfl) ?_
  clear o
  rintro j Ea H hj o
  replace o : AA H0 H [(Ea,.cells 3 (flat ((M++(L.take j).map (SI f s k)).map Q9)) 0),(Cq,.cells 1 (((B0 f s).take (k+1)).map iI) 0)]:=o;refine tt ?_;apply bk <;> intro h2
  ·have Ah:=A7 h2
   have w3:=ws j
   have hLj : L.getD j default∈L:=AE.mpr ⟨j,Ah,rfl⟩;rw [← hL] at hLj
   have hb:=BT.mp hLj;rw [hL] at hb
   generalize QC : L.getD j default=b at *;refine tt ?_;refine ⟨Ah, ?_⟩;rw [QC]
   have Md:=h.is.1.cl
   have kr:=h.is.1.row (s.getD k default).toNat Kk.1.2;refine ⟨_,(CH B f.shape (s.getD k default) b ⟨Kk.1.1,by omega⟩ ⟨hb.1,by simp only [ix]; omega⟩).run,tt ?_⟩;refine ⟨_,(Lg B s _).run,⟨hb.1,by omega⟩, ?_⟩
   have rO : ∀ z : Int,(AV.int .i64 z).cells=[.int .i64 z]:=fun _=>rfl;simp only [rO,FI,HE,List.set_cons_zero,List.set_cons_succ];refine ⟨by simp,⟨rfl,by simp only [Bi,CR]; exact ⟨rfl,rfl,rfl,trivial⟩⟩, ?_⟩;refine J1 (f:=Q9) (SI f s k b) o rfl rfl (by simp only [List.length_append,List.length_map,List.length_take,AL]; omega) fun Gf H o=>?_
   have e : (M++(L.take j).map (SI f s k))++[SI f s k b]=M++(L.take (j+1)).map (SI f s k):=by
    rw [B9 L Ah,QC,List.map_append,← List.append_assoc]; rfl
   rw [e] at o ⊢;refine tw w3 ?_;exact A5 Gf Ah o rfl
  ·have Ah:=A9 h2
   obtain rfl : j=L.length:=by omega
   have e:=Wr f s k;rw [hM,hL] at e;rw [List.take_length,← e] at o ⊢;refine tw w ?_;exact A5 (Cq,Ea) AR o rfl
 ·have AR:=A9 h1
  obtain rfl : k=s.length:=by omega
  refine tt ?_;refine Al o.swap ?_ fun H o=>?_
  ·simp [B0]
  refine Ru o rfl fun H o=>tt ?_;exact A6 (by rw [List.take_of_length_le (by simp [B0])]; rfl) o.sub
theorem Mo (B : Nat) (f : SF) (h : f.Shape) (x : Int) (s : List Int) (hs : f.shape.Az x s) (most : Nat) (FY : most≤1048576) :
  PB B 93 [.ptr f.cells,iL s,.int .i64 most] (.CG [BA ((C8 f s).take (most+1)),.bool (decide ((C8 f s).length≤most))]):=by
 refine ⟨fun H0=>c93.go fun Gi=>?_⟩
 have hm:=h.is.1.m
 have wK:=hs.len
 have Fc : (B0 f s).length=s.length:=by simp [B0]
 refine tt ?_;refine (eP B f h x s hs).go fun _=>tt ?_;refine (fW B (B0 f s) (E9 f s) (gr h hs) (by omega) (fun i hi=>?_) ?_ most FY).go fun _=>?_
 ·have:=(DG h hs (i:=i) (by omega)).2.2;omega
 ·rw [E9,List.length_map];refine Nat.le_trans (GO f.shape s s.length) (Nat.le_trans (Nat.mul_le_mul (show s.length≤40 by omega) hm) (by omega))
 refine tt ?_;exact A6 rfl (.refl _)
end Go.Proofs.Shf
namespace Go.Shf
open Go.AW Go.Proofs.Shf
abbrev kB : Int→AV:=AV.int .u8
instance : One kB:=⟨fun _=>rfl,fun _=>rfl⟩
def Dy (L : List (List Int)) : List Int:=L.flatMap fun l=>l.map IntKind.u8.wrap++[255]
def NP (L : List (List Int)) : List UInt8:=(Dy L).map fun n=>UInt8.ofNat n.toNat
theorem RE (L : List (List Int)) (l : List Int) : Dy (L++[l])=Dy L++l.map IntKind.u8.wrap++[255]:=by
 simp [Dy]
theorem UF (A C : List (List Int)) : Dy (A++C)=Dy A++Dy C:=by simp [Dy]
theorem SH (L : List (List Int)) (k : Nat) : (Dy (L.take k)).length≤(Dy L).length:=by
 have : Dy L=Dy (L.take k)++Dy (L.drop k):=by rw [← UF,List.take_append_drop]
 rw [this,List.length_append]; omega
theorem dV (L : List (List Int)) : L.length≤(Dy L).length:=by
 induction L with
 | nil=>simp
 | cons a L ih =>
  have : Dy (a::L)=Dy [a]++Dy L:=UF [a] L;rw [this,List.length_append]
  have : 1≤(Dy [a]).length:=by simp [Dy]
  simp only [List.length_cons]; omega
theorem eQ (L : List (List Int)) {k : Nat} (hk : k<L.length) : (Dy (L.take k)).length+(L.getD k default).length+1≤(Dy L).length:=by
 have h1:=SH L (k+1);rw [B9 L hk,RE] at h1;simp only [List.length_append,List.length_map,List.length_cons,List.length_nil] at h1;omega
def Rs (L : List (List Int)) : Nat→List AV × List AV
 | 0=>([],[])
 | k+1=>Il (.str (NP [L.getD k default])) (iI k) (Rs L k).1 (Rs L k).2
theorem Te (k x : AV) (hk : ∃ s,k=.str s) : ∀ (ks vs : List AV),(∀ a,a∈ks→∃ s,a=.str s)→∀ a,a∈(Il k x ks vs).1→∃ s,a=.str s
 | [],_,h,a,ha=>by simp [Il] at ha; subst ha; exact hk
 | b::ks,[],h,a,ha=>by simp [Il] at ha; subst ha; exact hk
 | b::ks,v::vs,h,a,ha=>by
  simp only [Il] at ha
  split at ha
  ·simp only [List.mem_cons] at ha
   rcases ha with rfl | ha
   ·exact hk
   ·exact h a (by simp [ha])
  ·simp only [List.mem_cons] at ha
   rcases ha with rfl | ha
   ·exact h a (by simp)
   ·exact Te k x hk ks vs (fun c hc=>h c (by simp [hc])) a ha
theorem Xy (L : List (List Int)) : ∀ k a,a∈(Rs L k).1→∃ s,a=.str s
 | 0,a,h=>by simp [Rs] at h
 | k+1,a,h=>Te _ _ ⟨_,rfl⟩ _ _ (Xy L k) a h
theorem M1 (L : List (List Int)) (k : Nat) (s : List UInt8) : Li 1 (.str s) (Rs L k).1:=⟨rfl,fun a ha=>by obtain ⟨t,rfl⟩:=Xy L k a ha; rfl⟩
end Go.Shf
namespace Go.Proofs.Shf
open Go.AW Go.Proofs Go.Shf
theorem We (B : Nat) (L : List (List Int)) (hb : (Dy L).length≤1000000) : PB B 192 [BA L] (.str (NP L)):=by
 refine ⟨fun H0=>yE.go fun Gi=>?_⟩
 have hL : L.length≤(Dy L).length:=dV L;refine tt ?_;refine Ae (.nil _) fun Ce H o=>tt ?_
 refine AD [9,10] (G:=Nat) (fun k g=>[(3,some (.buf g (Dy (L.take k)).length)),(11,some (.int .i64 (k : Int)))])
  (fun k g H=>AA H0 H [(g,.cells 1 ((Dy (L.take k)).map kB) 0)]) L.length Ce o rfl ?_
 clear o
 rintro k Ce H hk o
 replace o : AA H0 H [(Ce,.cells 1 ((Dy (L.take k)).map kB) 0)]:=o;refine tt ?_;apply bk <;> intro h1
 ·have AR:=A7 h1
  have w:=ws k;refine tt ?_;refine ⟨AR, ?_⟩
  have sO:=eQ L AR
  generalize hl : L.getD k default=l at *
  generalize hP : Dy (L.take k)=P at *
  have hP2 : Dy (L.take (k+1))=P++l.map IntKind.u8.wrap++[255]:=by rw [B9 L AR,RE,hP,hl]
  refine AD [9,10,11,15,16] (G:=Nat) (fun j g=>[(3,some (.buf g (P++(l.take j).map IntKind.u8.wrap).length)),(17,some (.int .i64 (j : Int)))])
   (fun j g H=>AA H0 H [(g,.cells 1 ((P++(l.take j).map IntKind.u8.wrap).map kB) 0)]) l.length Ce (by simpa using o) (by simp only [List.take_zero,List.map_nil,List.append_nil]; rfl) ?_
  clear o
  rintro j Ce H hj o
  replace o : AA H0 H [(Ce,.cells 1 ((P++(l.take j).map IntKind.u8.wrap).map kB) 0)]:=o;refine tt ?_;apply bk <;> intro h2
  ·have Ah:=A7 h2
   have w2:=ws j;refine tt ?_;refine ⟨Ah, ?_⟩;refine Ad (f:=kB) (IntKind.u8.wrap (l.getD j default)) o rfl rfl (by simp only [List.length_append,List.length_map,List.length_take,AL]; omega) fun Gf H o=>?_
   have e : (P++(l.take j).map IntKind.u8.wrap)++[IntKind.u8.wrap (l.getD j default)]=P++(l.take (j+1)).map IntKind.u8.wrap:=by
    rw [B9 l Ah,List.map_append,← List.append_assoc]; rfl
   rw [e] at o ⊢;refine tw w2 ?_;exact A5 Gf Ah o rfl
  ·have Ah:=A9 h2
   obtain rfl : j=l.length:=by omega
   rw [List.take_length] at o ⊢;refine tt ?_;refine Ad (f:=kB) 255 o rfl rfl (by simp only [List.length_append,List.length_map,AL]; omega) fun Gf H o=>?_;rw [← hP2] at o ⊢;refine tw w ?_;exact A5 Gf AR o rfl
 ·have AR:=A9 h1
  obtain rfl : k=L.length:=by omega
  rw [List.take_length] at o ⊢;refine tt ?_;refine Al o rfl fun H o=>tt ?_
  have NA : Ss (some (mL kB (Dy L)))=some (∀ e,e∈(Dy L).map kB→e.isByte=true,.str (NP L)):=by
   rw [mL,kC,List.map_map]; rfl
  rw [NA];refine tt ?_;refine ⟨fun e he=>?_,A6 rfl o.sub⟩
  obtain ⟨n,_,rfl⟩:=List.mem_map.mp he
  rfl
theorem Zp (B : Nat) (L : List (List Int)) (hl : L.length≤1000000) (hb : ∀ l,l∈L→l.length≤1000) : PB B 255 [BA L] (.IU (Rs L L.length).1 (Rs L L.length).2):=by
 refine ⟨fun H0=>gz.go fun Gi=>tt ?_⟩;refine OW (.nil _) fun Ce H o=>tt ?_
 refine AD [3,7,8] (G:=Unit) (fun k g=>[(9,some (.int .i64 (k : Int)))])
  (fun k g H=>AA H0 H [(Ce,.map (Rs L k).1 (Rs L k).2)]) L.length () o rfl ?_
 clear o
 rintro k _ H hk o
 replace o : AA H0 H [(Ce,.map (Rs L k).1 (Rs L k).2)]:=o;refine tt ?_;apply bk <;> intro h1
 ·have AR:=A7 h1
  have w:=ws k;refine tt ?_;refine ⟨AR, ?_⟩
  have hm : L.getD k default∈L:=AE.mpr ⟨k,AR,rfl⟩;refine (We B [L.getD k default] (by have:=hb _ hm; simp [Dy]; simp only [gE] at this; omega)).go fun _=>?_
  have hg : H.get Ce=some (.map (Rs L k).1 (Rs L k).2):=o.h0;refine tt ?_;rw [hg];refine tt ?_;refine ⟨M1 L k _, ?_⟩;refine tw w ?_;exact A5 () AR (o.put _) rfl
 ·have AR:=A9 h1
  obtain rfl : k=L.length:=by omega
  refine tt ?_;refine lN 3 o rfl fun H o=>AY ?_;refine tt ?_;exact A6 rfl o.sub
end Go.Proofs.Shf
namespace Go.Shf
open Go.AW
structure NQ where
 shape : Ay
 A4 : List Int
 oG : List (List Int)
 BI : List (List (List Int))
 marks : List (List Bool)
@[go_sem] def NQ.cls (v : NQ) : List AV:=[iI v.shape.AO,iL v.shape.AJ,iL v.shape.to,iL v.shape.Av,BA v.shape.comp,iL v.A4,BA v.oG,Ft v.BI]
@[go_sem] def NQ.cells (v : NQ) (cnt : AV) : List AV:=[.ptr v.cls,.ptr v.shape.cells,mL (mL AV.bool) v.marks,cnt]
def SE (S : List (List Int)) (m : List Bool) (f : Int) (k : Nat) : Bool:=(List.range k).all fun n=>!(m.getD n default) || decide (f∈S.getD n default)
theorem Z7 (S : List (List Int)) (m : List Bool) (f : Int) (k : Nat) : SE S m f (k+1)=(SE S m f k && (!(m.getD k default) || decide (f∈S.getD k default))):=by
 simp [SE,List.range_succ,List.all_append]
def KS (v : NQ) (x : Nat) : List Int:=(outs v.shape x).filter fun f=>SE (v.BI.getD x default) (v.marks.getD x default) f (v.marks.getD x default).length
theorem ML {α : Type} [Inhabited α] (p : α→Bool) (l : List α) {k : Nat} (hk : k<l.length) : (l.take (k+1)).filter p=(l.take k).filter p++if p (l.getD k default) then [l.getD k default] else []:=by
 have hN : l[k]=l.getD k default:=by simp [gE,hk]
 have ht : l.take (k+1)=l.take k++[l.getD k default]:=by rw [← hN]; exact (List.take_append_getElem hk).symm
 rw [ht,List.filter_append]
 congr 1
 simp only [List.filter_cons,List.filter_nil]
end Go.Shf
namespace Go.Proofs.Shf
open Go.AW Go.Proofs Go.Shf
theorem ZI (B : Nat) (v : NQ) (cnt : AV) (x : Nat) (hx : x<v.marks.length) (hs : x<v.BI.length) (hl : (v.marks.getD x default).length≤(v.BI.getD x default).length) (hm : v.shape.AJ.length≤40) (E6 : (v.marks.getD x default).length≤1000000) :
  PB B 254 [.ptr (v.cells cnt),.int .i64 x] (iL (KS v x)):=by
 refine ⟨fun H0=>c254.go fun Gi=>tt ?_⟩;refine Ae (.nil _) fun CP H o=>tt ?_
 have l5 : (outs v.shape x).length≤40:=by
  rw [outs,List.length_map];refine Nat.le_trans (List.length_filter_le _ _) ?_;rw [List.length_range]; omega
 refine (GY B v.shape x).go fun _=>?_
 generalize hL : outs v.shape x=L at *
 generalize hP : (fun f=>SE (v.BI.getD x default) (v.marks.getD x default) f (v.marks.getD x default).length)=P
 have hR : KS v x=L.filter P:=by rw [KS,hL,hP]
 rw [hR]
 generalize hM : v.marks.getD x default=M at *
 generalize hS : v.BI.getD x default=S at *;refine tt ?_
 refine AD [0,1,17,18] (G:=Nat) (fun k g=>[(5,some (.buf g ((L.take k).filter P).length)),(19,some (.int .i64 (k : Int)))])
  (fun k g H=>AA H0 H [(g,.cells 1 (((L.take k).filter P).map iI) 0)]) L.length CP o rfl ?_
 clear o
 rintro k CP H hk o
 replace o : AA H0 H [(CP,.cells 1 (((L.take k).filter P).map iI) 0)]:=o;refine tt ?_;apply bk <;> intro h1
 ·have AR:=A7 h1
  have w:=ws k;refine tt ?_;refine ⟨AR, ?_⟩
  generalize hf : L.getD k default=f at *
  have hPf : P f=SE S M f M.length:=by rw [← hP]
  refine ⟨hx, ?_⟩;rw [hM]
  refine AD [0,1,5,7,17,18,19,29,30] (G:=Unit) (fun j _=>[(8,some (.bool (SE S M f j))),(31,some (.int .i64 (j : Int)))])
   (fun j _ H'=>H'=H) M.length () rfl rfl ?_
  rintro j _ H' hj rfl;refine tt ?_;apply bk <;> intro h2
  ·have Ah:=A7 h2
   have w2:=ws j
   have iE:=Z7 S M f j
   cases hc : SE S M f j with
   | false =>
    rw [hc,Bool.false_and] at iE;refine tt ?_;refine ⟨Ah, ?_⟩;refine tw w2 ?_;exact A5 () Ah rfl (by rw [iE])
   | true =>
    rw [hc,Bool.true_and] at iE
    cases K8 : M.getD j default with
    | false =>
     rw [K8] at iE;refine tw K8 ?_;refine ⟨Ah, ?_⟩;refine tw w2 ?_;exact A5 () Ah rfl (by rw [iE]; rfl)
    | true =>
     rw [K8] at iE;refine tw K8 ?_;refine ⟨Ah,hs, ?_⟩;rw [hS];refine ⟨by omega, ?_⟩;refine (SL B (S.getD j default) f).go fun _=>?_
     have hdd : dec (f∈S.getD j default)=decide (f∈S.getD j default):=by
      by_cases e : f∈S.getD j default
      ·rw [Fx.mpr e,decide_eq_true e]
      ·rw [Oy.mpr e,decide_eq_false e]
     rw [hdd];refine tw w2 ?_;exact A5 () Ah rfl (by rw [iE]; rfl)
  ·have Ah:=A9 h2
   obtain rfl : j=M.length:=by omega
   rw [← hPf]
   have HH:=ML P L AR;rw [hf] at HH
   cases hPv : P f with
   | false =>
    refine tw w ?_;rw [hPv] at HH;simp only [Bool.false_eq_true,if_false,List.append_nil] at HH;rw [← HH] at o ⊢;exact A5 CP AR o rfl
   | true =>
    refine tt ?_;rw [hPv] at HH;simp only [if_true] at HH;refine Ad (f:=iI) f o rfl rfl (by have:=List.length_filter_le P (L.take k); rw [List.length_take] at this; simp only [AL]; omega) fun Gf H o=>?_;rw [← HH] at o ⊢;refine tw w ?_;exact A5 Gf AR o rfl
 ·have AR:=A9 h1
  obtain rfl : k=L.length:=by omega
  rw [List.take_length] at o ⊢;refine tt ?_;refine Al o rfl fun H o=>tt ?_;exact A6 rfl o.sub
end Go.Proofs.Shf
namespace Go.Shf
open Go.AW
theorem Tb {k x : AV} : ∀ {ks vs : List AV},(∀ a,a∈ks→k.T5 a=false)→vs.length=ks.length→Il k x ks vs=(ks++[k],vs++[x])
 | [],vs,_,h=>by
  have : vs=[]:=List.eq_nil_of_length_eq_zero h;subst this; rfl
 | b::ks,[],_,h=>by simp at h
 | b::ks,v::vs,h1,h=>by
  simp only [Il,h1 b (by simp),Bool.false_eq_true,if_false];rw [Tb (fun a ha=>h1 a (by simp [ha])) (by simpa using h)]
  rfl
theorem U0 : ∀ {ks : List (List UInt8)} {vs : List AV},vs.length=ks.length→∀ s,JG (.str s) (ks.map AV.str) vs=vs[ks.idxOf s]?
 | [],vs,h,i=>by
  have : vs=[]:=List.eq_nil_of_length_eq_zero h;subst this; rfl
 | k::ks,[],h,i=>by simp at h
 | k::ks,v::vs,h,i=>by
  simp only [List.map_cons,JG,AV.T5,decide_eq_true_eq,List.idxOf_cons]
  by_cases e : i=k
  ·subst e; simp
  ·have h2 : (k == i)=false:=by simpa using fun h=>e h.symm
   rw [if_neg e,U0 (by simpa using h),h2]; simp
theorem VF {a b : List Int} (ha : ∀ y,y∈a→0≤y∧y<255) (hb : ∀ y,y∈b→0≤y∧y<255) (h : NP [a]=NP [b]) : a=b:=by
 have h1 : a.map (fun y=>UInt8.ofNat (IntKind.u8.wrap y).toNat)=b.map (fun y=>UInt8.ofNat (IntKind.u8.wrap y).toNat):=by
  simp only [NP,Dy,List.flatMap_cons,List.flatMap_nil,List.append_nil,List.map_append,List.map_map] at h;exact List.append_cancel_right h
 have hw : ∀ y : Int,0≤y∧y<255→IntKind.u8.wrap y=y:=fun y hy=>by
  have e : y % 256=y:=by omega
  simp only [IntKind.wrap,IntKind.bits,IntKind.signed]
  simpa using e
 clear h
 induction a generalizing b with
 | nil=>cases b with
  | nil=>rfl
  | cons y b=>simp at h1
 | cons x a ih=>cases b with
  | nil=>simp at h1
  | cons y b =>
   simp only [List.map_cons,List.cons.injEq] at h1
   have hx:=ha x (by simp)
   have hy:=hb y (by simp);rw [hw x hx,hw y hy] at h1
   have e : x=y:=by
    have h2:=congrArg UInt8.toNat h1.1;simp only [UInt8.toNat_ofNat'] at h2;omega
   rw [e,ih (fun z hz=>ha z (by simp [hz])) (fun z hz=>hb z (by simp [hz])) h1.2]
theorem pP {L : List (List Int)} (nd : L.Nodup) (hb : ∀ l,l∈L→∀ y,y∈l→0≤y∧y<255) : ∀ k,k≤L.length→Rs L k=(((L.take k).map fun l=>NP [l]).map AV.str,(List.range k).map fun i : Nat=>iI (i : Int)):=by
 intro k
 induction k with
 | zero=>intro _; rfl
 | succ k ih =>
  intro hk
  have hk : k<L.length:=by omega
  rw [Rs,ih (by omega),Tb]
  ·rw [Go.Proofs.Shf.B9 L hk,List.range_succ]; simp
  ·intro a ha;simp only [List.map_map,List.mem_map,Function.comp_apply] at ha
   obtain ⟨l,hl,rfl⟩:=ha;simp only [AV.T5,decide_eq_false_iff_not]
   intro e
   have hm : L.getD k default∈L:=AE.mpr ⟨k,hk,rfl⟩
   have:=VF (hb _ hm) (hb _ (List.mem_of_mem_take hl)) e;rw [← this] at hl
   obtain ⟨j,hj,e2⟩:=AE.mp hl;rw [List.length_take] at hj
   have e3 : L.getD j default=L.getD k default:=by
    rw [← e2]; simp [gE,List.getElem?_take,show j<k by omega]
   have h1:=Bk nd (k:=j) (by omega)
   have h2:=Bk nd hk;rw [e3,h2] at h1;omega
  ·simp
   omega
theorem YM {L : List (List Int)} (nd : L.Nodup) (hb : ∀ l,l∈L→∀ y,y∈l→0≤y∧y<255) {m : List Int} (hm : m∈L) : JG (.str (NP [m])) (Rs L L.length).1 (Rs L L.length).2=some (iI (indexOf L m)):=by
 obtain ⟨k,hk,rfl⟩:=AE.mp hm;rw [pP nd hb _ (Nat.le_refl _),List.take_length,U0 (by simp),Bk nd hk]
 have : (L.map fun l=>NP [l]).idxOf (NP [L.getD k default])=k:=by
  have Hq : (L.map fun l=>NP [l]).Nodup:=by
   rw [List.Nodup,List.pairwise_map];refine List.Pairwise.imp_of_mem ?_ nd
   intro a b ha NA Bp e;exact Bp (VF (hb a ha) (hb b NA) e)
  have Hm : k<(L.map fun l=>NP [l]).length:=by simpa using hk
  have:=Hq.idxOf_getElem k Hm
  simpa [gE,hk] using this
 rw [this]
 simp [hk]
end Go.Shf
namespace Go.AW
theorem CZ.focus {α β : Type} {f : α→AV} {g : β→AV} {H0 H : AB} {x : Nat × AF} {p r : List (Nat × AF)} {X Y : AV} {A : List α} {C : List β} (h : CZ f H0 H (x::(p++r)) X A) (hp : QA g p Y C) :
  ∃ q,QA f q X A∧CZ g H0 H (x::(r++q)) Y C:=by
 obtain ⟨q,o,hq⟩:=h.split;refine ⟨q,hq,CZ.mk (p:=p) (o.perm ?_) hp⟩
 have:=Tq q [x] p r;refine (by simpa using this : (q++x::(p++r)).Perm (p++x::(q++r))).trans ?_;exact List.Perm.append_left p (.cons _ List.perm_append_comm)
end Go.AW
namespace Go.Shf
open Go.AW
def nJ (L : List (List Int)) : AV:=.IU (Rs L L.length).1 (Rs L L.length).2
instance : One nJ:=⟨fun _=>rfl,fun _=>rfl⟩
def EJ (v : NQ) : List (List Int):=(List.range v.marks.length).map (KS v)
end Go.Shf
namespace Go.Proofs.Shf
open Go.AW Go.Proofs Go.Shf
@[go_sem] noncomputable def Fu (f : SF) (V : List (List Int)) : AV:=.ptr [.ptr f.cells,iI f.shape.AO,iL f.shape.AJ,iL f.shape.to,iL f.shape.Av,BA f.shape.comp,iL (BM f V),BA (BZ f V),BA V,Ft (BN f V),mL nJ (BN f V)]
open Classical in
noncomputable def Kg (f : SF) (V : List (List Int)) : AV:=if Bu f V then Fu f V else .G1
theorem YX (B : Nat) (v : NQ) (cnt : AV) (f : SF) (h : f.Shape) (FL : v.shape=f.shape) (E6 : (v.marks.length : Int)=f.shape.AO) (Fg : v.BI.length=v.marks.length)
  (Jm : ∀ x,x<v.marks.length→(v.marks.getD x default).length≤(v.BI.getD x default).length∧(v.marks.getD x default).length≤1000000)
  (c : Ba f.shape (EJ v)) : PB B 177 [.ptr (v.cells cnt),.ptr f.cells] (.CG [Kg f (EJ v),.bool (dec (Bu f (EJ v)))]):=by
 obtain ⟨c0,sz,pl,sv,mk⟩:=v
 obtain rfl : c0=f.shape:=FL;refine ⟨fun H0=>wW.go fun Gi=>?_⟩
 have hm:=h.is.1.m
 have F3:=h.is.1.o
 have IQ:=h.is.1.HN
 have Fc:=h.sl
 have Np:=h.al;simp only at E6 Fg Jm
 generalize hv : (⟨f.shape,sz,pl,sv,mk⟩ : NQ)=v at c ⊢
 have kn : v.marks=mk:=by rw [← hv]
 have N5 : v.shape=f.shape:=by rw [← hv]
 have vd : v.BI=sv:=by rw [← hv]
 have hVl : (EJ v).length=mk.length:=by simp [EJ,kn]
 have hLx : ∀ x,x<mk.length→(EJ v).getD x default=KS v x:=fun x hx=>by rw [EJ,AX _ _ (by rw [kn]; exact hx)]
 generalize hV : EJ v=V at *
 have mH : v.cells cnt=[.ptr v.cls,.ptr f.shape.cells,mL (mL AV.bool) mk,cnt]:=by rw [NQ.cells,N5,kn]
 generalize hcls : v.cls=cls at mH;rw [mH];refine tt ?_;refine (Ka B f.shape).go fun _=>tt ?_
 let st : AV→AV→AV→AV→AV→AF:=fun x6 x7 x8 x9 x10=>.cells 11 [.ptr f.cells,iI f.shape.AO,iL f.shape.AJ,iL f.shape.to,iL f.shape.Av,BA f.shape.comp,x6,x7,x8,x9,x10] 0
 refine nb (.nil _) fun Cq H o=>tt ?_
 refine AD [0,1,6,7] (G:=(AV × AV × AV × AV) × List (Nat × AF) × List (Nat × AF) × List (Nat × AF)) (fun k g=>[(8,some (.int .i64 (k : Int)))])
  (fun k g H=>CZ iL H0 H ((Cq,st g.1.1 .A1 g.1.2.1 g.1.2.2.1 g.1.2.2.2)::(g.2.1++(g.2.2.1++g.2.2.2))) g.1.2.1 (V.take k)∧QA BA g.2.1 g.1.2.2.1 ((List.range k).map (B2 f V)) ∧
   QA nJ g.2.2.1 g.1.2.2.2 ((List.range k).map (B2 f V))∧QA iI g.2.2.2 g.1.1 ((List.range k).map (DH f V))∧∀ x,x<k→(B2 f V x).length≤16)
  f.shape.AO.toNat ((.A1,.A1,.A1,.A1),[],[],[]) ⟨.inl ⟨rfl,rfl,o⟩,.inl ⟨rfl,rfl,rfl⟩,.inl ⟨rfl,rfl,rfl⟩,.inl ⟨rfl,rfl,rfl⟩,by simp⟩ rfl ?_
 clear o
 rintro k ⟨⟨X6,X8,X9,X10⟩,p9,p10,p6⟩ H hk ⟨hX,h9,Yi,h6,Ak⟩;dsimp only at hX h9 Yi h6;refine tt ?_;apply bk <;> intro h1
 ·have AR:=A7 h1
  have sO : k<mk.length:=by omega
  have w:=ws k;refine tt ?_
  have Hm:=Jm k sO;rw [← kn,← vd] at Hm
  have Kl : AV.ptr [.ptr cls,.ptr f.shape.cells,mL (mL AV.bool) mk,cnt]=.ptr (v.cells cnt):=by rw [mH]
  refine (show PB B 254 [.ptr [.ptr cls,.ptr f.shape.cells,mL (mL AV.bool) mk,cnt],.int .i64 k] (iL (KS v k)) from by
   rw [Kl]; exact ZI B v cnt k (by rw [kn]; exact sO) (by rw [vd]; omega) Hm.1 (by rw [N5]; exact hm) Hm.2).go fun _=>?_
  rw [← hLx k sO];refine tt ?_;refine (Mo B f h k (V.getD k default) (c.sv k (by omega)) 16 (by omega)).go fun _=>?_
  have Q5 : C8 f (V.getD k default)=B2 f V k:=rfl;rw [Q5]
  generalize hF : B2 f V k=F at *;refine tt ?_;apply bk <;> intro h2
  ·refine tt ?_
   have Ah : 16<F.length:=by simpa using h2
   have ES : ¬ Bu f V:=fun e=>by have:=e k (by omega); rw [hF] at this; omega
   have Cs : H0.sub H:=by obtain ⟨_,oo,_⟩:=hX.split; exact oo.sub
   refine A6 ?_ Cs;rw [Kg,if_neg ES,Aa ES]
  ·have Ah : F.length≤16:=by simpa using h2
   have wU : F.take 17=F:=List.take_of_length_le (by omega);rw [wU];refine tt ?_;refine Af hX.obj (by simp [st]) (tt ?_);refine hX.app (V.getD k default) rfl (by rw [List.length_take]; simp only [AL]; omega) fun Av H o=>?_;rw [← B9 V (by omega)] at o ⊢;refine tt ?_;refine sw o.swap fun H o=>?_
   have hX : CZ iL H0 H ((Cq,st X6 .A1 (.buf Av (V.take (k+1)).length) X9 X10)::(p9++(p10++p6))) (.buf Av (V.take (k+1)).length) (V.take (k+1)):=.inr ⟨Av,rfl,o.swap⟩
   generalize (AV.buf Av (V.take (k+1)).length)=X8 at hX;clear o
   obtain ⟨p8,h8,hX⟩:=hX.focus h9;refine tt ?_;refine Af hX.obj (by simp [st]) (tt ?_)
   obtain ⟨Fk,uo⟩ : ∃ Fk,Fk=(List.range (k+1)).map (B2 f V):=⟨_,rfl⟩
   obtain ⟨Sk,uj⟩ : ∃ Sk,Sk=(List.range (k+1)).map (DH f V):=⟨_,rfl⟩
   have e9 : (List.range k).map (B2 f V)++[F]=Fk:=by rw [uo,List.range_succ,List.map_append,← hF]; rfl
   have e6 : (List.range k).map (DH f V)++[(F.length : Int)]=Sk:=by
    rw [uj,List.range_succ,List.map_append,← hF]; rfl
   have n8:=c.sv k (by omega)
   have wK:=n8.len;rw [List.append_assoc] at hX;refine hX.app F rfl (by simp only [List.length_map,List.length_range,AL]; omega) fun Av H o=>?_;rw [e9] at o ⊢;refine tt ?_;refine sw o.swap fun H o=>?_
   have hX : CZ BA H0 H ((Cq,st X6 .A1 X8 (.buf Av Fk.length) X10)::(p10++(p6++p8))) (.buf Av Fk.length) Fk:=.inr ⟨Av,rfl,o.swap⟩
   generalize (AV.buf Av Fk.length)=X9 at hX;clear o
   obtain ⟨p9,h9,hX⟩:=hX.focus Yi;rw [List.append_assoc] at hX;refine tt ?_;refine Af hX.obj (by simp [st]) (tt ?_);refine ⟨_,(Zp B F (by omega) fun l hl=>?_).run, ?_⟩
   ·rw [← hF] at hl
    have:=(((C5 h n8).mem l).mp hl).len;omega
   refine tt ?_;refine ⟨⟨rfl,fun c hc=>by cases List.mem_singleton.mp hc; rfl⟩, ?_⟩;refine hX.app (f:=nJ) F rfl (by simp only [List.length_map,List.length_range,AL]; omega) fun Av H o=>?_;rw [e9] at o ⊢;refine tt ?_;refine sw o.swap fun H o=>?_
   have hX : CZ nJ H0 H ((Cq,st X6 .A1 X8 X9 (.buf Av Fk.length))::(p6++(p8++p9))) (.buf Av Fk.length) Fk:=.inr ⟨Av,rfl,o.swap⟩
   generalize (AV.buf Av Fk.length)=X10 at hX;clear o
   obtain ⟨p10,Yi,hX⟩:=hX.focus h6;rw [List.append_assoc] at hX;refine tt ?_;refine Af hX.obj (by simp [st]) (tt ?_);refine hX.app (F.length : Int) rfl (by simp only [List.length_map,List.length_range,AL]; omega) fun Av H o=>?_;rw [e6] at o ⊢;refine tt ?_;refine sw o.swap fun H o=>?_
   have hX : CZ iI H0 H ((Cq,st (.buf Av Sk.length) .A1 X8 X9 X10)::(p8++(p9++p10))) (.buf Av Sk.length) Sk:=.inr ⟨Av,rfl,o.swap⟩
   generalize (AV.buf Av Sk.length)=X6 at hX;clear o
   obtain ⟨p6,h6,hX⟩:=hX.focus h8;rw [List.append_assoc] at hX;rw [uo] at h9 Yi;rw [uj] at h6;refine tw w ?_;refine A5 ((X6,X8,X9,X10),p9,p10,p6) (by omega) ⟨hX,h9,Yi,h6,fun x hx=>?_⟩ rfl
   by_cases e : x=k
   ·subst e; rw [hF]; exact Ah
   ·exact Ak x (by omega)
 ·have AR:=A9 h1;refine tt ?_
  have sS : k=V.length:=by omega
  have Bc : Bu f V:=fun x hx=>Ak x (by omega);rw [Kg,if_pos Bc,Aw Bc]
  have hVk : V.take k=V:=List.take_of_length_le (by omega);rw [hVk] at hX
  have uo : (List.range k).map (B2 f V)=BN f V:=by rw [sS]; rfl
  have uj : (List.range k).map (DH f V)=BM f V:=by rw [sS]; rfl
  rw [uo] at h9 Yi;rw [uj] at h6;refine Ec 8 hX rfl fun H o=>?_;clear hX;have o:=s1 o
  have hX:=CZ.mk (o.perm List.perm_middle.symm) h9;clear o;refine Ec 9 hX rfl fun H o=>?_;clear hX;have o:=s1 o
  have hX:=CZ.mk (o.perm List.perm_middle.symm) Yi;clear o;refine Ec 10 hX rfl fun H o=>?_;clear hX;have o:=s1 o
  have hX:=CZ.mk (p:=p6) (l:=[_]) (o.perm (List.perm_append_singleton _ _).symm) h6;clear o;refine Ec 6 hX rfl fun H o=>AY ?_;clear hX;have o:=s1 o
  generalize HM : st=st2;clear Ak h9 Yi h6 HM st2 st
  let st : AV→AF:=fun x7=>.cells 11 [.ptr f.cells,iI f.shape.AO,iL f.shape.AJ,iL f.shape.to,iL f.shape.Av,BA f.shape.comp,iL (BM f V),x7,BA V,Ft (BN f V),mL nJ (BN f V)] 0
  refine tt ?_
  refine AD [6,7,98] (G:=AV) (fun a g=>[(99,some (.int .i64 (a : Int)))])
   (fun a X H=>CZ iL H0 H [(Cq,st X)] X ((List.range a).map (Gw f V))) f.shape.AJ.length .A1 (.inl ⟨rfl,rfl,o⟩) rfl ?_
  clear o
  rintro a X H ha hX
  replace hX : CZ iL H0 H [(Cq,st X)] X ((List.range a).map (Gw f V)):=hX;refine tt ?_;apply bk <;> intro h2
  ·have Ah:=A7 h2
   have w2:=ws a
   have Ge : 0≤(a : Int)∧(a : Int).toNat<f.shape.AJ.length:=⟨by omega,by simpa using Ah⟩
   have JP:=h.is.1.Cn Ge.2
   have DS:=h.is.1.Cb Ge.2;simp only [AH] at JP DS
   obtain ⟨q,o,hq⟩:=hX.split;clear hX;refine tt ?_;refine ⟨Ah,by omega, ?_⟩;refine Ag iI o fun BQ H o=>tt ?_
   have jq : ix (BN f V) (f.shape.AJ.getD a default)=B2 f V (f.shape.AJ.getD a default).toNat:=by rw [ix,BN,AX _ _ (by omega)]
   have hF1 : ix (BN f V) (f.shape.to.getD a default)=B2 f V (f.shape.to.getD a default).toNat:=by rw [ix,BN,AX _ _ (by omega)]
   have gC : (BN f V).length=V.length:=by simp [BN]
   have hfs0 : (B2 f V (f.shape.AJ.getD a default).toNat).length≤16:=Bc _ (by omega)
   have KB:=c.AJ h.is Ge
   have CF:=c.to h.is Ge;simp only [AH] at KB CF
   have hl1:=CF.len
   have Lq : Gw f V a=(B2 f V (f.shape.AJ.getD a default).toNat).map fun t=>indexOf (B2 f V (f.shape.to.getD a default).toNat) (Bz f.shape V a t):=rfl
   have Vd : ∀ t,t∈B2 f V (f.shape.AJ.getD a default).toNat→Qc f (ix V (f.shape.AJ.getD a default)) t:=fun t ht=>((C5 h KB).mem t).mp ht
   have mc : ∀ t,t∈B2 f V (f.shape.to.getD a default).toNat↔Qc f (ix V (f.shape.to.getD a default)) t:=fun t=>(C5 h CF).mem t
   have hnd1 : (B2 f V (f.shape.to.getD a default).toNat).Nodup:=(C5 h CF).nodup
   have wD : ∀ t,t∈B2 f V (f.shape.AJ.getD a default).toNat→Bz f.shape V a t∈B2 f V (f.shape.to.getD a default).toNat:=fun t ht=>by
    rw [mc]
    have:=M7 h c Ge (t:=t) (by simp only [AH]; exact Vd t ht)
    simpa only [AH] using this
   have TE : ∀ t,t∈B2 f V (f.shape.to.getD a default).toNat→∀ y,y∈t→0≤y∧y<255:=fun t ht y hy=>by
    have Q2:=(mc t).mp ht
    obtain ⟨j,hj,rfl⟩:=AE.mp hy
    have mF : j<(ix V (f.shape.to.getD a default)).length:=by rw [← Q2.len]; exact hj
    have h1:=Q2.QF j mF
    have h2:=(DG h CF (i:=j) mF);rw [h2.1] at h2;omega
   have Py : H.get Cq=some (st X):=o.get (Cq,st X) (by simp);refine Af Py (by simp [st]) (tt ?_);refine ⟨⟨JP.1,by omega⟩, ?_⟩;rw [jq]
   generalize hF0v : B2 f V (f.shape.AJ.getD a default).toNat=F0 at *
   generalize hF1v : B2 f V (f.shape.to.getD a default).toNat=F1 at *
   refine AD [6,7,12,13,14,98,99,123,124] (G:=Nat × List Int) (fun i g=>[(15,some (.buf g.1 g.2.length)),(125,some (.int .i64 (i : Int)))])
    (fun i g H=>g.2=(F0.take i).map (fun t=>indexOf F1 (Bz f.shape V a t))∧AA H0 H ((g.1,.cells 1 (g.2.map iI) 0)::(q++[(Cq,st X)]))) F0.length (BQ,[]) ⟨by simp,o⟩ rfl ?_
   clear o Py
   rintro i ⟨BQ,row⟩ H hi ⟨B3,o⟩;dsimp only at B3 o
   have Mc : row.length=i:=by rw [B3,List.length_map,List.length_take]; omega
   refine tt ?_;apply bk <;> intro h3
   ·have B8:=A7 h3
    have w3:=ws i;refine tt ?_;refine ⟨B8, ?_⟩;refine Ag iI o fun rV H o=>?_
    have Py : H.get Cq=some (st X):=o.get (Cq,st X) (by simp);refine tt ?_;refine Af Py (by simp [st]) (tt ?_);refine ⟨⟨DS.1,by omega⟩, ?_⟩
    have hTm : F0.getD i default∈F0:=AE.mpr ⟨i,B8,rfl⟩
    generalize hT : F0.getD i default=T at *
    have hTf:=Vd T hTm
    generalize hW : ix V (f.shape.to.getD a default)=W at *
    generalize hU : ix V (f.shape.AJ.getD a default)=U at *
    have vo : f.shape.Az (f.shape.to.getD a default) W:=CF
    have hUs : f.shape.Az (f.shape.AJ.getD a default) U:=KB
    have hWl:=vo.len
    have hTl:=hTf.len
    refine AD [6,7,12,13,14,15,17,98,99,123,124,125,136,137] (G:=Nat × List Int) (fun n g=>[(18,some (.buf g.1 g.2.length)),(138,some (.int .i64 (n : Int)))])
     (fun n g H=>g.2=(W.take n).map (fun b=>ix T (indexOf U (ix (ix f.shape.comp a) b)))∧AA H0 H ((g.1,.cells 1 (g.2.map iI) 0)::(BQ,.cells 1 (row.map iI) 0)::(q++[(Cq,st X)]))) W.length (rV,[]) ⟨by simp,o⟩ rfl ?_
    clear o Py
    rintro n ⟨rV,mv⟩ H hnn ⟨iD,o⟩;dsimp only at iD o
    have hml2 : mv.length=n:=by rw [iD,List.length_map,List.length_take]; omega
    have Py : H.get Cq=some (st X):=o.get (Cq,st X) (by simp);refine tt ?_;apply bk <;> intro h4
    ·have Cr:=A7 h4
     have w4:=ws n;refine tt ?_
     have hb : W.getD n default∈W:=AE.mpr ⟨n,Cr,rfl⟩
     have QC:=vo.arr hb
     have HM:=c.st a Ge (W.getD n default) (by simp only [AH]; rw [hW]; exact hb);simp only [AH] at HM;rw [hU] at HM
     have Eo:=BD HM
     have B3:=h.is.1.L8 (a:=(a : Int)) Ge.2;simp only [AH] at B3;refine ⟨Cr, ?_⟩;refine Af Py (by simp [st]) (tt ?_);refine ⟨⟨JP.1,by omega⟩, ?_⟩;rw [hU];refine ⟨_,(CH B f.shape a (W.getD n default) ⟨by omega,by rw [h.is.1.cl]; exact Ge.2⟩ ⟨QC.1.1,by rw [AH]; omega⟩).run,tt ?_⟩;refine ⟨_,(Lg B U _).run,tt ?_⟩;try simp only [AH] at Eo
     refine ⟨⟨Eo.1,by omega⟩, ?_⟩;refine Ad (f:=iI) (ix T (indexOf U (ix (ix f.shape.comp a) (W.getD n default)))) o (by simp only [AH]) rfl (by simp only [AL]; omega) fun rV H o=>?_;refine tw w4 ?_;exact A5 (_,_) (by omega) ⟨by rw [B9 W Cr,List.map_append,iD]; rfl,o⟩ rfl
    ·have Cr:=A9 h4
     obtain rfl : n=W.length:=by omega
     rw [List.take_length] at iD
     have mD : mv=Bz f.shape V a T:=by
      rw [iD,Bz];simp only [AH];rw [hW,hU]
     refine tt ?_;refine Al o rfl fun H o=>?_
     have Py : H.get Cq=some (st X):=o.get (Cq,st X) (by simp);refine tt ?_;refine Af Py (by simp [st]) (tt ?_);refine ⟨⟨DS.1,by omega⟩,_,(We B [mv] (by simp [Dy]; omega)).run, ?_⟩;rw [hF1];simp only [nJ];refine tt ?_;refine ⟨M1 _ _ _, ?_⟩
     have bD:=wD T hTm;rw [← mD] at bD;rw [YM hnd1 TE bD];simp only [Option.getD_some];refine ⟨⟨rfl,fun c hc=>by cases List.mem_singleton.mp hc; rfl⟩, ?_⟩;refine Ad (f:=iI) (indexOf F1 mv) o rfl rfl (by simp only [AL]; omega) fun BQ H o=>?_;refine tw w3 ?_;exact A5 (_,_) (by omega) ⟨by rw [B9 F0 B8,List.map_append,hT,B3,mD]; rfl,o⟩ rfl
   ·have B8:=A9 h3
    obtain rfl : i=F0.length:=by omega
    rw [List.take_length,← Lq] at B3;refine tt ?_;refine Al o rfl fun H o=>tt ?_
    have hX : CZ iL H0 H [(Cq,st X)] X ((List.range a).map (Gw f V)):=CZ.mk o hq;clear o;refine Af hX.obj (by simp [st]) (tt ?_);refine hX.app row rfl (by simp only [List.length_map,List.length_range,AL]; omega) fun Av H o=>tt ?_;refine sw o.swap fun H o=>?_
    have e7 : (List.range a).map (Gw f V)++[row]=(List.range (a+1)).map (Gw f V):=by rw [List.range_succ,List.map_append,B3]; rfl
    have hX : CZ iL H0 H [(Cq,st (.buf Av ((List.range a).map (Gw f V)++[row]).length))] (.buf Av ((List.range a).map (Gw f V)++[row]).length) ((List.range a).map (Gw f V)++[row]):=.inr ⟨Av,rfl,o.swap⟩
    generalize (AV.buf Av ((List.range a).map (Gw f V)++[row]).length)=X7 at hX;rw [e7] at hX;refine tw w2 ?_;exact A5 X7 (by omega) hX rfl
  ·have Ah:=A9 h2
   obtain rfl : a=f.shape.AJ.length:=by omega
   refine tt ?_;refine Ec 7 hX rfl fun H o=>?_;have o:=s1 o;refine D8 7 o rfl fun H o=>AY ?_;refine tt ?_;exact A6 rfl o.sub
end Go.Proofs.Shf
namespace Go.Shf
open Go.AW
noncomputable def Di (f : SF) (V : List (List Int)) (x : Nat) : List Int:=((List.range (ix f.A4 x).toNat).map Int.ofNat).map fun e=>indexOf (B2 f V x) (CE f (V.getD x default) e)
noncomputable def BP (f : SF) (V : List (List Int)) : List (List Int):=(List.range f.A4.length).map (Di f V)
end Go.Shf
namespace Go.Proofs.Shf
open Go.AW Go.Proofs Go.Shf
theorem Xz (B : Nat) (f : SF) (h : f.Shape) (hc : f.DJ) (V : List (List Int)) (c : Ba f.shape V) (Bc : Bu f V) : PB B 180 [Fu f V] (BA (BP f V)):=by
 refine ⟨fun H0=>ay.go fun Gi=>?_⟩
 have hm:=h.is.1.m
 have F3:=h.is.1.o
 have IQ:=h.is.1.HN
 have Fc:=h.sl
 have Np:=h.al
 have VZ:=c.len;refine tt ?_;refine Ag iL (.nil _) fun Ce H o=>tt ?_
 refine AD [0,15,16] (G:=Nat) (fun k g=>[(3,some (.buf g k)),(17,some (.int .i64 (k : Int)))])
  (fun k g H=>AA H0 H [(g,.cells 1 (((List.range k).map (Di f V)).map iL) 0)]) f.A4.length Ce o rfl ?_
 clear o
 rintro k Ce H hk o
 replace o : AA H0 H [(Ce,.cells 1 (((List.range k).map (Di f V)).map iL) 0)]:=o;refine tt ?_;apply bk <;> intro h1
 ·have AR:=A7 h1
  have w:=ws k
  have EZ:=c.sv k (by omega)
  have wK:=EZ.len
  have CU:=h.DH (y:=(k : Int)) (by omega)
  have VP : ix f.A4 k=f.A4.getD k default:=by simp only [AH]
  have iY : (BN f V).getD k default=B2 f V k:=by rw [BN,AX _ _ (by omega)]
  have jn : (B2 f V k).length≤16:=Bc k (by omega)
  have aQ : (BN f V).length=V.length:=by simp [BN]
  refine tt ?_;refine ⟨AR, ?_⟩;refine Ag iI o fun F4 H o=>tt ?_;rw [VP] at CU
  refine AD [0,3,4,15,16,17,23] (G:=Nat × List Int) (fun e g=>[(6,some (.buf g.1 g.2.length)),(24,some (.int .i64 (e : Int)))])
   (fun e g H=>g.2=((List.range e).map Int.ofNat).map (fun e=>indexOf (B2 f V k) (CE f (V.getD k default) e))∧AA H0 H [(g.1,.cells 1 (g.2.map iI) 0),(Ce,.cells 1 (((List.range k).map (Di f V)).map iL) 0)]) (f.A4.getD k default).toNat (F4,[]) ⟨rfl,o⟩ rfl ?_
  clear o
  rintro e ⟨F4,row⟩ H he ⟨B3,o⟩;dsimp only at B3 o
  have Mc : row.length=e:=by rw [B3]; simp
  refine tt ?_;apply bk <;> intro h2
  ·have Ah:=A7 h2
   have w2:=ws e
   have jC : (0 : Int)≤(e : Int)∧(e : Int)<ix f.A4 (k : Int):=by rw [VP]; omega
   have IW:=HY h hc EZ jC
   have CJ : CE f (V.getD k default) e∈B2 f V k:=((C5 h EZ).mem _).mpr IW
   have Hq : (B2 f V k).Nodup:=(C5 h EZ).nodup
   have TE : ∀ t,t∈B2 f V k→∀ y,y∈t→0≤y∧y<255:=fun t ht y hy=>by
    have Q2:=((C5 h EZ).mem t).mp ht
    obtain ⟨j,hj,rfl⟩:=AE.mp hy
    have mF : j<(V.getD k default).length:=by rw [← Q2.len]; exact hj
    have h1:=Q2.QF j mF
    have h2:=(DG h EZ (i:=j) mF);rw [h2.1] at h2;omega
   have Ya : (CE f (V.getD k default) e).length=(V.getD k default).length:=by simp [CE]
   refine tt ?_;refine ⟨by omega,by omega,_,(Jx B f (V.getD k default) e (fun a ha=>?_) (by omega) (fun a ha=>?_)).run,⟨rfl,fun c hc=>by cases List.mem_singleton.mp hc; rfl⟩, ?_⟩
   ·have:=EZ.arr ha; omega
   ·have hv:=EZ.arr ha
    have h1:=h.Cw hv.1.2;rw [hv.2,VP] at h1;omega
   refine ⟨_,(We B [CE f (V.getD k default) e] (by simp only [Dy,List.flatMap_cons,List.flatMap_nil,List.append_nil,List.length_append,List.length_map,List.length_cons,List.length_nil]; omega)).run, ?_⟩;rw [iY];simp only [nJ];refine tt ?_;refine ⟨M1 _ _ _, ?_⟩;rw [YM Hq TE CJ];simp only [Option.getD_some];refine ⟨⟨rfl,fun c hc=>by cases List.mem_singleton.mp hc; rfl⟩, ?_⟩;refine Ad (f:=iI) (indexOf (B2 f V k) (CE f (V.getD k default) e)) o rfl rfl (by simp only [AL]; omega) fun Gf H o=>?_
   have e8 : row++[indexOf (B2 f V k) (CE f (V.getD k default) e)]=((List.range (e+1)).map Int.ofNat).map (fun e=>indexOf (B2 f V k) (CE f (V.getD k default) e)):=by
    rw [B3,List.range_succ]; simp
   refine tw w2 ?_;exact A5 (_,_) (by omega) ⟨e8,o⟩ rfl
  ·have Ah:=A9 h2
   have jC : e=(f.A4.getD k default).toNat:=by omega
   have E3 : row=Di f V k:=by rw [B3,jC,Di,AH]
   refine tt ?_;refine Al o rfl fun H o=>tt ?_;refine Ad (f:=iL) row o rfl (by simp) (by simp only [List.length_map,List.length_range,AL]; omega) fun Gf H o=>?_
   have e7 : (List.range k).map (Di f V)++[row]=(List.range (k+1)).map (Di f V):=by rw [List.range_succ,List.map_append,E3]; rfl
   rw [e7] at o ⊢;refine tw w ?_;exact A5 Gf (by omega) o (by simp)
 ·have AR:=A9 h1
  obtain rfl : k=f.A4.length:=by omega
  refine tt ?_;refine Al o (by simp) fun H o=>tt ?_;exact A6 rfl o.sub
end Go.Proofs.Shf
namespace Go.Shf
open Go.AW
@[go_sem] def Dt (c : Ay) (S : List (List (List Int))) (sz : AV) (pl : AV) : List AV:=[iI c.AO,iL c.AJ,iL c.to,iL c.Av,BA c.comp,sz,pl,Ft S]
def NQ.mark (v : NQ) (x : Int) (s : List Int) : Bool:=(ix v.marks x).getD (indexOf (ix v.BI x) s).toNat default
end Go.Shf
namespace Go.Proofs.Shf
open Go.AW Go.Proofs Go.Shf
theorem MX (B : Nat) (c : Ay) (S : List (List (List Int))) (sz pl : AV) (x : Int) (hx : 0≤x∧x.toNat<S.length) (s : List Int) : PB B 312 [.ptr (Dt c S sz pl),.int .i64 x,iL s] (.int .i64 (indexOf (ix S x) s)):=by
 refine ⟨fun H0=>c312.go fun Gi=>tt ?_⟩;refine ⟨hx, ?_⟩;refine (LK B (ix S x) 326 [.ptr [iL s]] (fun t=>dec (s=t)) fun t _=>(cQ B s t).run).go fun _=>?_;rw [Kv];refine tt ?_;exact A6 rfl (.refl _)
theorem rG (B : Nat) (v : NQ) (cnt : AV) (x : Int) (s : List Int) (hx : 0≤x∧x.toNat<v.BI.length) (hm : x.toNat<v.marks.length) (hs : s∈ix v.BI x) (hl : (ix v.marks x).length=(ix v.BI x).length) :
  PB B 338 [.ptr (v.cells cnt),.int .i64 x,iL s] (.bool (v.mark x s)):=by
 refine ⟨fun H0=>c338.go fun Gi=>?_⟩
 have Eo:=BD hs;refine tt ?_;refine ⟨⟨hx.1,hm⟩, ?_⟩;refine ⟨_,(MX B v.shape v.BI (iL v.A4) (BA v.oG) x hx s).run,tt ?_⟩;exact ⟨⟨Eo.1,by omega⟩,A6 rfl (.refl _)⟩
def Tu (v : NQ) (s t : List Int) : Prop:=∀ a,a∈t→v.mark (ix v.shape.to a) (Dc v.shape a s)=true
theorem W8 (B : Nat) (v : NQ) (hc : v.shape.Is) (cnt : AV) (s t : List Int) (x : Int) (hs : v.shape.Az x s) (ht : ∀ a,a∈t→0≤a∧a.toNat<v.shape.AJ.length∧ix v.shape.AJ a=x) (Fg : (v.BI.length : Int)=v.shape.AO) (E6 : v.marks.length=v.BI.length)
  (Ak : ∀ y : Int,0≤y∧y<v.shape.AO→(ix v.marks y).length=(ix v.BI y).length∧∀ s,v.shape.Az y s→s∈ix v.BI y) (htn : t.length≤1000000) :
  PB B 329 [.ptr (v.cells cnt),iL s,iL t] (.bool (dec (Tu v s t))):=by
 refine ⟨fun H0=>c329.go fun Gi=>tt ?_⟩
 refine AD [0,1,9,10] (G:=Unit) (fun k _=>[(11,some (.int .i64 (k : Int)))])
  (fun k _ H=>H=H0∧∀ i,i<k→v.mark (ix v.shape.to (t.getD i default)) (Dc v.shape (t.getD i default) s)=true) t.length () ⟨rfl,by simp⟩ rfl ?_
 rintro k _ H hk ⟨rfl,jk⟩;refine tt ?_;apply bk <;> intro h1
 ·have AR:=A7 h1
  have w:=ws k
  have ha:=ht _ (AE.mpr ⟨k,AR,rfl⟩)
  have DS:=hc.1.Cb ha.2.1
  have IQ:=hc.1.HN;refine tt ?_;refine ⟨AR,⟨ha.1,by omega⟩, ?_⟩
  generalize N7 : t.getD k default=a at *;refine ⟨_,(Xj B v.shape hc.1 a ⟨ha.1,ha.2.1⟩ s).run, ?_⟩
  have hp:=Ak _ DS;refine ⟨_,(rG B v cnt (ix v.shape.to a) (Dc v.shape a s) ⟨DS.1,by omega⟩ (by omega) (hp.2 _ ?_) hp.1).run, ?_⟩
  ·exact HA hc ⟨ha.1,ha.2.1⟩ (by rw [ha.2.2]; exact hs)
  cases K8 : v.mark (ix v.shape.to a) (Dc v.shape a s) with
  | true =>
   refine tw w ?_;exact A5 () AR ⟨rfl,AG jk (by rw [N7]; exact K8)⟩ rfl
  | false =>
   refine tt ?_;refine A6 ?_ (.refl _);rw [Aa]
   intro e
   have:=e a (by rw [← N7]; exact AE.mpr ⟨k,AR,rfl⟩);rw [K8] at this; cases this
 ·have AR:=A9 h1;refine tt ?_;refine A6 ?_ (.refl _);rw [Aw]
  intro a ha
  obtain ⟨i,hi,rfl⟩:=AE.mp ha;exact jk i (by omega)
theorem Om (B : Nat) (f : SF) (h : f.Shape) (V : List (List Int)) (c : Ba f.shape V) : PB B 103 [.agg f.cells,BA V,.agg (Cx f V)] (BA (BP f V)):=by
 refine ⟨fun H0=>yX.go fun Gi=>?_⟩
 have hm:=h.is.1.m
 have F3:=h.is.1.o
 have IQ:=h.is.1.HN
 have Fc:=h.sl
 have Np:=h.al
 have VZ:=c.len;refine tt ?_;refine Ag iL (.nil _) fun Cq H o=>tt ?_
 refine AD [1,3,5] (G:=Nat) (fun k g=>[(7,some (.buf g k)),(8,some (.int .i64 (k : Int)))])
  (fun k g H=>AA H0 H [(g,.cells 1 (((List.range k).map (Di f V)).map iL) 0)]) f.A4.length Cq o rfl ?_
 clear o
 rintro k Cq H hk o
 replace o : AA H0 H [(Cq,.cells 1 (((List.range k).map (Di f V)).map iL) 0)]:=o;refine tt ?_;apply bk <;> intro h1
 ·have AR:=A7 h1
  have w:=ws k
  have EZ:=c.sv k (by omega)
  have wK:=EZ.len
  have CU:=h.DH (y:=(k : Int)) (by omega)
  have VP : ix f.A4 k=f.A4.getD k default:=by simp only [AH]
  have iY : (BN f V).getD k default=B2 f V k:=by rw [BN,AX _ _ (by omega)]
  have aQ : (BN f V).length=V.length:=by simp [BN]
  refine tt ?_;refine Ag iI o fun Gf H o=>tt ?_;rw [VP] at CU
  refine AD [1,3,5,7,8] (G:=Nat × List Int) (fun e g=>[(9,some (.buf g.1 g.2.length)),(10,some (.int .i64 (e : Int)))])
   (fun e g H=>g.2=((List.range e).map Int.ofNat).map (fun e=>indexOf (B2 f V k) (CE f (V.getD k default) e))∧AA H0 H [(g.1,.cells 1 (g.2.map iI) 0),(Cq,.cells 1 (((List.range k).map (Di f V)).map iL) 0)]) (f.A4.getD k default).toNat (Gf,[]) ⟨rfl,o⟩ rfl ?_
  clear o
  rintro e ⟨Gf,row⟩ H he ⟨B3,o⟩;dsimp only at B3 o
  have Mc : row.length=e:=by rw [B3]; simp
  refine tt ?_;refine ⟨by omega, ?_⟩;apply bk <;> intro h2
  ·have Ah:=A7 h2
   have w2:=ws e;refine tt ?_;refine ⟨by omega,by omega,_,(Hv B f (V.getD k default) e (fun a ha=>?_) (by omega) (fun a ha=>?_)).run, ?_⟩
   ·have:=EZ.arr ha; omega
   ·have hv:=EZ.arr ha
    have h1:=h.Cw hv.1.2;rw [hv.2,VP] at h1;omega
   rw [iY];refine ⟨_,(KY B (B2 f V k) (CE f (V.getD k default) e)).run,tt ?_⟩;refine Ad (f:=iI) (indexOf (B2 f V k) (CE f (V.getD k default) e)) o rfl rfl (by simp only [AL]; omega) fun Gf H o=>?_
   have e8 : row++[indexOf (B2 f V k) (CE f (V.getD k default) e)]=((List.range (e+1)).map Int.ofNat).map (fun e=>indexOf (B2 f V k) (CE f (V.getD k default) e)):=by
    rw [B3,List.range_succ]; simp
   refine tw w2 ?_;exact A5 (_,_) (by omega) ⟨e8,o⟩ rfl
  ·have Ah:=A9 h2
   have jC : e=(f.A4.getD k default).toNat:=by omega
   have E3 : row=Di f V k:=by rw [B3,jC,Di,AH]
   refine tt ?_;refine Al o rfl fun H o=>tt ?_;refine Ad (f:=iL) row o rfl (by simp) (by simp only [List.length_map,List.length_range,AL]; omega) fun Gf H o=>?_
   have e7 : (List.range k).map (Di f V)++[row]=(List.range (k+1)).map (Di f V):=by rw [List.range_succ,List.map_append,E3]; rfl
   rw [e7] at o ⊢;refine tw w ?_;exact A5 Gf (by omega) o (by simp)
 ·have AR:=A9 h1
  obtain rfl : k=f.A4.length:=by omega
  refine tt ?_;refine Al o (by simp) fun H o=>tt ?_;exact A6 rfl o.sub
theorem Ng {j : Dw} {f : SF} (h : codeF j f=0) : j.Form∧f.Is∧DO j=0∧j.shape=f.shape:=by
 unfold codeF at h
 by_cases h1 : j.Form∧f.Is
 ·rw [if_neg (fun e=>e h1)] at h
  by_cases h2 : DO j=0∧¬ j.shape=f.shape
  ·rw [if_pos h2] at h; cases h
  ·rw [if_neg h2] at h;exact ⟨h1.1,h1.2,h,Classical.byContradiction fun e=>h2 ⟨h,e⟩⟩
 ·rw [if_pos h1] at h; cases h
def CS (L : List (List (List Int))) : List Int:=L.map fun l=>(l.length : Int)
open Classical in
noncomputable def UE (c : Ay) : AV:=if Bg c then .ptr (Dt c (AN c) (iL (CS (AN c))) (BA (BC c (AN c)))) else .G1
def Tp (B : Nat) (c : Ay) : Prop:=∀ x : Nat,x<c.AO.toNat→∃ l,PB B 334 [.ptr c.cells,.int .i64 x] (.CG [BA l,.bool (dec (OM c x))])∧(OM c x→l=Gl c x∧l.length≤16)
theorem QH (B : Nat) (c : Ay) (hc : c.Is) (EZ : Tp B c) : PB B 323 [.ptr c.cells] (.CG [UE c,.bool (dec (Bg c))]):=by
 refine ⟨fun H0=>gh.go fun Gi=>?_⟩
 have hm:=hc.1.m
 have F3:=hc.1.o
 have IQ:=hc.1.HN;refine tt ?_;refine (Ka B c).go fun _=>tt ?_
 let st : AV→AV→AV→AF:=fun x5 x6 x7=>.cells 8 [iI c.AO,iL c.AJ,iL c.to,iL c.Av,BA c.comp,x5,x6,x7] 0
 refine nb (.nil _) fun BJ H o=>tt ?_
 refine AD [0,4] (G:=(AV × AV) × List (Nat × AF)) (fun k g=>[(5,some (.int .i64 (k : Int)))])
  (fun k g H=>CZ BA H0 H ((BJ,st g.1.1 .A1 g.1.2)::(g.2++[])) g.1.2 ((List.range k).map fun x : Nat=>Gl c (x : Int))∧QA iI g.2 g.1.1 (CS ((List.range k).map fun x : Nat=>Gl c (x : Int)))∧∀ x : Nat,x<k→OM c x)
  c.AO.toNat ((.A1,.A1),[]) ⟨.inl ⟨rfl,rfl,o⟩,.inl ⟨rfl,rfl,rfl⟩,by simp⟩ rfl ?_
 clear o
 rintro k ⟨⟨X5,X7⟩,p5⟩ H hk ⟨hX,h5,Ak⟩;dsimp only at hX h5;refine tt ?_;apply bk <;> intro h1
 ·have AR:=A7 h1
  have w:=ws k
  obtain ⟨l,hl,Ii⟩:=EZ k (by omega);refine tt ?_;refine hl.go fun _=>tt ?_
  by_cases nQ : OM c k
  ·rw [Aw nQ]
   obtain ⟨rfl,hl16⟩:=Ii nQ;refine tt ?_
   obtain ⟨Lk,ka⟩ : ∃ Lk,Lk=(List.range (k+1)).map fun x : Nat=>Gl c (x : Int):=⟨_,rfl⟩
   have e7 : ((List.range k).map fun x : Nat=>Gl c (x : Int))++[Gl c k]=Lk:=by rw [ka,List.range_succ,List.map_append]; rfl
   have e5 : CS ((List.range k).map fun x : Nat=>Gl c (x : Int))++[((Gl c k).length : Int)]=CS Lk:=by
    rw [← e7,CS,CS,List.map_append]; rfl
   have l5 : Lk.length=k+1:=by rw [ka]; simp
   have Qi : (CS Lk).length=k+1:=by rw [CS,List.length_map,l5]
   refine tt ?_;refine Af hX.obj (by simp [st]) (tt ?_);refine hX.app (Gl c k) rfl (by simp only [List.length_map,List.length_range,AL]; omega) fun Av H o=>?_;rw [e7] at o ⊢;refine tt ?_;refine sw o.swap fun H o=>?_
   have hX : CZ BA H0 H ((BJ,st X5 .A1 (.buf Av Lk.length))::(p5++[])) (.buf Av Lk.length) Lk:=.inr ⟨Av,rfl,o.swap⟩
   generalize (AV.buf Av Lk.length)=X7 at hX;clear o
   obtain ⟨p7,h7,hX⟩:=hX.focus h5;rw [List.nil_append] at hX;refine tt ?_;refine Af hX.obj (by simp [st]) (tt ?_);refine hX.app ((Gl c k).length : Int) rfl (by simp only [CS,List.length_map,List.length_range,AL]; omega) fun Av H o=>?_;rw [e5] at o ⊢;refine tt ?_;refine sw o.swap fun H o=>?_
   have hX : CZ iI H0 H ((BJ,st (.buf Av (CS Lk).length) .A1 X7)::p7) (.buf Av (CS Lk).length) (CS Lk):=.inr ⟨Av,rfl,o.swap⟩
   generalize (AV.buf Av (CS Lk).length)=X5 at hX;clear o;rw [← List.append_nil p7] at hX
   obtain ⟨p5,h5,hX⟩:=hX.focus h7;rw [ka] at hX h5;rw [List.nil_append,← List.append_nil p5] at hX;refine tw w ?_;refine A5 ((X5,X7),p5) (by omega) ⟨hX,h5,fun x hx=>?_⟩ rfl
   by_cases e : x=k
   ·subst e; exact nQ
   ·exact Ak x (by omega)
  ·rw [Aa nQ];refine tt ?_
   have ES : ¬ Bg c:=fun e=>nQ (e k (by omega))
   have Cs : H0.sub H:=by obtain ⟨_,oo,_⟩:=hX.split; exact oo.sub
   refine A6 ?_ Cs;rw [UE,if_neg ES,Aa ES]
 ·have AR:=A9 h1;refine tt ?_
  have sS : k=c.AO.toNat:=by omega
  have Bc : Bg c:=fun x hx=>Ak x (by omega);rw [UE,if_pos Bc,Aw Bc]
  have ka : ((List.range k).map fun x : Nat=>Gl c (x : Int))=AN c:=by rw [sS]; rfl
  have tab:=Hj hc Bc;rw [ka] at hX h5
  generalize hL : AN c=L at *;refine Ec 7 hX rfl fun H o=>?_;clear hX;have o:=s1 o
  have hX:=CZ.mk (o.perm List.perm_middle.symm) h5;clear o;refine Ec 5 hX rfl fun H o=>AY ?_;clear hX;have o:=s1 o
  generalize HM : st=st2;clear Ak h5 HM st2 st
  let st : AV→AF:=fun x6=>.cells 8 [iI c.AO,iL c.AJ,iL c.to,iL c.Av,BA c.comp,iL (CS L),x6,Ft L] 0
  have l5:=tab.len;refine tt ?_
  refine AD [0,4,60] (G:=AV) (fun a g=>[(61,some (.int .i64 (a : Int)))])
   (fun a X H=>CZ iL H0 H [(BJ,st X)] X ((List.range a).map (KH c L))) c.AJ.length .A1 (.inl ⟨rfl,rfl,o⟩) rfl ?_
  clear o
  rintro a X H ha hX
  replace hX : CZ iL H0 H [(BJ,st X)] X ((List.range a).map (KH c L)):=hX;refine tt ?_;apply bk <;> intro h2
  ·have Ah:=A7 h2
   have w2:=ws a
   have Ge : 0≤(a : Int)∧(a : Int).toNat<c.AJ.length:=⟨by omega,by simpa using Ah⟩
   have JP:=hc.1.Cn Ge.2
   have DS:=hc.1.Cb Ge.2;simp only [AH] at JP DS
   obtain ⟨q,o,hq⟩:=hX.split;clear hX;refine tt ?_;refine Ag iI o fun BQ H o=>?_
   have jE : H.get BJ=some (st X):=o.get (BJ,st X) (by simp);refine tt ?_;refine Af jE (by simp [st]) (tt ?_);refine ⟨Ah,⟨JP.1,by omega⟩, ?_⟩
   have jq : ix L (c.AJ.getD a default)=L.getD (c.AJ.getD a default).toNat default:=rfl
   have nQ:=tab.Yh (c.AJ.getD a default).toNat (by omega)
   have B3 : KH c L a=(L.getD (c.AJ.getD a default).toNat default).map fun s=>indexOf (ix L (c.to.getD a default)) (Dc c a s):=rfl;rw [jq]
   generalize hF : L.getD (c.AJ.getD a default).toNat default=F at *
   refine AD [0,4,8,60,61,77,78] (G:=Nat × List Int) (fun i g=>[(9,some (.buf g.1 g.2.length)),(79,some (.int .i64 (i : Int)))])
    (fun i g H=>g.2=(F.take i).map (fun s=>indexOf (ix L (c.to.getD a default)) (Dc c a s))∧AA H0 H ((g.1,.cells 1 (g.2.map iI) 0)::(q++[(BJ,st X)]))) F.length (BQ,[]) ⟨by simp,o⟩ rfl ?_
   clear o jE
   rintro i ⟨BQ,row⟩ H hi ⟨hr,o⟩;dsimp only at hr o
   have Mc : row.length=i:=by rw [hr,List.length_map,List.length_take]; omega
   have jE : H.get BJ=some (st X):=o.get (BJ,st X) (by simp);refine tt ?_;apply bk <;> intro h3
   ·have B8:=A7 h3
    have w3:=ws i;refine tt ?_;refine ⟨B8,by omega,_,(Xj B c hc.1 a Ge (F.getD i default)).run,tt ?_⟩;refine B7.FV (es:=[.ptr (Dt c L (iL (CS L)) X),.int .i64 (c.to.getD a default),iL (Dc c a (F.getD i default))]) (.int _ _) rfl (fun j hj=>?_) (MX B c L (iL (CS L)) X (c.to.getD a default) ⟨DS.1,by omega⟩ _).run ?_
    ·obtain rfl | rfl | rfl : j=0∨j=1∨j=2:=by simp only [List.length_cons,List.length_nil] at hj; omega
     ·exact (Tr.ref BJ 8 0 _ _ jE rfl fun i _=>.val _).arg
     ·exact DA _
     ·exact DA _
    refine tt ?_;refine Ad (f:=iI) (indexOf (ix L (c.to.getD a default)) (Dc c a (F.getD i default))) o rfl rfl (by simp only [AL]; omega) fun BQ H o=>?_;refine tw w3 ?_;exact A5 (_,_) (by omega) ⟨by rw [B9 F B8,List.map_append,hr]; rfl,o⟩ rfl
   ·have B8:=A9 h3
    obtain rfl : i=F.length:=by omega
    rw [List.take_length,← B3] at hr;refine tt ?_;refine Al o rfl fun H o=>tt ?_
    have hX : CZ iL H0 H [(BJ,st X)] X ((List.range a).map (KH c L)):=CZ.mk o hq;clear o;refine Af hX.obj (by simp [st]) (tt ?_);refine hX.app row rfl (by simp only [List.length_map,List.length_range,AL]; omega) fun Av H o=>tt ?_;refine sw o.swap fun H o=>?_
    have e7 : (List.range a).map (KH c L)++[row]=(List.range (a+1)).map (KH c L):=by rw [List.range_succ,List.map_append,hr]; rfl
    have hX : CZ iL H0 H [(BJ,st (.buf Av ((List.range a).map (KH c L)++[row]).length))] (.buf Av ((List.range a).map (KH c L)++[row]).length) ((List.range a).map (KH c L)++[row]):=.inr ⟨Av,rfl,o.swap⟩
    generalize (AV.buf Av ((List.range a).map (KH c L)++[row]).length)=X7 at hX;rw [e7] at hX;refine tw w2 ?_;exact A5 X7 (by omega) hX rfl
  ·have Ah:=A9 h2
   obtain rfl : a=c.AJ.length:=by omega
   refine tt ?_;refine Ec 6 hX rfl fun H o=>?_;have o:=s1 o;refine D8 4 o rfl fun H o=>AY ?_;refine tt ?_;exact A6 rfl o.sub
end Go.Proofs.Shf
