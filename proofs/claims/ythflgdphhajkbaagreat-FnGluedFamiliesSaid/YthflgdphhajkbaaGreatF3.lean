/- Contracts, part 3. -/
import Derived.Test.YthflgdphhajkbaaGreatF2
set_option linter.unusedVariables false
set_option linter.unusedSimpArgs false
set_option linter.unusedSectionVars false
open Nat (reduceEqDiff reduceAdd reduceMul reduceLeDiff reduceLT)
namespace Go.Proofs.Shf
open Go.AW Go.Proofs Go.Shf
@[go_sem] noncomputable def stepCells (f : SF) (V : List (List Int)) : List AV:=[iI f.shape.objs,iL f.shape.frm,iL f.shape.to,iL f.shape.idn,iLL f.shape.comp,iL (stepSizes f V),iLL (stepActs f V),iLLL (famsOf f V)]
open Classical in
noncomputable def stepA (f : SF) (V : List (List Int)) : List AV:=if StepFew f V then stepCells f V else tabZ
theorem stepA_t {f : SF} {V : List (List Int)} (h : StepFew f V) : stepA f V=stepCells f V:=by rw [stepA,if_pos h]
theorem stepA_f {f : SF} {V : List (List Int)} (h : ¬ StepFew f V) : stepA f V=tabZ:=by rw [stepA,if_neg h]
abbrev zs8 : List AV:=[.int .i64 0,.nilsl,.nilsl,.nilsl,.nilsl,.nilsl,.nilsl,.nilsl]
theorem l28Make_ok (B : Nat) (f : SF) (h : f.Shape) (V : List (List Int)) (v : CovOk f.shape V) : Pur Tryz.prog B 191 [.agg f.cells,iLL V] (.tup [.agg (stepA f V),.bool (dec (StepFew f V))]):=by
 refine ⟨fun H0=>c191p.go fun _=>?_⟩
 have hm:=h.is.1.m
 have hob:=h.is.1.o
 have htl:=h.is.1.tol
 have hvl:=v.len;refine tt ?_;refine nb (.nil _) fun id4 H o=>tt ?_;refine nb o fun id6 H o=>tt ?_;refine sw o fun H o=>tt ?_;refine rd_celln o (by simp) ?_;refine tt ?_;refine (l02Own_ok B f.shape).go fun _=>tt ?_;refine newBuf_own o fun idS H o=>tt ?_;refine newBuf_own o fun idA H o=>tt ?_;refine nb o fun id7 H o=>tt ?_;refine sw o fun H o=>?_
 replace o:=Owns.push [_] (Owns.pull [_,_] o);simp only [List.cons_append,List.nil_append] at o;refine tt ?_
 have ho6 : True:=trivial
 let base : List (Nat × MObj):=[(id6,.cells 5 [iI f.shape.objs,iL f.shape.frm,iL f.shape.to,iL f.shape.idn,iLL f.shape.comp] 0),(id4,.cells 8 zs8 0)]
 let st : AV→AV→AV→Nat × MObj:=fun a b c=>(id7,.cells 8 [iI f.shape.objs,iL f.shape.frm,iL f.shape.to,iL f.shape.idn,iLL f.shape.comp,a,b,c] 0)
 refine awp_for [1,2,4,6,7] (G:=AV × Nat × List Int) (fun k _=>[(8,some (.int .i64 (k : Int)))])
  (fun k g H=>(g.2.2=(List.range k).map (sizeAt f V)∧∀ x,x<k→(famAt f V x).length≤16)∧LsO iLL H0 H (st (.buf g.2.1 k) (.buf idA 0) g.1::(g.2.1,.cells 1 (g.2.2.map iI) 0)::(idA,.cells 1 [] 0)::base) g.1 ((List.range k).map (famAt f V))) V.length (.nilsl,idS,[])
  ⟨⟨rfl,by simp⟩,.inl ⟨rfl,rfl,o⟩⟩ rfl ?_
 rintro k ⟨X,idS,sz⟩ H hk ⟨⟨hsz,hall⟩,hX⟩;dsimp only at hsz hX
 have hszl : sz.length=k:=by rw [hsz]; simp
 refine tt ?_;apply bk <;> intro h1
 ·refine tt ?_
  have h1p:=of_decide h1
  have w1:=wsucc (k:=k) (by omega);refine ⟨h1p, ?_⟩;refine ⟨_,(l28Families_ok B f k (V.getD k default) h (v.sv k h1p) 17 (by omega) (by omega)).run, ?_⟩
  have hfl : famS f (V.getD k default)=famAt f V k:=rfl;rw [hfl]
  generalize hF : famAt f V k=F at *
  have htl2 : (F.take 17).length=min 17 F.length:=List.length_take;refine tt ?_;apply bk <;> intro h2
  ·refine tt ?_
   have h2p:=of_decide h2
   have hno : ¬ StepFew f V:=fun h=>by have:=h k h1p; rw [hF] at this; omega
   obtain ⟨q,o,hq⟩:=hX.split
   have hg4 : H.get id4=some (.cells 8 zs8 0):=o.get (id4,.cells 8 zs8 0) (by simp [base])
   have hout4:=o.out (id4,.cells 8 zs8 0) (by simp [base]);rw [hg4,st1_c];refine ⟨⟨by omega,by simp,(by (try simp only [go_sem]); (try simp)),(by first | (simp only [go_sem]; done) | ((try simp only [go_sem]); simp [AV.one,one_mL]))⟩,tt ?_⟩;refine pure_ret ?_ (Go.AW.sub_set o.sub hout4);rw [stepA_f hno,dec_f hno]
   simp [rc1,wr,tabZ]
  ·have h2p:=of_ndecide h2;refine tt ?_
   have hF17 : F.take 17=F:=List.take_of_length_le (by omega);rw [hF17];refine rd_get hX.obj (by simp) ?_;refine tt ?_;refine hX.app (f:=iLL) F rfl (by simp only [maxL]; simp; omega) fun idF H o=>tt ?_;refine sw o.swap fun H o=>tt ?_;refine rd_cells o (by simp) ?_;refine tt ?_;refine app_own (f:=iI) (F.length : Int) (Owns.pull [_,_] o) rfl hszl.symm (by simp only [maxL]; omega) fun idS H o=>tt ?_
   replace o:=Owns.push [_,_] o;simp only [List.cons_append,List.nil_append] at o;refine sw o fun H o=>?_;refine tw w1 ?_
   have e1 : (List.range (k+1)).map (famAt f V)=(List.range k).map (famAt f V)++[F]:=by rw [map_range_succ,hF]
   have e2 : (sz++[(F.length : Int)]).length=k+1:=by simp [hszl]
   have o2:=o.swap;rw [e2] at o2;exact for_next (AV.buf idF ((List.range k).map (famAt f V)++[F]).length,idS,sz++[(F.length : Int)]) (by omega) ⟨⟨by rw [map_range_succ,← hsz,sizeAt,hF],lt_succ_all hall (by rw [hF]; omega)⟩,.inr ⟨idF,by rw [e1],by rw [e1]; exact o2⟩⟩ rfl
 ·have h1p:=of_ndecide h1;refine tt ?_
  have hfew : StepFew f V:=fun x hx=>hall x (by omega)
  have hkl : k=V.length:=by omega
  refine wk_ls 7 hX rfl fun H o=>wkW_done ?_;simp only [List.set_cons_zero,List.set_cons_succ] at o;refine tt ?_;clear hX
  have hfam : (List.range k).map (famAt f V)=famsOf f V:=by rw [hkl]; rfl
  rw [hfam] at o
  refine awp_for [1,4,6,7] (G:=Nat × List (List Int)) (fun a _=>[(10,some (.int .i64 (a : Int)))])
   (fun a g H=>g.2=(List.range a).map (actAt f V)∧Owns H0 H (st (.buf idS k) (.buf g.1 a) (iLLL (famsOf f V))::(idS,.cells 1 (sz.map iI) 0)::(g.1,.cells 1 (g.2.map iL) 0)::base)) f.shape.frm.length (idA,[]) ⟨rfl,o⟩ rfl ?_
  rintro a ⟨idA,acts⟩ H ha ⟨hac,o⟩;dsimp only at hac o
  have hacl : acts.length=a:=by rw [hac]; simp
  have hg6 : H.get id6=some (.cells 5 [iI f.shape.objs,iL f.shape.frm,iL f.shape.to,iL f.shape.idn,iLL f.shape.comp] 0):=o.get (id6,_) (by simp [base]);refine tt ?_;refine rd_get hg6 (by simp) ?_;refine tt ?_;apply bk <;> intro h2
  ·have h2p:=of_decide h2
   have w2:=wsucc (k:=a) (by omega);refine tt ?_
   have haa : 0≤(a : Int)∧(a : Int).toNat<f.shape.frm.length:=⟨by omega,by simpa using h2p⟩
   have hfo:=h.is.1.frmObj haa.2
   have hto:=h.is.1.toObj haa.2;simp only [ix_nat] at hfo hto;refine rd_get hg6 (by simp) ?_;refine tt ?_;refine ⟨h2p,rd_get hg6 (by simp) ?_⟩;refine tt ?_;refine ⟨by omega, ?_⟩;refine new_list iI o fun idr H o=>tt ?_
   have hF0 : (famsOf f V).getD (f.shape.frm.getD a default).toNat default=famAt f V (f.shape.frm.getD a default).toNat:=by rw [famsOf,getD_map_range _ _ (by omega)]
   have hF1 : (famsOf f V).getD (f.shape.to.getD a default).toNat default=famAt f V (f.shape.to.getD a default).toNat:=by rw [famsOf,getD_map_range _ _ (by omega)]
   have hF0' : ix (famsOf f V) (f.shape.frm.getD a default)=famAt f V (f.shape.frm.getD a default).toNat:=hF0
   have hF1' : ix (famsOf f V) (f.shape.to.getD a default)=famAt f V (f.shape.to.getD a default).toNat:=hF1
   have hfl : (famsOf f V).length=V.length:=by simp [famsOf]
   have hfs0 : (famAt f V (f.shape.frm.getD a default).toNat).length≤16:=hfew _ (by omega)
   have hv0:=v.frm h.is haa
   have hv1:=v.to h.is haa;simp only [ix_nat] at hv0 hv1
   have hl1:=hv1.len
   let rest : List (Nat × MObj):=st (.buf idS k) (.buf idA a) (iLLL (famsOf f V))::(idS,.cells 1 (sz.map iI) 0)::(idA,.cells 1 (acts.map iL) 0)::base
   refine awp_for [1,4,6,7,10,11,12] (G:=Nat × List Int) (fun i g=>[(13,some (.buf g.1 g.2.length)),(14,some (.int .i64 (i : Int)))])
    (fun i g H=>g.2=((famAt f V (f.shape.frm.getD a default).toNat).take i).map (fun t=>indexOf (famAt f V (f.shape.to.getD a default).toNat) (movedF f.shape V a t))∧Owns H0 H ((g.1,.cells 1 (g.2.map iI) 0)::rest)) (famAt f V (f.shape.frm.getD a default).toNat).length (idr,[]) ⟨by simp,o⟩ rfl ?_
   rintro i ⟨idr,row⟩ H hi ⟨hrow,o⟩;dsimp only at hrow o
   have hrl : row.length=i:=by rw [hrow,List.length_map,List.length_take]; omega
   have hg7 : H.get id7=some (.cells 8 [iI f.shape.objs,iL f.shape.frm,iL f.shape.to,iL f.shape.idn,iLL f.shape.comp,.buf idS k,.buf idA a,iLLL (famsOf f V)] 0):=o.tl.h0
   have hg6 : H.get id6=some (.cells 5 [iI f.shape.objs,iL f.shape.frm,iL f.shape.to,iL f.shape.idn,iLL f.shape.comp] 0):=o.get (id6,_) (by simp [rest,base]);refine tt ?_;refine rd_get hg7 (by simp) ?_;refine tt ?_;refine ⟨⟨hfo.1,by omega⟩, ?_⟩;rw [hF0'];apply bk <;> intro h3
   ·have h3p:=of_decide h3
    have w3:=wsucc (k:=i) (by omega);refine tt ?_;refine new_list iI o fun idm H o=>tt ?_
    generalize hT : (famAt f V (f.shape.frm.getD a default).toNat).getD i default=T at *
    have hTf : Fam f (V.getD (f.shape.frm.getD a default).toNat default) T:=by
     rw [← hT];exact ((famS_is h hv0).mem _).mp (mem_getD.mpr ⟨i,h3p,rfl⟩)
    have hVf : ix V (f.shape.frm.getD a default)=V.getD (f.shape.frm.getD a default).toNat default:=rfl
    have hVt : ix V (f.shape.to.getD a default)=V.getD (f.shape.to.getD a default).toNat default:=rfl
    generalize hW : ix V (f.shape.to.getD a default)=W at *
    generalize hU : ix V (f.shape.frm.getD a default)=U at *
    refine awp_for [1,4,6,7,10,11,12,13,14] (G:=Nat × List Int) (fun q g=>[(15,some (.buf g.1 g.2.length)),(16,some (.int .i64 (q : Int)))])
     (fun q g H=>g.2=(W.take q).map (fun b=>ix T (indexOf U (ix (ix f.shape.comp a) b)))∧Owns H0 H ((g.1,.cells 1 (g.2.map iI) 0)::(idr,.cells 1 (row.map iI) 0)::rest)) W.length (idm,[]) ⟨by simp,o⟩ rfl ?_
    rintro q ⟨idm,mv⟩ H hq ⟨hmv,o⟩;dsimp only at hmv o
    have hml : mv.length=q:=by rw [hmv,List.length_map,List.length_take]; omega
    have hg7 : H.get id7=some (.cells 8 [iI f.shape.objs,iL f.shape.frm,iL f.shape.to,iL f.shape.idn,iLL f.shape.comp,.buf idS k,.buf idA a,iLLL (famsOf f V)] 0):=o.tl.tl.h0
    have hg6 : H.get id6=some (.cells 5 [iI f.shape.objs,iL f.shape.frm,iL f.shape.to,iL f.shape.idn,iLL f.shape.comp] 0):=o.get (id6,_) (by simp [rest,base]);refine tt ?_;rw [hW];refine ⟨⟨hto.1,by omega⟩, ?_⟩;apply bk <;> intro h4
    ·have h4p:=of_decide h4
     have w4:=wsucc (k:=q) (by omega);refine tt ?_
     have hb : W.getD q default∈W:=mem_getD.mpr ⟨q,h4p,rfl⟩
     have hWs : f.shape.Sieve (f.shape.to.getD a default) W:=hv1
     have hUs : f.shape.Sieve (f.shape.frm.getD a default) U:=hv0
     have hbv:=hWs.arr hb
     have hst:=v.st a haa (W.getD q default) (by simp only [ix_nat]; rw [hW]; exact hb);simp only [ix_nat] at hst;rw [hU] at hst
     have hin:=indexOf_in hst
     have hTl : T.length=U.length:=by rw [hVf]; exact hTf.len
     have hrow:=h.is.1.row' (a:=(a : Int)) haa.2;simp only [ix_nat] at hrow;refine rd_get hg7 (by simp) ?_;refine tt ?_;refine ⟨⟨hfo.1,by omega⟩, ?_⟩;rw [hF0'];refine ⟨h3p,⟨hfo.1,by omega⟩, ?_⟩;rw [hT,hU];refine rd_getn hg6 (by simp) ?_;refine tt ?_;refine ⟨⟨hto.1,by omega⟩, ?_⟩;rw [hW];refine ⟨h4p,_,(l02Then_ok B f.shape a (W.getD q default) ⟨by omega,by rw [h.is.1.cl]; exact haa.2⟩ ⟨hbv.1.1,by rw [ix_nat]; omega⟩).run,tt ?_⟩;refine ⟨_,(l01Index_ok ..).run,tt ?_⟩;refine ⟨⟨hin.1,by omega⟩, ?_⟩;refine app_own (ix T (indexOf U (ix (ix f.shape.comp a) (W.getD q default)))) o (by simp only [ix_nat]) rfl (by simp only [maxL]; omega) fun idm H o=>?_;refine tw w4 ?_;exact for_next (_,_) (by omega) ⟨by rw [take_map_succ W _ h4p,hmv]; simp only [ix_nat],o⟩ rfl
    ·have h4p:=of_ndecide h4;refine tt ?_;refine fz_own o rfl fun H o=>tt ?_
     have hg7 : H.get id7=some (.cells 8 [iI f.shape.objs,iL f.shape.frm,iL f.shape.to,iL f.shape.idn,iLL f.shape.comp,.buf idS k,.buf idA a,iLLL (famsOf f V)] 0):=o.tl.h0;refine rd_get hg7 (by simp) ?_;refine tt ?_;refine ⟨⟨hto.1,by omega⟩, ?_⟩;rw [hF1'];refine (l09Find_ok ..).go fun _=>tt ?_
     have hmv2 : mv=movedF f.shape V a T:=by
      rw [hmv,show q=W.length by omega,List.take_length,movedF];simp only [ix_nat];rw [hW,hU]
     refine app_own (indexOf (famAt f V (f.shape.to.getD a default).toNat) mv) o rfl rfl (by simp only [maxL]; omega) fun idr H o=>?_;refine tw w3 ?_;exact for_next (_,_) (by omega) ⟨by rw [take_map_succ _ _ h3p,hT,hrow,hmv2],o⟩ rfl
   ·have h3p:=of_ndecide h3;refine tt ?_;refine fz_own o rfl fun H o=>tt ?_;refine rd_cells o (by simp) ?_;refine tt ?_
    have hrow2 : row=actAt f V a:=by rw [hrow,List.take_of_length_le (by omega)]; rfl
    refine app_own (f:=iL) row (Owns.pull [_,_] o) rfl hacl.symm (by simp only [maxL]; omega) fun idA H o=>?_
    replace o:=Owns.push [_,_] o;simp only [List.cons_append,List.nil_append] at o;refine tt ?_;refine sw o fun H o=>?_
    have e2 : (acts++[row]).length=a+1:=by simp [hacl]
    rw [e2] at o;refine tw w2 ?_;exact for_next (idA,acts++[row]) (by omega) ⟨by rw [map_range_succ,← hac,hrow2],o⟩ rfl
  ·have h2p:=of_ndecide h2;refine tt ?_
   have hal : a=f.shape.frm.length:=by omega
   refine wk_cell (f:=iI) (A:=sz) 5 o rfl hszl.symm fun H o=>?_;simp only [List.set_cons_zero,List.set_cons_succ] at o;refine wk_cell (f:=iL) (A:=acts) 6 o rfl hacl.symm fun H o=>wkW_done ?_;simp only [List.set_cons_zero,List.set_cons_succ] at o;refine tt ?_;refine rd_celln o (by simp) ?_;refine tt ?_;refine sw (Owns.pull [_,_] o) fun H o=>tt ?_;rw [o.rc 8 0 (by simp)];refine tt ?_
   have e1 : sz=stepSizes f V:=by rw [hsz,hkl]; rfl
   have e2 : acts=stepActs f V:=by rw [hac,hal]; rfl
   exact pure_ret (by rw [stepA_t hfew,dec_t hfew,e1,e2]; rfl) o.sub
def RulesAt (ls : List Lk) (ks vs : List AV) : Prop:=(∀ i : Int,okKey 0 (iI i) ks) ∧
 ∀ i : Int,(mget (iI i) ks vs).getD .nilsl=mL rlE (ls.filter fun l=>decide (l.i=i))∨((mget (iI i) ks vs).getD .nilsl=.nilsl∧(ls.filter fun l=>decide (l.i=i))=[])
theorem set_solver (B : Nat) (sizes : List Int) (ls : List Lk) (hls : LksId sizes ls) (hsl : sizes.length≤1000) (hll : ls.length≤1000000) (ks vs : List AV) (hM : RulesAt ls ks vs) (idL idN idM idS : Nat) (fv : AV) :
  ∀ (n : Nat) (p : List Int),unset p=n→PartN sizes p→∀ (H0 H : Heap) (l : List (Nat × MObj)) (X : AV) (note : List Int) (i : Nat) (e : Int),
   LsO iI H0 H ((idN,.cells 1 [X] 0)::(idL,.cells 1 (p.map iI) 0)::l) X note→(idM,.map ks vs)∈l→i<p.length→0≤e∧e<sizes.getD i default→note.length+unset p≤1000 →
   CallH Tryz.prog B 287 [.dual [iL sizes,.mref idM,.buf idL sizes.length,fv] idS,.int .i64 i,.int .i64 e,.ref idN 0] H
    (fun r H'=>∃ ok p' N X',r=.bool ok∧LsO iI H0 H' ((idN,.cells 1 [X'] 0)::(idL,.cells 1 (p'.map iI) 0)::l) X' (note++N)∧SetQ sizes ls p i e p' N ok∧N.length+unset p'≤unset p):=by
 intro n
 induction n using Nat.strongRecOn with
 | _ n ih =>
 intro p hn hp H0 H l X note i e hX hm hi he hnb;refine c287p.go fun _=>?_
 have hpl:=hp.1;refine tt ?_
 have hgL:=hX.get (x:=(idL,.cells 1 (p.map iI) 0)) (by simp);refine ⟨by omega,rd_inner hgL hi ?_⟩;refine tt ?_;apply bk <;> intro h1
 ·refine tt ?_
  have h1p:=of_decide h1;refine ⟨by omega,rd_inner hgL hi ?_⟩;refine tt ?_;exact ⟨H,.refl _,_,p,[],X,rfl,by rw [List.append_nil]; exact hX,.old hp hi (by omega),by simp⟩
 refine tt ?_
 have h1p:=of_ndecide h1
 have h0 : p.getD i default=-1:=(hp.2 i hi).resolve_right fun h=>by omega
 obtain ⟨q,o,hq⟩:=hX.split;refine ⟨by omega,set_own e (Owns.pull2 q o) rfl hi fun H o=>?_⟩;refine tt ?_
 have hX:=LsO.mk (Owns.push2 q o) hq;clear o hq;refine rd_get hX.obj (by simp) ?_;refine tt ?_;refine hX.app (i : Int) rfl (by simp only [maxL]; omega) fun idn H o=>tt ?_;refine sw o.swap fun H o=>?_
 have hX : LsO iI H0 H ((idN,.cells 1 [.buf idn (note++[(i : Int)]).length] 0)::(idL,.cells 1 ((p.set i e).map iI) 0)::l) (.buf idn (note++[(i : Int)]).length) (note++[(i : Int)]):=.inr ⟨idn,rfl,o.swap⟩;clear o
 have hgM:=hX.get (x:=(idM,.map ks vs)) (by simp [hm]);refine tt ?_;rw [hgM];refine tt ?_;refine ⟨hM.1 i, ?_⟩
 have hV:=hM.2 i
 generalize hVv : (mget (iI i) ks vs).getD .nilsl=V at *
 generalize hrs : (ls.filter fun l=>decide (l.i=(i : Int)))=rs at *
 have hlen : lenE (some V)=some (True,.int .i64 rs.length):=by
  rcases hV with rfl | ⟨rfl,rfl⟩
  ·exact lenE_mL rs
  ·rfl
 refine tw hlen ?_
 have hrl : rs.length≤1000000:=by rw [← hrs]; exact Nat.le_trans (List.length_filter_le _ _) hll
 have hrm : ∀ j,j<rs.length→rs.getD j default∈ls∧(rs.getD j default).i=i:=by
  intro j hj
  have : rs.getD j default∈(ls.filter fun l=>decide (l.i=(i : Int))):=by rw [hrs]; exact mem_getD.mpr ⟨j,hj,rfl⟩
  rw [List.mem_filter,decide_eq_true_eq] at this;exact this
 have hun : unset (p.set i e)<unset p:=unset_set hi h0 he.1
 refine awp_for [0,2,3,48,49] (G:=List Int × List Int × AV) (fun k _=>[(50,some (.int .i64 (k : Int)))])
  (fun k g H=>LsO iI H0 H ((idN,.cells 1 [g.2.2] 0)::(idL,.cells 1 (g.1.map iI) 0)::l) g.2.2 (note++g.2.1)∧SetL sizes ls p i e rs k g.1 g.2.1∧g.2.1.length+unset g.1≤unset p∧0<g.2.1.length) rs.length (p.set i e,[(i : Int)],.buf idn (note++[(i : Int)]).length)
  ⟨hX,.zero hp hi h0 he,by simp only [List.length_singleton]; omega,by simp⟩ rfl ?_
 rintro k ⟨p',N,X'⟩ H hk ⟨hX,hL,hNu,hN0⟩;dsimp only at hX hL hNu hN0;refine tt ?_;apply bk <;> intro h2
 ·have h2p:=of_decide h2
  have w2:=wsucc (k:=k) (by omega)
  have hVr : V=mL rlE rs:=hV.resolve_right fun h=>by rw [h.2] at h2p; simp at h2p
  rw [hVr]
  have hmem:=hrm k h2p
  generalize hr : rs.getD k default=r at *
  have bj:=hls.ok.j r hmem.1
  have bl:=hls.ok.left r hmem.1;rw [hmem.2,ix_nat] at bl
  have hlf:=hls.lf r hmem.1 _ (ix_mem (i:=e) (l:=r.left) (by omega))
  obtain ⟨q,o,hq⟩:=hX.split;refine tt ?_;refine ⟨h2p,by simp [maxL],newRef_own o fun id10 H o=>?_⟩;rw [hr];refine tt ?_;refine sw o fun H o=>tt ?_;refine rd_cells o (by simp) ?_;refine tt ?_;refine rd_cells o (by simp) ?_;refine tt ?_;refine ⟨⟨he.1,by omega⟩, ?_⟩
  have hX:=LsO.mk o.tl hq;clear o hq
  have hp' : PartN sizes p':=hL.partN hp
  have hsl' : p'.length=p.length:=hL.len
  have hj' : r.j=((r.j.toNat : Nat) : Int):=(Int.toNat_of_nonneg bj.1).symm;rw [hj'];refine (ih (unset p') (by omega) p' rfl hp' H0 H l X' (note++N) r.j.toNat (ix r.left e) hX hm (by omega) ⟨hlf.1,hlf.2⟩ (by rw [List.length_append]; omega)).mono ?_
  rintro v H' ⟨ok,p2,N2,X2,rfl,hX2,hQ,hNu2⟩;rw [List.append_assoc] at hX2;refine tt ?_
  cases ok with
  | true =>
   refine tt ?_;refine tw w2 ?_
   have hstep:=hL.step hp hi h2p (by rw [hr]; omega) (by omega) (by rw [hr]; exact bj.1) (by rw [hr]; exact hQ) (fun j hj=>?_) hrm hls
   ·exact for_next (p2,N++N2,X2) (by omega) ⟨hX2,hstep,by simp only [List.length_append]; omega,by simp only [List.length_append]; omega⟩ rfl
   ·have hmj:=hrm j hj
    have bj:=hls.ok.j _ hmj.1
    have bl:=hls.ok.left _ hmj.1;rw [hmj.2,ix_nat] at bl
    have hlf:=hls.lf _ hmj.1 _ (ix_mem (i:=e) (l:=(rs.getD j default).left) (by omega));exact ⟨bj.1,by omega,hlf.1⟩
  | false =>
   refine tt ?_;refine ⟨H',.refl _,false,p2,N++N2,X2,rfl,hX2,hL.fail hp hi h0 h2p (by rw [hr]; exact hQ) (by omega) hrm hls,by simp only [List.length_append]; omega⟩
 ·have h2p:=of_ndecide h2;refine tt ?_;refine ⟨H,.refl _,true,p',N,X',rfl,hX,hL.done (by omega) fun l hl e2=>?_,hNu⟩;rw [← hrs,List.mem_filter];exact ⟨hl,decide_eq_true e2⟩
end Go.Proofs.Shf
namespace Go.AW
open Go.Proofs Go.Proofs.Shf
theorem Owns.ext {H0 H H' : Heap} {l : List (Nat × MObj)} (h : Owns H0 H l) (k : H.sub H') : Owns H0 H' l :=
 ⟨h.sub.trans k,fun x hx=>k _ _ (h.get x hx),h.nd,h.out⟩
theorem LsO.ext {α : Type} {f : α→AV} {H0 H H' : Heap} {l : List (Nat × MObj)} {X : AV} {A : List α} (h : LsO f H0 H l X A) (k : H.sub H') : LsO f H0 H' l X A:=by
 rcases h with ⟨h1,h2,h⟩ | ⟨id,h1,h⟩
 ·exact .inl ⟨h1,h2,h.ext k⟩
 ·exact .inr ⟨id,h1,h.ext k⟩
theorem lent_get {α : Type} [Inhabited α] {f : α→AV} [One f] {B : Nat} {H : Heap} {id n fr : Nat} {A : List α} (h0 : H.get id=some (.cells 1 (A.map f) fr)) (hn : n=A.length) :
  ∀ g w v,WRel g B H w→VRel g (.buf id n) v→VRel (g.lend H w) (mL f A) v:=by
 subst hn
 have:=Tr.buf (H:=H) id fr (A.map f) (A.map f) h0 rfl (fun i hi=>by rw [List.length_map] at hi; rw [getD_map A hi]; exact one_cells _) (fun i _=>.val _);rw [List.length_map] at this;exact this.arg
theorem Owns.subl {H0 H : Heap} {l l' : List (Nat × MObj)} (h : Owns H0 H l) (k : l'.Sublist l) : Owns H0 H l' :=
 ⟨h.sub,fun x hx=>h.get x (k.subset hx),h.nd.sublist (k.map _),fun x hx=>h.out x (k.subset hx)⟩
theorem LsO.subl {α : Type} {f : α→AV} {H0 H : Heap} {l l' : List (Nat × MObj)} {X : AV} {A : List α} (h : LsO f H0 H l X A) (k : l'.Sublist l) : LsO f H0 H l' X A:=by
 rcases h with ⟨h1,h2,h⟩ | ⟨id,h1,h⟩
 ·exact .inl ⟨h1,h2,h.subl k⟩
 ·exact .inr ⟨id,h1,h.subl (k.cons_cons _)⟩
theorem LsP.lenE {α : Type} {f : α→AV} {p : List (Nat × MObj)} {X : AV} {A : List α} (h : LsP f p X A) : lenE (some X)=some (True,.int .i64 A.length):=by
 rcases h with ⟨_,rfl,rfl⟩ | ⟨id,_,rfl⟩ <;> rfl
theorem LsP.sub {α : Type} {f : α→AV} {p : List (Nat × MObj)} {X : AV} {A : List α} (h : LsP f p X A) {i : Nat} (hi : i<A.length) : ∃ id,p=[(id,.cells 1 (A.map f) 0)]∧X=.buf id A.length:=by
 rcases h with ⟨_,_,rfl⟩ | h
 ·simp at hi
 ·exact h
theorem perm_cba {α : Type} (A B C l : List α) : (A++(B++(C++l))).Perm (C++(B++(A++l))):=by
 have : (A++(B++C)).Perm (C++(B++A)):=by
  refine (List.perm_append_comm).trans ?_;rw [← List.append_assoc];exact List.Perm.append_right A List.perm_append_comm
 simpa using List.Perm.append_right l this
theorem CallH.gave {α : Type} [Inhabited α] {f : α→AV} [One f] {P : Program} {B : Nat} {fn : FuncId} {args : List AV} {H : Heap} {Q : List α→Prop} {K : Kont} (h : CallH P B fn args H (OwnK f H [] Q))
  (hk : ∀ A H',H.sub H'→Q A→K (mL f A) H') : CallH P B fn args H K:=by
 refine ⟨h.1,fun g w vs hW hv=>(h.2 g w vs hW hv).mono fun e w' ⟨v,he,g',r,H',a,⟨id,A,e1,o,q⟩,c,d,k⟩=>?_⟩;subst e1
 obtain ⟨g2,q1,q2,q3⟩:=d.gaveV o.h0;exact ⟨v,he,g2,mL f A,_,a.trans q1,hk A _ (Go.AW.sub_set o.sub (o.out _ (by simp))) q,q3 g2 v (.refl _) (c.mono q1),q2,k⟩
end Go.AW
namespace Go.Proofs.Shf
open Go.AW Go.Proofs Go.Shf
theorem found_ok (B : Nat) (most : Nat) (hmost : most≤1048576) (p : List Int) (H0 H : Heap) (l : List (Nat × MObj)) (idL idO n : Nat) (X : AV) (out : List (List Int)) (hn : n=p.length)
  (hX : LsO iL H0 H ((idO,.cells 1 [X] 0)::l) X out) (hm : (idL,.cells 1 (p.map iI) 0)∈l) (ho : out.length≤most) :
  CallH Tryz.prog B 249 [.buf idL n,.ref idO 0,.ptr [.int .i64 most]] H (fun r H'=>∃ X',r=.bool (decide (out.length+1≤most))∧LsO iL H0 H' ((idO,.cells 1 [X'] 0)::l) X' (out++[p])):=by
 refine c249p.go fun _=>?_;refine tt ?_;refine rd_get hX.obj (by simp) ?_;refine tt ?_
 have hc : CallH Tryz.prog B 221 [.buf idL n] H (OwnK iI H [] (·=p)) :=
  CallH.lentOwn (f:=iI) (Q:=(·=p)) (es:=[iL p]) (Owns.nil H) (fun _=>.int _ _) rfl (fun i hi=>by
   obtain rfl : i=0:=by simp only [List.length_cons,List.length_nil] at hi; omega
   exact lent_get (hX.get (x:=(idL,.cells 1 (p.map iI) 0)) (by simp [hm])) hn) (clone_own B p H.frz H.frz [] (.nil _)) fun id A H' o q=>⟨id,A,rfl,o,q⟩
 refine hc.gave fun A H1 hs hA=>⟨hs, ?_⟩;subst hA
 have hX:=hX.ext hs;refine tt ?_;refine hX.app A rfl (by simp only [maxL]; omega) fun idn H o=>tt ?_;refine sw o.swap fun H o=>tt ?_
 have hX : LsO iL H0 H ((idO,.cells 1 [.buf idn (out++[A]).length] 0)::l) (.buf idn (out++[A]).length) (out++[A]):=.inr ⟨idn,rfl,o.swap⟩;refine rd_get hX.obj (by simp) ?_;refine tt ?_;exact ⟨H,.refl _,_,by simp,hX⟩
end Go.Proofs.Shf
namespace Go.AW
open Go.Proofs Go.Shf Go.Proofs.Shf
theorem indexOf_first {l : List Int} {a : Int} (h : 0≤indexOf l a) : (indexOf l a).toNat<l.length∧l.getD (indexOf l a).toNat default=a∧∀ m,m<(indexOf l a).toNat→l.getD m default≠a:=by
 have hm:=(indexOf_mem l a).mp h
 have hi:=indexOf_in hm;refine ⟨hi.2.1,hi.2.2,fun m hml e=>?_⟩;unfold indexOf at hml
 split at hml
 ·rename_i i hs
  rw [List.idxOf?_eq_some_iff] at hs
  obtain ⟨h1,h2,h3⟩:=hs
  have hm2 : m<i:=by simpa using hml
  have h4 : m<l.length:=by omega
  have:=h3 m hm2;exact this (by simpa [List.getD_eq_getElem?_getD,h4] using e)
 ·simp at hml
end Go.AW
namespace Go.Proofs.Shf
open Go.AW Go.Proofs Go.Shf
theorem solver_run (B : Nat) (sizes : List Int) (ls : List Lk) (hls : LksId sizes ls) (hsl : sizes.length≤1000) (hbd : ∀ i,i<sizes.length→sizes.getD i default≤1000000) (hll : ls.length≤1000000) (ks vs : List AV) (hM : RulesAt ls ks vs) (most : Nat) (hmost : most≤1048576) (idL idM idS idO : Nat) :
  ∀ (n : Nat) (p : List Int),unset p=n→PartN sizes p→Closed ls p→∀ (H0 H : Heap) (l : List (Nat × MObj)) (X : AV) (out : List (List Int)),
   LsO iL H0 H ((idO,.cells 1 [X] 0)::(idL,.cells 1 (p.map iI) 0)::l) X out→(idM,.map ks vs)∈l→out.length≤most →
   CallH Tryz.prog B 250 [.dual [iL sizes,.mref idM,.buf idL sizes.length,.fn (.func 249) [.ref idO 0,.ptr [.int .i64 most]]] idS] H
    (fun r H'=>∃ X',r=.bool (decide (out.length+(exS sizes ls p).length≤most))∧LsO iL H0 H' ((idO,.cells 1 [X'] 0)::(idL,.cells 1 (p.map iI) 0)::l) X' (out++(exS sizes ls p).take (most+1 - out.length))):=by
 intro n
 induction n using Nat.strongRecOn with
 | _ n ih =>
 intro p hn hp hc H0 H l X out hX hm ho;refine c250p.go fun _=>?_
 have hpl:=hp.1;refine tt ?_;refine CallH.lentPure (es:=[iL p,.int .i64 (-1)]) (.int _ _) rfl (fun i hi=>?_) (index_ok B p (-1)).run ?_
 ·obtain rfl | rfl : i=0∨i=1:=by simp only [List.length_cons,List.length_nil] at hi; omega
  ·exact lent_get (hX.get (x:=(idL,.cells 1 (p.map iI) 0)) (by simp)) hpl.symm
  ·exact val_arg _
 have hib:=indexOf_bd p (-1);refine tt ?_;apply bk <;> intro h1
 ·refine tt ?_
  have h1p:=of_decide h1
  have hall : ∀ m,m<p.length→p.getD m default≠-1:=fun m hm e=>by
   have:=(indexOf_mem p (-1)).mpr (mem_getD.mpr ⟨m,hm,e⟩);omega
  have hex : exS sizes ls p=[p]:=exS_eq (lex_full (hc.cons hls hp) hall);rw [hex];refine (found_ok B most hmost p H0 H ((idL,.cells 1 (p.map iI) 0)::l) idL idO sizes.length X out hpl.symm hX (by simp) ho).mono ?_
  rintro r H' ⟨X',rfl,hX⟩;refine tt ?_;refine ⟨H',.refl _,X',rfl, ?_⟩;rw [List.take_of_length_le (by simp; omega)];exact hX
 have h1p:=of_ndecide h1
 obtain ⟨f1,f2,f3⟩:=indexOf_first (l:=p) (a:=-1) (by omega)
 generalize hix : indexOf p (-1)=ii at *
 obtain ⟨i,rfl⟩ : ∃ i : Nat,ii=(i : Int):=⟨ii.toNat,by omega⟩;rw [Int.toNat_natCast] at f1 f2 f3
 have hexS:=exS_all hls hp hc f1 f2 f3
 replace hexS : exS sizes ls p=flatTo sizes ls p i (sizes.getD i default).toNat:=hexS
 have hbi:=hbd i (by omega);refine tt ?_;refine ⟨by omega, ?_⟩
 generalize hsz : sizes.getD i default=sz at *
 refine awp_for [0,3,32] (G:=AV) (fun k _=>[(33,some (.int .i64 (k : Int)))])
  (fun k X H=>LsO iL H0 H ((idO,.cells 1 [X] 0)::(idL,.cells 1 (p.map iI) 0)::l) X (out++flatTo sizes ls p i k)∧out.length+(flatTo sizes ls p i k).length≤most) sz.toNat X
  ⟨by rw [flatTo_zero,List.append_nil]; exact hX,by rw [flatTo_zero]; exact ho⟩ rfl ?_
 rintro k X H hk ⟨hX,hfm⟩
 replace hX : LsO iL H0 H ((idO,.cells 1 [X] 0)::(idL,.cells 1 (p.map iI) 0)::l) X (out++flatTo sizes ls p i k):=hX
 replace hfm : out.length+(flatTo sizes ls p i k).length≤most:=hfm;refine tt ?_;apply bk <;> intro h2
 rotate_left
 ·have h2p:=of_ndecide h2;refine tt ?_
  have hke : k=sz.toNat:=by omega
  refine ⟨H,.refl _,X, ?_, ?_⟩
  ·rw [hexS,← hke,decide_eq_true hfm]
  ·rw [hexS,← hke,List.take_of_length_le (by omega)]; exact hX
 have h2p:=of_decide h2
 have w2:=wsucc (k:=k) (by omega)
 obtain ⟨pp,o,hpp⟩:=hX.split;clear hX;refine tt ?_;refine newBuf_own o fun idE H o=>tt ?_;refine newRef_own o fun id5 H o=>tt ?_;refine sw o fun H o=>tt ?_
 have hX : LsO iI H0 H ((id5,.cells 1 [.buf idE 0] 0)::(idL,.cells 1 (p.map iI) 0)::(pp++(idO,.cells 1 [X] 0)::l)) (.buf idE 0) [] :=
  .inr ⟨idE,rfl,o.swap.perm (.cons _ (.cons _ (by
   refine (List.Perm.append_left pp (List.Perm.swap _ _ _)).trans List.perm_middle)))⟩
 clear o
 refine (set_solver B sizes ls hls hsl hll ks vs hM idL id5 idM idS (.fn (.func 249) [.ref idO 0,.ptr [.int .i64 most]]) _ p rfl hp H0 H (pp++(idO,.cells 1 [X] 0)::l) (.buf idE 0) [] i k hX (by simp [hm]) f1 ⟨by omega,by omega⟩ (by
  have : unset p≤p.length:=List.countP_le_length;simp only [List.length_nil]; omega)).mono ?_
 rintro v H ⟨ok,p',N,X',rfl,hX,hQ,hNu⟩;rw [List.nil_append] at hX
 obtain ⟨q,o,hq⟩:=hX.split
 have hY : LsO iL H0 H ((idO,.cells 1 [X] 0)::(idL,.cells 1 (p'.map iI) 0)::(q++(id5,.cells 1 [X'] 0)::l)) X (out++flatTo sizes ls p i k):=by
  refine LsO.mk (p:=pp) (o.perm ?_) hpp
  have:=perm_cba (q++[(id5,MObj.cells 1 [X'] 0)]) [(idL,.cells 1 (p'.map iI) 0)] (pp++[(idO,.cells 1 [X] 0)]) l
  simpa using this
 clear o hX
 have hUn:=hQ.undo
 have hfs:=flatTo_succ sizes ls p i k
 have hpre:=flatTo_pre sizes ls p i (k:=k+1) (m:=sz.toNat) (by omega)
 have hp' : p'.length=p.length:=hQ.len
 have hNb : ∀ j,j<N.length→0≤N.getD j default∧(N.getD j default).toNat<p'.length:=fun j hj=>by
  have:=(hQ.new (N.getD j default)).mp (mem_getD.mpr ⟨j,hj,rfl⟩);exact ⟨this.1,by omega⟩
 have hNl : N.length≤1000:=by
  have : unset p≤p.length:=List.countP_le_length;omega
 cases ok
 case' true =>
  have hee:=exS_congr (ls:=ls) (sizes:=sizes) (hQ.ext_iff f1 f2 ⟨by omega,by omega⟩);refine tt ?_;refine (ih (unset p') (by rw [← hn]; exact unset_lt hQ f1 f2 (by omega) hNu) p' rfl ⟨by omega,fun r hr=>hQ.part r (by omega)⟩ (hc.set hls hp hQ) H0 H (q++(id5,.cells 1 [X'] 0)::l) X (out++flatTo sizes ls p i k) hY (by simp [hm]) (by simp; exact hfm)).mono ?_;clear hY
  rintro v H ⟨X2,rfl,hY⟩;rw [← hee] at hY ⊢
  generalize hb : decide ((out++flatTo sizes ls p i k).length+(exS sizes ls (p.set i k)).length≤most)=b
  replace hb : b=decide (out.length+(flatTo sizes ls p i (k+1)).length≤most):=by
   rw [← hb,hfs]; simp only [List.length_append]; congr 1; rw [Nat.add_assoc]
  refine tt ?_
 case' false =>
  have hee:=hQ.none f1 f2 ⟨by omega,by omega⟩;refine tt ?_
  generalize hX2 : X=X2 at hY
  generalize hb : true=b
  replace hb : b=decide (out.length+(flatTo sizes ls p i (k+1)).length≤most):=by
   rw [← hb,hfs,hee,List.append_nil,decide_eq_true hfm]
  replace hY : LsO iL H0 H ((idO,.cells 1 [X2] 0)::(idL,.cells 1 (p'.map iI) 0)::(q++(id5,.cells 1 [X'] 0)::l)) X2 ((out++flatTo sizes ls p i k)++(exS sizes ls (p.set i k)).take (most+1 - (out++flatTo sizes ls p i k).length)):=by
   rw [hee]; simpa using hY
 all_goals
  generalize hA : (out++flatTo sizes ls p i k)++(exS sizes ls (p.set i k)).take (most+1 - (out++flatTo sizes ls p i k).length)=A at hY
  have hlN:=hq.lenE;refine rd_get (hY.get (x:=(id5,.cells 1 [X'] 0)) (by simp)) (by simp) ?_;refine tw hlN ?_
  refine awp_for [0,3,7,32,33,47,48] (G:=Unit) (fun j _=>[(49,some (.int .i64 (j : Int)))])
   (fun j _ H=>LsO iL H0 H ((idO,.cells 1 [X2] 0)::(idL,.cells 1 ((undoL p' N j).map iI) 0)::(q++(id5,.cells 1 [X'] 0)::l)) X2 A) N.length ()
   (by rw [undo_zero]; exact hY) rfl ?_
  clear hY
  rintro j _ H hj hY
  replace hY : LsO iL H0 H ((idO,.cells 1 [X2] 0)::(idL,.cells 1 ((undoL p' N j).map iI) 0)::(q++(id5,.cells 1 [X'] 0)::l)) X2 A:=hY;refine tt ?_;apply bk <;> intro h3
  ·have h3p:=of_decide h3
   have wj:=wsucc (k:=j) (by omega)
   obtain ⟨idn,rfl,rfl⟩:=hq.sub h3p
   have hb:=hNb j h3p;refine tt ?_;refine ⟨h3p,rd_inner (f:=iI) (hY.get (x:=(idn,.cells 1 (N.map iI) 0)) (by simp)) h3p ?_⟩;refine tt ?_
   obtain ⟨qq,o,hqq⟩:=hY.split;refine ⟨⟨hb.1,by omega⟩,set_own (-1) (Owns.pull2 qq o) rfl (by rw [undo_len]; exact hb.2) fun H o=>?_⟩
   have hY:=LsO.mk (Owns.push2 qq o) hqq;rw [← undo_succ p' N h3p hb.1] at hY;refine tw wj ?_;exact for_next () h3p hY rfl
  ·have h3p:=of_ndecide h3
   have hje : j=N.length:=by omega
   rw [hje,hUn] at hY
   have hY:=hY.subl (l':=(idO,.cells 1 [X2] 0)::(idL,.cells 1 (p.map iI) 0)::l) (.cons_cons _ (.cons_cons _ ((List.sublist_cons_self _ _).trans (List.sublist_append_right _ _))))
   obtain ⟨r,hr⟩:=hpre
   cases b
   ·refine tt ?_
    have hbb:=of_decide_eq_false hb.symm;refine ⟨H,.refl _,X2, ?_, ?_⟩
    ·rw [hexS,hr,decide_eq_false];simp only [List.length_append]; omega
    ·rw [hexS,hr,hfs];rw [hfs,List.length_append] at hbb
     have e : (flatTo sizes ls p i k++exS sizes ls (p.set i k)++r).take (most+1 - out.length)=flatTo sizes ls p i k++(exS sizes ls (p.set i k)).take (most+1 - (out++flatTo sizes ls p i k).length):=by
      rw [List.append_assoc,List.take_append,List.take_of_length_le (by omega),List.take_append,List.length_append];rw [show most+1 - out.length - (flatTo sizes ls p i k).length=most+1 - (out.length+(flatTo sizes ls p i k).length) by omega];rw [show most+1 - (out.length+(flatTo sizes ls p i k).length) - (exS sizes ls (p.set i k)).length=0 by omega]
      simp
     rw [e,← List.append_assoc,hA]; exact hY
   ·refine tw w2 ?_
    have hbb:=of_decide_eq_true hb.symm;refine for_next X2 (by omega) ⟨?_,hbb⟩ rfl;rw [hfs,List.length_append] at hbb;rw [List.take_of_length_le (by rw [List.length_append]; omega)] at hA;rw [hfs,← List.append_assoc,hA]; exact hY
end Go.Proofs.Shf
namespace Go.AW
theorem wk_dual2 {F : Env→Heap→Prop} {σ : Env} {H0 H : Heap} {l : List (Nat × MObj)} {id sz : Nat} {cs : List AV} {fr : Nat} {cs0 : List AV} (t k : Nat) (hf : fr≤k) (hk : k≤cs.length) (o : Owns H0 H ((id,.cells sz cs fr)::l)) (ht : σ.get t=some (.dual cs0 id))
  (hF : ∀ H',Owns H0 H' ((id,.cells sz cs k)::l)→wkW F ((t,some (.dual (cs.take k) id))::σ) H') : wkW F σ H:=by
 have h1:=o.h0;simp only at h1;refine wkW_step (σ1:=(t,some (.dual (cs.take k) id))::σ) ?_ (hF _ (o.put (.cells sz cs k)))
 intro g B w tm hW hE
 obtain ⟨q1,q2⟩:=hE t _ ht
 generalize hu : tm.getD t undef=u at q2
 cases q2 with
 | dual _ _ b cap _ hio _ _ =>
  have hW1:=hW.setF h1 hio hf hk
  obtain ⟨p,hp,hr⟩:=hW.ob _ _ h1;rw [hio] at hp; cases hp;simp only [ObjRel] at hr
  obtain ⟨r1,r2,r3,r4,c,el,r5,r6,r7,r8⟩:=hr
  obtain ⟨g1,g2⟩:=hW1.addF b k c el (0,0) r5 fun i p o e hp hpb=>by
   by_cases hid : i=id
   ·subst hid;rw [hio] at hp; cases hp
    simp at e;exact ⟨_,_,_,e.symm,Nat.le_refl _⟩
   ·exfalso
    cases p with
    | nil=>cases hpb
    | blk b' cap' =>
     cases hpb;exact hW1.inj i id b cap' cap hid (by simp [e]) (by simp) hp hio
    | mp b' =>
     cases hpb
     obtain ⟨q,hq,hr⟩:=hW1.ob _ _ e;rw [hp] at hq; cases hq
     cases o with
     | cells sz' cs' f'=>simp [ObjRel] at hr
     | map ks vs =>
      simp only [ObjRel] at hr
      obtain ⟨_,_,es,clk,h5,_⟩:=hr;rw [r5] at h5; cases h5
  refine ⟨_,g1,g2,fun s x e=>?_⟩;simp only [Env.get] at e
  split at e
  ·rename_i hs; cases e; subst hs
   refine ⟨q1, ?_⟩;rw [hu]
   have hlt : (cs.take k).length=k:=by rw [List.length_take]; omega
   refine .dual _ id b cap (fun i=>c.getD i undef) (g1.io _ _ hio) (fun i hi=>?_) (fun i hi=>?_)
   ·rw [hlt] at hi;simp only [Gh.addF]
    have : i<c.size:=by omega
    simp [hi,Array.getD,this]
   ·rw [hlt] at hi
    have e2 : (cs.take k).getD i nv=cs.getD i nv:=by simp [List.getD_eq_getElem?_getD,hi]
    rw [e2]; exact (r8 i (by omega)).mono g1
  ·obtain ⟨z1,z2⟩:=hE s x e; exact ⟨z1,z2.mono g1⟩
theorem st_cells2 {H0 H : Heap} {l : List (Nat × MObj)} {K : Kont} {id sz off n fr : Nat} {cs vs : List AV} (o : Owns H0 H ((id,.cells sz cs fr)::l)) (h0 : fr≤off) (h1 : off+n≤cs.length) (h2 : vs.length=n) (h3 : ∀ c,c∈vs→c.one=true)
  (hk : ∀ H',Owns H0 H' ((id,.cells sz (wr cs off vs) fr)::l)→K nv H') : st1 (H.get id) id off n vs K H:=by
 have e:=o.h0;simp only at e;rw [e,st1_c];exact ⟨⟨h0,h1,h2,h3⟩,hk _ (o.put _)⟩
end Go.AW
namespace Go.Proofs.Shf
open Go.AW Go.Proofs Go.Shf
theorem repeated_own (B : Nat) (x : Int) (n : Nat) (hn : n≤1048576) (H0 H : Heap) (l : List (Nat × MObj)) (o : Owns H0 H l) : CallH Tryz.prog B 248 [.int .i64 x,.int .i64 n] H (OwnK iI H0 l (·=List.replicate n x)):=by
 refine c248p.go fun _=>?_;refine tt ?_;refine ⟨by simp [maxL]; omega,mks_list iI 0 rfl o fun id H o=>?_⟩;refine tt ?_;refine awp_for [0,5,10] (G:=Unit) (fun k _=>[(11,some (.int .i64 (k : Int)))]) (fun k _ H=>Owns H0 H ((id,.cells 1 ((List.replicate k x++List.replicate (n - k) 0).map iI) 0)::l)) n () (by simpa using o) rfl ?_;clear o
 rintro k _ H hk o
 replace o : Owns H0 H ((id,.cells 1 ((List.replicate k x++List.replicate (n - k) 0).map iI) 0)::l):=o;refine tt ?_;apply bk <;> intro h1
 ·have h1p:=of_decide h1
  have w:=wsucc (k:=k) (by omega);refine tt ?_;refine ⟨by omega,set_own x o rfl (by simp; omega) fun H o=>?_⟩
  have e : (List.replicate k x++List.replicate (n - k) 0).set k x=List.replicate (k+1) x++List.replicate (n - (k+1)) 0:=by
   rw [List.set_append_right _ _ (by simp),List.length_replicate,Nat.sub_self,show n - k=(n - (k+1))+1 by omega,List.replicate_succ (n:=n - (k+1)),List.set_cons_zero,List.replicate_succ' (n:=k),List.append_assoc]
   rfl
  rw [e] at o;refine tw w ?_;exact for_next () (by omega) o rfl
 ·have h1p:=of_ndecide h1;refine tt ?_
  obtain rfl : k=n:=by omega
  exact own_ret o (by simp) (by simp)
theorem take_succ_getD {α : Type} [Inhabited α] (l : List α) {k : Nat} (hk : k<l.length) : l.take (k+1)=l.take k++[l.getD k default]:=by
 have hN : l[k]=l.getD k default:=by simp [List.getD_eq_getElem?_getD,hk]
 rw [← hN]; exact (List.take_append_getElem hk).symm
def rulesOf (ls : List Lk) (k : Nat) (ks : List Int) : List (List Lk):=ks.map fun i=>(ls.take k).filter fun l=>decide (l.i=i)
theorem take_filter_succ (ls : List Lk) {k : Nat} (hk : k<ls.length) (i : Int) : ((ls.take (k+1)).filter fun l=>decide (l.i=i))=((ls.take k).filter fun l=>decide (l.i=i))++if (ls.getD k default).i=i then [ls.getD k default] else []:=by
 have hN : ls[k]=ls.getD k default:=by simp [List.getD_eq_getElem?_getD,hk]
 have ht : ls.take (k+1)=ls.take k++[ls.getD k default]:=by rw [← hN]; exact (List.take_append_getElem hk).symm
 rw [ht,List.filter_append]
 congr 1
 simp only [List.filter_cons,List.filter_nil,decide_eq_true_eq]
theorem rulesOf_in {ls : List Lk} {ks : List Int} {k : Nat} (hk : k<ls.length) (hin : (ls.getD k default).i∈ks) (hnd : ks.Nodup) :
  rulesOf ls (k+1) ks=(rulesOf ls k ks).set (ks.idxOf (ls.getD k default).i) ((rulesOf ls k ks).getD (ks.idxOf (ls.getD k default).i) []++[ls.getD k default]):=by
 generalize hr : ls.getD k default=r at *
 have hlt : ks.idxOf r.i<ks.length:=List.idxOf_lt_length_iff.mpr hin;apply List.ext_getElem (by simp [rulesOf])
 intro m h1 h2
 have hm : m<ks.length:=by simpa [rulesOf] using h1
 have hge : ks[ks.idxOf r.i]=r.i:=List.getElem_idxOf hlt;simp only [rulesOf,List.getElem_map,List.getElem_set,take_filter_succ ls hk,hr]
 by_cases e : ks.idxOf r.i=m
 ·subst e;rw [if_pos rfl,hge,if_pos rfl]
  simp [List.getD_eq_getElem?_getD,hlt,hge]
 ·rw [if_neg e,if_neg,List.append_nil]
  intro e2;exact e ((List.getElem_inj hnd (h₀:=hlt) (h₁:=hm)).mp (by rw [hge,e2]))
theorem rulesOf_out {ls : List Lk} {ks : List Int} {k : Nat} (hk : k<ls.length) (hin : ¬ (ls.getD k default).i∈ks) (hall : ∀ l,l∈ls.take k→l.i∈ks) :
  rulesOf ls (k+1) (ks++[(ls.getD k default).i])=rulesOf ls k ks++[[ls.getD k default]]:=by
 generalize hr : ls.getD k default=r at *;simp only [rulesOf,List.map_append,List.map_cons,List.map_nil,take_filter_succ ls hk,hr]
 congr 1
 ·apply List.map_congr_left
  intro i hi;rw [if_neg (show ¬ r.i=i from fun e=>hin (by rw [e]; exact hi)),List.append_nil]
 ·have : ((ls.take k).filter fun l=>decide (l.i=r.i))=[]:=by
   rw [List.filter_eq_nil_iff]
   intro l hl e
   have:=hall l hl; rw [of_decide_eq_true e] at this; exact hin this
  rw [this]; simp
theorem rulesOf_at {ls : List Lk} {ks : List Int} (hall : ∀ l,l∈ls→l.i∈ks) : RulesAt ls (ks.map iI) ((rulesOf ls ls.length ks).map (mL rlE)):=by
 refine ⟨fun i=>okKey_iI i ks,fun i=>?_⟩;rw [mget_iI (by simp [rulesOf])]
 by_cases hi : i∈ks
 ·left
  have hlt : ks.idxOf i<ks.length:=List.idxOf_lt_length_iff.mpr hi
  have hge : ks[ks.idxOf i]=i:=List.getElem_idxOf hlt
  simp [rulesOf,hlt,hge]
 ·right
  have hlt : ks.idxOf i=ks.length:=List.idxOf_eq_length hi;refine ⟨by simp [rulesOf,hlt], ?_⟩;rw [List.filter_eq_nil_iff]
  intro l hl e
  have:=hall l hl; rw [of_decide_eq_true e] at this; exact hi this
theorem solve_ok (B : Nat) (sizes : List Int) (ls : List Lk) (hls : LksId sizes ls) (hsl : sizes.length≤1000) (hbd : ∀ i,i<sizes.length→sizes.getD i default≤1000000) (hll : ls.length≤1000000) (most : Nat) (hmost : most≤1048576) :
  Pur Tryz.prog B 171 [iL sizes,mL rlE ls,.int .i64 most] (.tup [iLL ((solS sizes ls).take (most+1)),.bool (decide ((solS sizes ls).length≤most))]):=by
 refine ⟨fun H0=>c171p.go fun _=>?_⟩;refine tt ?_;refine newBuf_own (.nil _) fun idE H o=>tt ?_;refine newRef_own o fun idO H o=>tt ?_;refine sw o fun H o=>tt ?_;refine newMap_own o fun idM H o=>tt ?_;refine (repeated_own B (-1) sizes.length (by omega) H0 H _ o).own fun idL A H o hA=>?_;rw [hA] at o
 have hAl : A.length=sizes.length:=by rw [hA]; simp
 rw [hAl];clear hA hAl
 have hmc : (AV.mref idM).cells=[.mref idM]:=rfl;try simp only [go_sem,↓reduceIte,reduceEqDiff,reduceAdd,reduceMul,reduceLeDiff,reduceLT,hmc,wr_cons,wr_nil,List.set_cons_zero,List.set_cons_succ]
 refine nb o fun idS H o=>tt ?_;refine wk_dual 9 3 (by simp) o rfl fun H o=>wkW_done ?_;simp only [List.take_succ_cons,List.take_zero];refine tt ?_
 refine awp_for [5,8,9,21,22] (G:=List Int × List AV × List (Nat × MObj)) (fun k _=>[(23,some (.int .i64 (k : Int)))])
  (fun k g H=>LsRn 3 rlE g.2.1 (rulesOf ls k g.1) g.2.2∧g.1.Nodup∧(∀ l,l∈ls.take k→l.i∈g.1) ∧
   Owns H0 H ((idM,.map (g.1.map iI) g.2.1)::(g.2.2++[(idS,.cells 4 [iL sizes,AV.mref idM,AV.buf idL sizes.length,AV.nilf] 3),(idL,.cells 1 ((List.replicate sizes.length (-1)).map iI) 0),(idO,.cells 1 [AV.buf idE 0] 0),(idE,.cells 1 [] 0)])))
  ls.length ([],[],[]) ⟨.nil,.nil,by simp,o.perm (by
   refine List.Perm.trans ?_ (List.Perm.swap _ _ _);exact .cons _ (.swap _ _ _))⟩ rfl ?_
 clear o
 rintro k ⟨ks,Xs,ob⟩ H hk ⟨hR,hnd,hin,o⟩;dsimp only at hR hnd hin o;refine tt ?_
 have hXl : Xs.length=ks.length:=by have:=hR.len; simpa [rulesOf] using this
 apply bk <;> intro h1
 ·have h1p:=of_decide h1
  have w:=wsucc (k:=k) (by omega);refine tt ?_;refine ⟨h1p, ?_⟩;refine nb o fun id11 H o=>?_
  generalize hr : ls.getD k default=r at *;refine tt ?_;refine sw o fun H o=>tt ?_;refine wk_ref 11 o rfl fun H o=>wkW_done ?_
  have hg : H.get idM=some (.map (ks.map iI) Xs):=o.h0;refine tt ?_;rw [hg];refine tt ?_;refine ⟨okKey_iI _ _, ?_⟩;rw [mget_iI hXl]
  by_cases hi : r.i∈ks
  ·have hlt : ks.idxOf r.i<ks.length:=List.idxOf_lt_length_iff.mpr hi
   obtain ⟨p,rest,h2,h3,h4⟩:=hR.split (ks.idxOf r.i) (by omega)
   have e1 : (Xs[ks.idxOf r.i]?).getD .nilsl=Xs.getD (ks.idxOf r.i) nv:=by simp [List.getD_eq_getElem?_getD,hXl,hlt]
   rw [e1]
   have o:=o.perm (List.Perm.cons _ (List.Perm.append_right _ h2)) |>.perm (l:=_) (r:=p++((idM,.map (ks.map iI) Xs)::(rest++_))) (by
    rw [List.append_assoc]; exact List.perm_middle.symm)
   have hAl : ((rulesOf ls k ks).getD (ks.idxOf r.i) []).length≤ls.length:=by
    simp [rulesOf,List.getD_eq_getElem?_getD,hlt];exact Nat.le_trans (List.length_filter_le _ _) (by rw [List.length_take]; omega)
   refine h3.app (f:=rlE) o r rfl (by simp only [maxL]; omega) fun idn H o=>?_
   generalize hA : (rulesOf ls k ks).getD (ks.idxOf r.i) []=A at *
   have hg : H.get idM=some (.map (ks.map iI) Xs):=o.tl.h0;refine tt ?_;rw [hg];refine tt ?_;rw [mput_iI _ _ hXl,if_pos hi];refine tw w ?_
   obtain ⟨ob',q1,q2⟩:=h4 (.buf idn (A++[r]).length) (A++[r]) [(idn,.cells 3 (flat ((A++[r]).map rlE)) 0)] (.inr ⟨idn,rfl,rfl⟩);refine ⟨okKey_iI _ _,for_next (ks,Xs.set (ks.idxOf r.i) (.buf idn (A++[r]).length),ob') h1p ⟨?_,hnd, ?_, ?_⟩ rfl⟩
   ·have:=rulesOf_in h1p (by rw [hr]; exact hi) hnd;rw [hr,hA] at this
    show LsRn 3 rlE _ (rulesOf ls (k+1) ks) ob'
    rw [this]; exact q1
   ·intro l hl;rw [take_succ_getD ls h1p,List.mem_append,List.mem_singleton,hr] at hl
    rcases hl with hl | rfl
    ·exact hin l hl
    ·exact hi
   ·exact (o.swap.put _).perm (.cons _ (by
     rw [← List.cons_append];exact List.Perm.append_right _ q2.symm))
  ·have hlt : ks.idxOf r.i=ks.length:=List.idxOf_eq_length hi
   have e1 : (Xs[ks.idxOf r.i]?).getD .nilsl=.nilsl:=by simp [hXl,hlt]
   rw [e1]
   have hN : LsPn 3 rlE [] .nilsl ([] : List Lk):=.inl ⟨rfl,rfl,rfl⟩;refine hN.app (f:=rlE) (by exact o) r rfl (by simp [maxL]) fun idn H o=>?_
   have hg : H.get idM=some (.map (ks.map iI) Xs):=o.tl.h0;refine tt ?_;rw [hg];refine tt ?_;rw [mput_iI _ _ hXl,if_neg hi];refine tw w ?_;refine ⟨okKey_iI _ _,for_next (ks++[r.i],Xs++[.buf idn ([]++[r]).length],ob++[(idn,.cells 3 (flat (([]++[r]).map rlE)) 0)]) h1p ⟨?_, ?_, ?_, ?_⟩ rfl⟩
   ·have:=rulesOf_out h1p (by rw [hr]; exact hi) hin;rw [hr] at this
    show LsRn 3 rlE _ (rulesOf ls (k+1) (ks++[r.i])) _
    rw [this]; exact hR.snoc (.inr ⟨idn,rfl,rfl⟩)
   ·rw [List.nodup_append];refine ⟨hnd,by simp,fun a ha b hb=>?_⟩;rw [List.mem_singleton] at hb;subst hb
    rintro rfl;exact hi ha
   ·intro l hl;rw [take_succ_getD ls h1p,List.mem_append,List.mem_singleton,hr] at hl
    show l.i∈ks++[r.i]
    rw [List.mem_append,List.mem_singleton]
    rcases hl with hl | rfl
    ·exact .inl (hin l hl)
    ·exact .inr rfl
   ·refine (o.swap.put _).perm (.cons _ ?_);rw [List.append_assoc];exact List.perm_middle.symm
 ·have h1p:=of_ndecide h1;refine tt ?_
  obtain rfl : k=ls.length:=by omega
  refine wk_map hR [] H (by exact o) fun H o=>wkW_done ?_;clear hR
  have hfc : (AV.fn (.func 249) [.ref idO 0,.ptr [.int .i64 most]]).cells=[.fn (.func 249) [.ref idO 0,.ptr [.int .i64 most]]]:=rfl
  have o:=Owns.pull [_] o;refine tw hfc ?_;refine st_cells2 o (by simp) (by simp) rfl (by simp only [memcons,memnil]; exact ⟨rfl,trivial⟩) fun H o=>?_;simp only [wr_cons,wr_nil,List.set_cons_zero,List.set_cons_succ] at o;rw [List.nil_append] at o;refine wk_dual2 9 4 (by simp) (by simp) o rfl fun H o=>wkW_done ?_;simp only [List.take_succ_cons,List.take_zero]
  have hM:=rulesOf_at (ls:=ls) (ks:=ks) (by simpa using hin)
  have hX : LsO iL H0 H ((idO,.cells 1 [.buf idE 0] 0)::(idL,.cells 1 ((List.replicate sizes.length (-1)).map iI) 0)::[(idM,.map (ks.map iI) ((rulesOf ls ls.length ks).map (mL rlE))),(idS,.cells 4 [iL sizes,AV.mref idM,AV.buf idL sizes.length,.fn (.func 249) [.ref idO 0,.ptr [.int .i64 most]]] 4)]) (.buf idE 0) [] :=
   .inr ⟨idE,rfl,o.perm (List.reverse_perm _).symm⟩
  clear o
  have hneg : ∀ i : Int,0≤i→i.toNat<sizes.length→ix (List.replicate sizes.length (-1)) i=-1:=fun i h0 h1=>by
   simp [ix,List.getD_eq_getElem?_getD,h1]
  refine tt ?_
  refine (solver_run B sizes ls hls hsl hbd hll _ _ hM most hmost idL idM idS idO _ (List.replicate sizes.length (-1)) rfl ⟨by simp,fun q hq=>.inl (by
   rw [List.length_replicate] at hq
   simp [List.getD_eq_getElem?_getD,hq])⟩ (fun l hl h0=>by
    have a:=hls.ok.i l hl;rw [hneg _ a.1 a.2] at h0; omega) H0 H _ (.buf idE 0) [] hX (by simp) (by simp)).mono ?_
  clear hX
  rintro r H ⟨X,rfl,hX⟩;rw [List.nil_append,List.length_nil,Nat.sub_zero] at hX;rw [List.length_nil,Nat.zero_add]
  have hso : exS sizes ls (List.replicate sizes.length (-1))=solS sizes ls:=rfl;rw [hso] at hX ⊢;refine tt ?_;refine rd_get hX.obj (by simp) ?_;refine tt ?_
  rcases hX with ⟨rfl,e,o⟩ | ⟨id,rfl,o⟩
  ·refine tt ?_;exact pure_ret (by rw [e]; rfl) o.sub
  ·refine tt ?_;refine fz_own o rfl fun H o=>tt ?_;exact pure_ret rfl o.sub
end Go.Proofs.Shf
namespace Go.Shf
open Go.AW
def lkAt (f : SF) (s : List Int) (i : Nat) (b : Int) : Lk:=⟨(i : Int),indexOf s (ix (ix f.shape.comp (s.getD i default)) b),ix f.acts b,natsL (ix (famSizes f s) (indexOf s (ix (ix f.shape.comp (s.getD i default)) b)))⟩
theorem lks_at (f : SF) (s : List Int) (i : Nat) : ((rowsAt f.shape s i f.shape.frm.length).map (lkOf f s))=(outs f.shape (ix f.shape.to (s.getD i default))).map (lkAt f s i):=by
 rw [rowsAt,outs,List.map_map,List.map_map]
 rfl
theorem lksTo_succ (f : SF) (s : List Int) (k : Nat) : (rowsTo f.shape s (k+1)).map (lkOf f s)=(rowsTo f.shape s k).map (lkOf f s)++(outs f.shape (ix f.shape.to (s.getD k default))).map (lkAt f s k):=by
 rw [rowsTo_succ,List.map_append,lks_at]
theorem lksId {f : SF} {x : Int} {s : List Int} (h : f.Shape) (hs : f.shape.Sieve x s) : LksId (famSizes f s) (famLinks f s):=by
 refine ⟨lksOk h hs,fun l hl=>?_,fun l hl y hy=>?_⟩
 ·obtain ⟨r,hr,rfl⟩:=List.mem_map.mp hl
  rfl
 ·obtain ⟨r,hr,rfl⟩:=List.mem_map.mp hl
  obtain ⟨i,hi,b,hb,e,rfl⟩:=mem_rowsOf.mp hr
  have hx:=sieve_idx h hs hi hb e
  have ha:=h.act b (by rw [h.al]; exact hb);simp only [lkOf,lkRow,List.getD_cons_zero,List.getD_cons_succ,ix_nat] at hy ⊢
  have h1:=ha.2 y hy
  have h3:=(fam_size h hs hx.1.2).1
  have e2 : ix (famSizes f s) (indexOf s (ix (ix f.shape.comp (s.getD i default)) b))=ix f.sizes (f.shape.to.getD b default):=by
   have h4:=hx.2.1;simp only [ix] at h3 h4 ⊢;rw [h3,h4]
   have h5:=hx.2.2;simp only [ix,Int.toNat_natCast] at h5;simp only [Int.toNat_natCast];rw [h5]
  simp only [ix,Int.toNat_natCast] at e2 h1 ⊢;rw [e2]; exact h1
end Go.Shf
namespace Go.Proofs.Shf
open Go.AW Go.Proofs Go.Shf
theorem rules_ok (B : Nat) (f : SF) (h : f.Shape) (x : Int) (s : List Int) (hs : f.shape.Sieve x s) : Pur Tryz.prog B 166 [.ptr f.cells,iL s] (.tup [iL (famSizes f s),mL rlE (famLinks f s)]):=by
 refine ⟨fun H0=>c166.go fun hfi=>?_⟩
 have hm:=h.is.1.m
 have hob:=h.is.1.o
 have htl:=h.is.1.tol
 have hsl:=h.sl
 have hal:=h.al
 have hsn:=hs.len;refine tt ?_;refine newBuf_own (.nil _) fun id7 H o=>tt ?_;refine newBuf_own o fun id8 H o=>tt ?_
 refine awp_for [0,1,6,18,19] (G:=Nat × Nat) (fun k g=>[(7,some (.buf g.1 k)),(8,some (.buf g.2 ((rowsTo f.shape s k).map (lkOf f s)).length)),(20,some (.int .i64 (k : Int)))])
  (fun k g H=>Owns H0 H [(g.2,.cells 3 (flat (((rowsTo f.shape s k).map (lkOf f s)).map rlE)) 0),(g.1,.cells 1 (((famSizes f s).take k).map iI) 0)]) s.length (id7,id8) o rfl ?_
 clear o
 rintro k ⟨id7,id8⟩ H hk o;dsimp only at o;refine tt ?_;apply bk <;> intro h1
 ·have h1p:=of_decide h1
  have w:=wsucc (k:=k) (by omega)
  have hsm:=hs.arr (mem_getD.mpr ⟨k,h1p,rfl⟩)
  have hto:=h.is.1.toObj hsm.1.2
  have hsk : ix f.sizes (ix f.shape.to (s.getD k default))=(famSizes f s).getD k default:=(fam_size h hs h1p).1.symm
  have hfl : (famSizes f s).length=s.length:=by simp [famSizes]
  refine tt ?_;refine ⟨h1p,⟨hsm.1.1,by omega⟩,⟨hto.1,by omega⟩, ?_⟩;rw [hsk];refine app_own (f:=iI) ((famSizes f s).getD k default) o.swap rfl (by rw [List.length_take]; omega) (by rw [List.length_take]; simp only [maxL]; omega) fun id7 H o=>?_;rw [← take_succ_getD _ (by omega)] at o ⊢;refine tt ?_;refine ⟨⟨hsm.1.1,by omega⟩, ?_⟩;refine (outOf_ok B f.shape _).go fun _=>?_
  generalize hL : outs f.shape (ix f.shape.to (s.getD k default))=L at *;refine tt ?_
  have hLl : L.length≤40:=by
   rw [← hL,outs,List.length_map];refine Nat.le_trans (List.length_filter_le _ _) ?_;rw [List.length_range]; omega
  have hMl:=rowsTo_len f.shape s k
  have hMl2 : ((rowsTo f.shape s k).map (lkOf f s)).length≤1600:=by
   rw [List.length_map];refine Nat.le_trans hMl (Nat.le_trans (Nat.mul_le_mul (show k≤40 by omega) hm) (by omega))
  generalize hM : (rowsTo f.shape s k).map (lkOf f s)=M at *
  have w2 : ((famSizes f s).take (k+1)).length=k+1:=by rw [List.length_take]; omega
  rw [w2]
  refine awp_for [0,1,6,7,9,10,18,19,20,49,50] (G:=Nat) (fun j g=>[(8,some (.buf g (M++(L.take j).map (lkAt f s k)).length)),(51,some (.int .i64 (j : Int)))])
   (fun j g H=>Owns H0 H [(g,.cells 3 (flat ((M++(L.take j).map (lkAt f s k)).map rlE)) 0),(id7,.cells 1 (((famSizes f s).take (k+1)).map iI) 0)]) L.length id8 (by simpa using o.swap) (by simp only [List.take_zero,List.map_nil,List.append_nil]; rfl) ?_
  clear o
  rintro j id8 H hj o
  replace o : Owns H0 H [(id8,.cells 3 (flat ((M++(L.take j).map (lkAt f s k)).map rlE)) 0),(id7,.cells 1 (((famSizes f s).take (k+1)).map iI) 0)]:=o;refine tt ?_;apply bk <;> intro h2
  ·have h2p:=of_decide h2
   have w3:=wsucc (k:=j) (by omega)
   have hLj : L.getD j default∈L:=mem_getD.mpr ⟨j,h2p,rfl⟩;rw [← hL] at hLj
   have hb:=mem_outs.mp hLj;rw [hL] at hb
   generalize hbv : L.getD j default=b at *;refine tt ?_;refine ⟨h2p, ?_⟩;rw [hbv]
   have hcl:=h.is.1.cl
   have hrw:=h.is.1.row (s.getD k default).toNat hsm.1.2;refine ⟨_,(catThen_ok B f.shape (s.getD k default) b ⟨hsm.1.1,by omega⟩ ⟨hb.1,by simp only [ix]; omega⟩).run,tt ?_⟩;refine ⟨_,(index_ok B s _).run,⟨hb.1,by omega⟩, ?_⟩
   have hcc : ∀ z : Int,(AV.int .i64 z).cells=[.int .i64 z]:=fun _=>rfl;simp only [hcc,wr_cons,wr_nil,List.set_cons_zero,List.set_cons_succ];refine ⟨by simp,⟨rfl,by simp only [memcons,memnil]; exact ⟨rfl,rfl,rfl,trivial⟩⟩, ?_⟩;refine app_ownN (f:=rlE) (lkAt f s k b) o rfl rfl (by simp only [List.length_append,List.length_map,List.length_take,maxL]; omega) fun id9 H o=>?_
   have e : (M++(L.take j).map (lkAt f s k))++[lkAt f s k b]=M++(L.take (j+1)).map (lkAt f s k):=by
    rw [take_succ_getD L h2p,hbv,List.map_append,← List.append_assoc]; rfl
   rw [e] at o ⊢;refine tw w3 ?_;exact for_next id9 h2p o rfl
  ·have h2p:=of_ndecide h2
   obtain rfl : j=L.length:=by omega
   have e:=lksTo_succ f s k;rw [hM,hL] at e;rw [List.take_length,← e] at o ⊢;refine tw w ?_;exact for_next (id7,id8) h1p o rfl
 ·have h1p:=of_ndecide h1
  obtain rfl : k=s.length:=by omega
  refine tt ?_;refine fz_own o.swap ?_ fun H o=>?_
  ·simp [famSizes]
  refine fz_ownN o rfl fun H o=>tt ?_;exact pure_ret (by rw [List.take_of_length_le (by simp [famSizes])]; rfl) o.sub
theorem families_ok (B : Nat) (f : SF) (h : f.Shape) (x : Int) (s : List Int) (hs : f.shape.Sieve x s) (most : Nat) (hmost : most≤1048576) :
  Pur Tryz.prog B 93 [.ptr f.cells,iL s,.int .i64 most] (.tup [iLL ((famS f s).take (most+1)),.bool (decide ((famS f s).length≤most))]):=by
 refine ⟨fun H0=>c93.go fun hfi=>?_⟩
 have hm:=h.is.1.m
 have hsn:=hs.len
 have hfl : (famSizes f s).length=s.length:=by simp [famSizes]
 refine tt ?_;refine (rules_ok B f h x s hs).go fun _=>tt ?_;refine (solve_ok B (famSizes f s) (famLinks f s) (lksId h hs) (by omega) (fun i hi=>?_) ?_ most hmost).go fun _=>?_
 ·have:=(fam_size h hs (i:=i) (by omega)).2.2;omega
 ·rw [famLinks,List.length_map];refine Nat.le_trans (rowsTo_len f.shape s s.length) (Nat.le_trans (Nat.mul_le_mul (show s.length≤40 by omega) hm) (by omega))
 refine tt ?_;exact pure_ret rfl (.refl _)
end Go.Proofs.Shf
namespace Go.AW
def iB (b : UInt8) : AV:=.int .u8 (b.toNat : Int)
instance : One iB:=⟨fun _=>rfl,fun _=>rfl⟩
structure Src where
 code : List UInt8
 pl : Int
 hash : Int
def Src.cells (s : Src) : List AV:=[mL iB s.code,.int .i64 s.pl,.int .u64 s.hash]
def Src.Ok (s : Src) : Prop:=0≤s.pl∧s.code.length≤maxL
def Src.obj (s : Src) : MObj:=.cells 3 s.cells 0
def SrcK (id : Nat) (H0 : Heap) (Q : AV→Prop) : Kont:=fun r H'=>Q r∧∃ s' : Src,s'.Ok∧Owns H0 H' [(id,s'.obj)]
theorem Owns.self {H0 H : Heap} {id : Nat} {o : MObj} {l : List (Nat × MObj)} (h : Owns H0 H ((id,o)::l)) : Owns (H.del id) H [(id,o)] where
 sub:=fun i x hx=>by
  by_cases e : i=id
  ·subst e; rw [Heap.get_del_same] at hx; cases hx
  ·rwa [Heap.get_del_ne _ e] at hx
 get:=fun x hx=>by
  rw [List.mem_singleton] at hx; subst hx;exact h.get _ (by simp)
 nd:=by simp
 out:=fun x hx=>by
  rw [List.mem_singleton] at hx; subst hx;exact Heap.get_del_same _ _
end Go.AW
namespace Go.Proofs.Shf
open Go.AW Go.Proofs Go.Shf
theorem masked_ran {a x : Int} (h : IntKind.i64.wrap (IntKind.u64.wrap ((BitVec.ofInt IntKind.u64.bits a &&& BitVec.ofInt IntKind.u64.bits 16777215).toNat : Int))=x) : 0≤x∧x≤16777215:=by
 have h1 : (BitVec.ofInt IntKind.u64.bits a &&& BitVec.ofInt IntKind.u64.bits 16777215).toNat≤16777215:=by
  rw [BitVec.toNat_and]
  have : (BitVec.ofInt IntKind.u64.bits 16777215).toNat=16777215:=rfl;rw [this];exact Nat.and_le_right
 generalize (BitVec.ofInt IntKind.u64.bits a &&& BitVec.ofInt IntKind.u64.bits 16777215).toNat=m at h h1
 have e : IntKind.u64.wrap (m : Int)=m:=by
  have : IntKind.u64.wrap (m : Int)=(m : Int) % 18446744073709551616:=by simp only [IntKind.wrap]; rfl
  omega
 rw [e,wrap_i64 (by omega) (by omega)] at h;omega
def Rd (B : Nat) (fn : FuncId) (args : List AV) (Q : AV→Prop) : Prop :=
 ∀ (id : Nat) (s : Src) (H0 H : Heap),s.Ok→Owns H0 H [(id,s.obj)]→CallH Tryz.prog B fn (.ref id 0::args) H (SrcK id H0 Q)
theorem Rd.go {B : Nat} {fn : FuncId} {args : List AV} {Q : AV→Prop} {id : Nat} {s : Src} {H0 H : Heap} {l : List (Nat × MObj)} {K : Kont} (h : Rd B fn args Q) (hs : s.Ok) (o : Owns H0 H ((id,s.obj)::l))
  (hk : ∀ (r : AV) (s' : Src) (H' : Heap),r.fine→Q r→s'.Ok→Owns H0 H' ((id,s'.obj)::l)→K r H') : CallH Tryz.prog B fn (.ref id 0::args) H K :=
 (h id s _ H hs o.self).mono' fun r H' hf ⟨q,s',hs',o'⟩=>hk r s' H' hf q hs' (o.del.trans o')
theorem src_ret {id : Nat} {s : Src} {H0 H : Heap} {l : List (Nat × MObj)} {Q : AV→Prop} {v : AV} (q : Q v) (hs : s.Ok) (o : Owns H0 H ((id,s.obj)::l)) : subW (SrcK id H0 Q) v H :=
 ⟨H,.refl H,q,s,hs,o.subl (by simp)⟩
def Rets (B : Nat) (fn : FuncId) (args : List AV) (Q : AV→Prop) : Prop:=∀ H,CallH Tryz.prog B fn args H fun r H'=>Q r∧H'=H
theorem Rets.go {B : Nat} {fn : FuncId} {args : List AV} {Q : AV→Prop} {H : Heap} {K : Kont} (h : Rets B fn args Q) (hk : ∀ r,r.fine→Q r→K r H) : CallH Tryz.prog B fn args H K :=
 (h H).mono' fun r H' hf ⟨q,e⟩=>by subst e; exact hk r hf q
theorem rets_ret {H0 H : Heap} {Q : AV→Prop} {v : AV} (q : Q v) (h : H0.sub H) : subW (fun r H'=>Q r∧H'=H0) v H:=⟨H0,h,q,rfl⟩
theorem l01Next_ok (B : Nat) (n : Int) : Rd B 85 [iI n] fun r=>∃ k : Int,r=iI k∧0≤k∧(1≤n→k<n)∧(n<1→k=0):=by
 intro id s H0 H hs o;refine c85.go fun hf=>?_;refine tt ?_;apply bk <;> intro h1
 ·have h1p:=of_decide h1;refine tt ?_;exact src_ret ⟨0,rfl,by omega,by omega,fun _=>rfl⟩ hs o
 ·have h1p:=of_ndecide h1;refine tt ?_
  obtain ⟨code,pl,hash⟩:=s;simp only [Src.obj,Src.cells] at o;simp only [Src.Ok,maxL] at hs;refine rd_cells o (by simp) ?_;refine tt ?_;refine sw o fun H o=>tt ?_;refine rd_cells o (by simp) ?_;refine tt ?_
  generalize hx : IntKind.i64.wrap (IntKind.u64.wrap _)=x
  have hx2:=masked_ran hx;clear hx;refine ⟨by omega,rd_cells o (by simp) ?_⟩;refine tt ?_;refine rd_cells o (by simp) ?_;refine tt ?_;apply bk <;> intro h2
  ·have h2p:=of_decide h2;refine tt ?_;refine rd_cells o (by simp) ?_;refine tt ?_;refine rd_cells o (by simp) ?_;refine tt ?_;refine ⟨⟨hs.1,by omega⟩, ?_⟩
   have hb:=(ix code pl).toNat_lt;try simp only [go_sem,↓reduceIte,reduceEqDiff,reduceAdd,reduceMul,reduceLeDiff,reduceLT,iB]
   generalize (ix code pl).toNat=b at hb ⊢
   have e1 : IntKind.i64.wrap (b : Int)=b:=wrap_i64 (by omega) (by omega)
   have e2 : IntKind.i64.wrap (x+b)=x+b:=wrap_i64 (by omega) (by omega)
   have e3 : IntKind.i64.wrap (pl+1)=pl+1:=wrap_i64 (by omega) (by omega);try simp only [go_sem,↓reduceIte,reduceEqDiff,reduceAdd,reduceMul,reduceLeDiff,reduceLT,e1,e2]
   refine rd_cells o (by simp) ?_;refine tw e3 ?_;refine sw o fun H o=>tt ?_;refine ⟨by omega,src_ret (s:=⟨code,pl+1,_⟩) ⟨(x+b).tmod n,rfl, ?_, ?_, ?_⟩ ⟨by show 0≤pl+1; omega,hs.2⟩ o⟩
   ·exact Int.tmod_nonneg _ (by omega)
   ·intro h; exact Int.tmod_lt_of_pos _ (by omega)
   ·intro h; omega
  ·refine tt ?_;refine ⟨by omega,src_ret (s:=⟨code,pl,_⟩) ⟨x.tmod n,rfl, ?_, ?_, ?_⟩ hs o⟩
   ·exact Int.tmod_nonneg _ (by omega)
   ·intro h; exact Int.tmod_lt_of_pos _ (by omega)
   ·intro h; omega
theorem below_ok (B : Nat) (n : Int) : Rd B 35 [iI n] fun r=>∃ k : Int,r=iI k∧0≤k∧(1≤n→k<n)∧(n<1→k=0):=by
 intro id s H0 H hs o;refine c35.go fun hf=>?_;refine tt ?_;apply bk <;> intro h1
 ·have h1p:=of_decide h1;refine tt ?_;exact src_ret ⟨0,rfl,by omega,by omega,fun _=>rfl⟩ hs o
 ·have h1p:=of_ndecide h1;refine tt ?_
  obtain ⟨code,pl,hash⟩:=s;simp only [Src.obj,Src.cells] at o;simp only [Src.Ok,maxL] at hs;refine rd_cells o (by simp) ?_;refine tt ?_;refine sw o fun H o=>tt ?_;refine rd_cells o (by simp) ?_;refine tt ?_
  generalize hx : IntKind.i64.wrap (IntKind.u64.wrap _)=x
  have hx2:=masked_ran hx;clear hx;refine ⟨by omega,rd_cells o (by simp) ?_⟩;refine tt ?_;refine rd_cells o (by simp) ?_;refine tt ?_;apply bk <;> intro h2
  ·have h2p:=of_decide h2;refine tt ?_;refine rd_cells o (by simp) ?_;refine tt ?_;refine rd_cells o (by simp) ?_;refine tt ?_;refine ⟨⟨hs.1,by omega⟩, ?_⟩
   have hb:=(ix code pl).toNat_lt;try simp only [go_sem,↓reduceIte,reduceEqDiff,reduceAdd,reduceMul,reduceLeDiff,reduceLT,iB]
   generalize (ix code pl).toNat=b at hb ⊢
   have e1 : IntKind.i64.wrap (b : Int)=b:=wrap_i64 (by omega) (by omega)
   have e2 : IntKind.i64.wrap (x+b)=x+b:=wrap_i64 (by omega) (by omega)
   have e3 : IntKind.i64.wrap (pl+1)=pl+1:=wrap_i64 (by omega) (by omega);try simp only [go_sem,↓reduceIte,reduceEqDiff,reduceAdd,reduceMul,reduceLeDiff,reduceLT,e1,e2]
   refine rd_cells o (by simp) ?_;refine tw e3 ?_;refine sw o fun H o=>tt ?_;refine ⟨by omega,src_ret (s:=⟨code,pl+1,_⟩) ⟨(x+b).tmod n,rfl, ?_, ?_, ?_⟩ ⟨by show 0≤pl+1; omega,hs.2⟩ o⟩
   ·exact Int.tmod_nonneg _ (by omega)
   ·intro h; exact Int.tmod_lt_of_pos _ (by omega)
   ·intro h; omega
  ·refine tt ?_;refine ⟨by omega,src_ret (s:=⟨code,pl,_⟩) ⟨x.tmod n,rfl, ?_, ?_, ?_⟩ hs o⟩
   ·exact Int.tmod_nonneg _ (by omega)
   ·intro h; exact Int.tmod_lt_of_pos _ (by omega)
   ·intro h; omega
theorem l01Pick_ok (B : Nat) (l : List Int) (hl : l≠[]) : Rd B 162 [iL l] fun r=>∃ k : Int,r=iI k∧k∈l:=by
 intro id s H0 H hs o;refine c162.go fun hf=>?_
 have hp : 0<l.length:=List.length_pos_iff.mpr hl;refine tt ?_;refine (l01Next_ok B l.length).go hs o fun r s' H hr ⟨k,e,h0,h1,_⟩ hs o=>?_;subst e
 have h1:=h1 (by omega);refine tt ?_;refine ⟨⟨h0,by omega⟩,tt ?_⟩;exact src_ret ⟨_,rfl,ix_mem (by omega)⟩ hs o
theorem l02Number_ok (B : Nat) (n : Int) : Rd B 87 [iI n] fun r=>∃ k : Int,r=iI k:=by
 intro id s H0 H hs o;refine c87.go fun hf=>?_;refine tt ?_;refine (l01Next_ok B 40).go hs o fun r s' H hr ⟨k,e,h0,h1,_⟩ hs o=>?_;subst e;refine tt ?_;apply bk <;> intro h1
 ·refine tt ?_;refine ⟨?_, ?_⟩
  ·simp [maxL]
  refine (l01Pick_ok B [-1,n,9223372036854775807,-9223372036854775808] (by simp)).go hs o fun r s' H hr ⟨k,e,_⟩ hs o=>?_;subst e;refine tt ?_;exact src_ret ⟨_,rfl⟩ hs o
 ·refine tt ?_;refine (l01Next_ok B n).go hs o fun r s' H hr ⟨k,e,h0,h1,_⟩ hs o=>?_;subst e;refine tt ?_;exact src_ret ⟨_,rfl⟩ hs o
def MadeK (H0 : Heap) : Kont:=fun r H'=>∃ (id : Nat) (s : Src),r=.ref id 0∧s.Ok∧Owns H0 H' [(id,s.obj)]
theorem l01From_ok (B : Nat) (code : List UInt8) (H0 : Heap) : CallH Tryz.prog B 56 [mL iB code] H0 (MadeK H0):=by
 refine c56p.go fun ⟨hf,_⟩=>?_
 have hl:=fine_mL_le hf
 have hl':=hl;simp only [maxL] at hl';refine tt ?_;refine nb (.nil _) fun id H o=>tt ?_;refine awp_for [0,3] (G:=Int) (fun k _=>[(4,some (.int .i64 (k : Int)))]) (fun k h H=>Owns H0 H [(id,.cells 3 [mL iB code,.int .i64 0,.int .u64 h] 0)]) code.length _ o rfl ?_;clear o
 rintro k h H hk o
 have o : Owns H0 H [(id,.cells 3 [mL iB code,.int .i64 0,.int .u64 h] 0)]:=o
 have hend : MadeK H0 (.ref id 0) H:=⟨id,⟨code,0,h⟩,rfl,⟨Int.le_refl 0,hl⟩,o⟩;refine tt ?_;apply bk <;> intro h1
 ·have h1p:=of_decide h1;refine tw h1 ?_;apply bk <;> intro h2
  ·refine tt ?_;refine rd_cells o (by simp) ?_
   have w:=wsucc (k:=k) (by omega);try simp only [go_sem,↓reduceIte,reduceEqDiff,reduceAdd,reduceMul,reduceLeDiff,reduceLT,iB]
   refine ⟨by omega, ?_⟩;try simp only [go_sem,↓reduceIte,reduceEqDiff,reduceAdd,reduceMul,reduceLeDiff,reduceLT,iB]
   refine sw o fun H o=>?_;refine tw w ?_;exact for_next _ (by omega) o rfl
  ·refine tt ?_;exact ⟨H,.refl H,hend⟩
 ·refine tw h1 ?_;exact ⟨H,.refl H,hend⟩
theorem roll_ok (B : Nat) (code : List UInt8) (z : Int) (H0 : Heap) : CallH Tryz.prog B 34 [mL iB code,.int .u64 z] H0 (MadeK H0):=by
 refine c34p.go fun ⟨hf,_⟩=>?_
 have hl:=fine_mL_le hf
 have hl':=hl;simp only [maxL] at hl';refine tt ?_;refine nb (.nil _) fun id H o=>tt ?_;refine awp_for [0,5] (G:=Int) (fun k _=>[(6,some (.int .i64 (k : Int)))]) (fun k h H=>Owns H0 H [(id,.cells 3 [mL iB code,.int .i64 0,.int .u64 h] 0)]) code.length _ o rfl ?_;clear o
 rintro k h H hk o
 have o : Owns H0 H [(id,.cells 3 [mL iB code,.int .i64 0,.int .u64 h] 0)]:=o
 have hend : MadeK H0 (.ref id 0) H:=⟨id,⟨code,0,h⟩,rfl,⟨Int.le_refl 0,hl⟩,o⟩;refine tt ?_;apply bk <;> intro h1
 ·have h1p:=of_decide h1;refine tt ?_;refine rd_cells o (by simp) ?_
  have w:=wsucc (k:=k) (by omega);try simp only [go_sem,↓reduceIte,reduceEqDiff,reduceAdd,reduceMul,reduceLeDiff,reduceLT,iB]
  refine ⟨by omega, ?_⟩;try simp only [go_sem,↓reduceIte,reduceEqDiff,reduceAdd,reduceMul,reduceLeDiff,reduceLT,iB]
  refine sw o fun H o=>?_;refine tw w ?_;exact for_next _ (by omega) o rfl
 ·refine tt ?_;exact ⟨H,.refl H,hend⟩
theorem big_ok (B : Nat) (code : List UInt8) : Pur Tryz.prog B 8 [mL iB code] (.bool (decide (4096<code.length))):=by
 refine ⟨fun H0=>c8.go fun hf=>?_⟩;refine tt ?_;refine pure_ret ?_ (.refl _)
 congr 1
 exact decide_eq_decide.mpr (by omega)
theorem hasInt_ok (B : Nat) (l : List Int) (n : Int) : Pur Tryz.prog B 29 [iL l,.int .i64 n] (.bool (dec (n∈l))):=by
 refine ⟨fun H0=>c29.go fun ⟨hf,_⟩=>?_⟩
 have hl:=fine_mL_le hf;simp only [maxL] at hl;refine ta ?_;refine awp_for [0,1] (fun k _=>[(5,some (.int .i64 (k : Int)))]) (fun k _ H=>H=H0∧∀ i,i<k→l.getD i default≠n) l.length () ⟨rfl,by simp⟩ rfl ?_
 rintro k _ H hk ⟨rfl,hall⟩;refine ta ?_;apply bk <;> intro h1
 ·have h1:=of_decide h1
  have w1:=wsucc (k:=k) (by omega);refine ta ?_;apply bk <;> intro h2
  ·refine ta ?_;exact pure_ret (by rw [dec_t]; exact mem_getD.mpr ⟨k,h1,of_decide h2⟩) (.refl _)
  ·refine ta ?_;exact for_next () h1 ⟨rfl,lt_succ_all hall (of_ndecide h2)⟩ rfl
 ·refine ta ?_
  have h1:=of_ndecide h1;exact pure_ret (by rw [dec_f]; intro h; obtain ⟨i,hi,e⟩:=mem_getD.mp h; exact hall i (by omega) e) (.refl _)
theorem likeInts_ok (B : Nat) (a b : List Int) : Pur Tryz.prog B 24 [iL a,iL b] (.bool (dec (a=b))):=by
 refine ⟨fun H0=>c24.go fun ⟨hf,hg,_⟩=>?_⟩
 have hl:=fine_mL_le hf
 have hl2:=fine_mL_le hg;simp only [maxL] at hl hl2;refine tt ?_;apply bk <;> intro h0
 ·refine tt ?_
  have h0p : a.length≠b.length:=by simpa using h0
  exact pure_ret (by rw [dec_f]; rintro rfl; exact h0p rfl) (.refl _)
 have h0p : a.length=b.length:=by simpa using h0
 refine tt ?_;refine awp_for [0,1] (fun k _=>[(5,some (.int .i64 (k : Int)))]) (fun k _ H=>H=H0∧∀ i,i<k→a.getD i default=b.getD i default) a.length () ⟨rfl,by simp⟩ rfl ?_
 rintro k _ H hk ⟨rfl,hall⟩;refine tt ?_;apply bk <;> intro h1
 ·have h1:=of_decide h1
  have w1:=wsucc (k:=k) (by omega);refine tt ?_;refine ⟨h1,by omega,tt ?_⟩;apply bk <;> intro h2
  ·refine tt ?_
   have h2p : a.getD k default≠b.getD k default:=by simpa using h2
   exact pure_ret (by rw [dec_f]; rintro rfl; exact h2p rfl) (.refl _)
  ·refine tw w1 ?_
   have h2p : a.getD k default=b.getD k default:=by simpa using h2
   exact for_next () (by omega) ⟨rfl,lt_succ_all hall h2p⟩ rfl
 ·refine tt ?_
  have h1:=of_ndecide h1;refine pure_ret ?_ (.refl _);rw [dec_t];refine List.ext_getElem h0p fun i hi hj=>?_
  have:=hall i (by omega)
  simpa [List.getD_eq_getElem?_getD,hi,hj] using this
end Go.Proofs.Shf
namespace Go.AW
@[go_sem] theorem cells_emsl : AV.emsl.cells=[.emsl]:=rfl
@[go_sem] theorem one_emsl : AV.emsl.one=true:=rfl
@[go_sem] theorem le_maxL3 : (3≤maxL)=True:=by simp [maxL]
@[go_sem] theorem le_maxL4 : (4≤maxL)=True:=by simp [maxL]
@[go_sem] theorem le_maxL5 : (5≤maxL)=True:=by simp [maxL]
theorem permC {l r : Ob} (h : ∀ x,@List.count _ (@instBEqOfDecidableEq _ (Classical.typeDecidableEq _)) x l=@List.count _ (@instBEqOfDecidableEq _ (Classical.typeDecidableEq _)) x r) : l.Perm r:=by
 letI : DecidableEq (Nat × MObj):=Classical.typeDecidableEq _
 exact List.perm_iff_count.mpr h
def EmP {α : Type} (f : α→AV) (p : List (Nat × MObj)) (X : AV) (A : List α) : Prop :=
 (p=[]∧X=.emsl∧A=[])∨∃ id,p=[(id,.cells 1 (A.map f) 0)]∧X=.buf id A.length
theorem EmP.o {α : Type} {f : α→AV} {H0 H : Heap} {l p : List (Nat × MObj)} {X : AV} {A : List α} (h : EmP f p X A) (o : Owns H0 H (p++l)) : EmO f H0 H l X A:=by
 rcases h with ⟨rfl,h1,h2⟩ | ⟨id,rfl,h1⟩
 ·exact .inl ⟨h1,h2,o⟩
 ·exact .inr ⟨id,h1,o⟩
theorem wk_emc {F : Env→Heap→Prop} {σ : Env} {H0 H : Heap} {l : List (Nat × MObj)} {id sz fr : Nat} {cs : List AV} (k : Nat)
  (o : Owns H0 H ((id,.cells sz cs fr)::l)) (hc : cs[k]? = some .emsl) (hk : ∀ H',Owns H0 H' ((id,.cells sz (cs.set k (.sl [])) fr)::l)→wkW F σ H') : wkW F σ H:=by
 have h1:=o.h0;simp only at h1;refine wkW_step (σ1:=σ) ?_ (hk _ (o.put (.cells sz (cs.set k (.sl [])) fr)))
 intro g B w tm hW hE;refine ⟨g,.refl g,hW.recell h1 (by simp) fun j v hj hv=>?_,hE⟩
 by_cases e : j=k
 ·subst e
  have e1 : cs.getD j nv=.emsl:=by rw [List.getD_eq_getElem?_getD,hc]; rfl
  have e2 : (cs.set j (.sl [])).getD j nv=.sl []:=by simp [List.getD_eq_getElem?_getD,hj]
  rw [e1] at hv; rw [e2]
  cases hv; exact .slnil _ 0
 ·have e2 : (cs.set k (.sl [])).getD j nv=cs.getD j nv:=by
   rw [List.getD_eq_getElem?_getD,List.getElem?_set_ne (by omega),← List.getD_eq_getElem?_getD]
  rw [e2]; exact hv
theorem wk_em {α : Type} [Inhabited α] {f : α→AV} [One f] {F : Env→Heap→Prop} {σ : Env} {H0 H : Heap} {l p : List (Nat × MObj)} {id sz fr : Nat} {cs : List AV} {X : AV} {A : List α} (k : Nat)
  (h : EmP f p X A) (o : Owns H0 H (p++((id,.cells sz cs fr)::l))) (hc : cs[k]? = some X)
  (hk : ∀ H',Owns H0 H' ((id,.cells sz (cs.set k (mL f A)) fr)::l)→wkW F σ H') : wkW F σ H:=by
 rcases h with ⟨rfl,rfl,rfl⟩ | ⟨id2,rfl,rfl⟩
 ·exact wk_emc k o hc hk
 ·exact wk_cell k o.swap hc rfl hk
end Go.AW
namespace Go.Shf
open Go.AW
structure Cat.Sh (N : Nat) (c : Cat) : Prop where
 ob : 0≤c.objs∧c.objs≤N
 il : (c.idn.length : Int)=c.objs
 ml : c.frm.length≤N
 tl : c.to.length=c.frm.length
 cl : c.comp.length=c.frm.length
 row : ∀ f : Nat,f<c.frm.length→(c.comp.getD f default).length=c.frm.length
theorem Cat.Sh.mono {N M : Nat} {c : Cat} (h : c.Sh N) (hm : N≤M) : c.Sh M:=⟨by have:=h.ob; omega,h.il,by have:=h.ml; omega,h.tl,h.cl,h.row⟩
def CatQ (N : Nat) (r : AV) : Prop:=∃ c : Cat,r=.agg c.cells∧c.Sh N
def SqT (n : Nat) (T : List (List Int)) : Prop:=T.length≤n∧∀ i,i<T.length→(T.getD i default).length=T.length
def SqQ (n : Nat) (r : AV) : Prop:=∃ T : List (List Int),r=iLL T∧SqT n T
end Go.Shf
namespace Go.Proofs.Shf
open Go.AW Go.Proofs Go.Shf
theorem l02Monoid_ok (B : Nat) : Rd B 272 [] (SqQ 4):=by
 intro id s H0 H hs o;refine c272.go fun hf=>?_;refine tt ?_;refine (l01Next_ok B 8).go hs o fun r s' H hr ⟨k,e,h0,h1,_⟩ hs o=>?_;subst e;refine tt ?_;apply bk <;> intro q0
 ·refine tt ?_;exact src_ret ⟨[[0]],rfl,by decide,by decide⟩ hs o
 refine tt ?_;apply bk <;> intro q1
 ·refine tt ?_;exact src_ret ⟨[[0,1],[1,0]],rfl,by decide,by decide⟩ hs o
 refine tt ?_;apply bk <;> intro q2
 ·refine tt ?_;exact src_ret ⟨[[0,1],[1,1]],rfl,by decide,by decide⟩ hs o
 refine tt ?_;apply bk <;> intro q3
 ·refine tt ?_;exact src_ret ⟨[[0,1,2],[1,2,0],[2,0,1]],rfl,by decide,by decide⟩ hs o
 refine tt ?_;apply bk <;> intro q4
 ·refine tt ?_;exact src_ret ⟨[[0,1,2],[1,1,2],[2,2,2]],rfl,by decide,by decide⟩ hs o
 refine tt ?_;apply bk <;> intro q5
 ·refine tt ?_;exact src_ret ⟨[[0,1,2],[1,1,2],[2,1,2]],rfl,by decide,by decide⟩ hs o
 refine tt ?_;apply bk <;> intro q6
 ·refine tt ?_;exact src_ret ⟨[[0,1,2,3],[1,0,2,3],[2,3,2,3],[3,2,2,3]],rfl,by decide,by decide⟩ hs o
 refine tt ?_;exact src_ret ⟨[[0,1,2],[1,2,2],[2,2,2]],rfl,by decide,by decide⟩ hs o
theorem l02Split_ok (B : Nat) : Rets B 273 [] (CatQ 6):=by
 intro H0;refine c273.go fun hf=>?_;refine tt ?_;refine fun i1 n1=>tt ?_;refine rets_ret ⟨⟨2,[0,1,0,0,1],[0,1,0,1,0],[0,1],[[0,-1,2,3,-1],[-1,1,-1,-1,4],[2,-1,2,3,-1],[-1,3,-1,-1,2],[4,-1,4,1,-1]]⟩,rfl,by decide,by decide,by decide,by decide,by decide,by decide⟩ ?_
 repeat (first | exact .refl _ | refine sub_set ?_ n1)
theorem l02Fits_ok (B : Nat) (c : Cat) : Pur Tryz.prog B 209 [.agg c.cells] (.bool (dec (c.objs≤8∧c.frm.length≤40))):=by
 refine ⟨fun H0=>c209.go fun hf=>?_⟩;refine tt ?_;apply bk <;> intro h1
 ·refine tw h1 ?_
  exact pure_ret (by
   have h1p:=of_decide h1
   congr 1
   rw [decide_dec];exact dec_congr ⟨fun h=>⟨h1p,by omega⟩,fun h=>by have:=h.2; omega⟩) (.refl _)
 ·refine tw h1 ?_;exact pure_ret (by rw [dec_f (fun h=>of_ndecide h1 h.1)]) (.refl _)
theorem l03Monoid_ok (B : Nat) (T : List (List Int)) (hT : SqT 4 T) : Rets B 271 [iLL T] (CatQ 4):=by
 intro H0;refine c271p.go fun hf=>?_;refine tt ?_;refine newRef_own (.nil _) fun id H o=>tt ?_;refine ⟨_,(l01Own2_ok ..).run,tt ?_⟩
 have hT4:=hT.1
 have hc : (T.length : Int)≤T.length∧T.length≤maxL∧T.length≤maxL:=⟨by omega,by simp only [maxL]; omega,by simp only [maxL]; omega⟩;refine ⟨?_, ?_⟩
 ·refine ⟨hc,mks_list iI 0 rfl o fun i7 H o=>?_⟩;refine tt ?_;refine ⟨hc,mks_list iI 0 rfl o fun i9 H o=>?_⟩;refine tt ?_
  have o:=o.pull [_,_];simp only [List.cons_append,List.nil_append] at o;refine sw o fun H o=>tt ?_;refine wk_cell 2 o rfl (by simp) fun H o=>?_;simp only [List.set_cons_zero,List.set_cons_succ] at o;refine wk_cell 1 o rfl (by simp) fun H o=>wkW_done ?_;simp only [List.set_cons_zero,List.set_cons_succ] at o;refine tt ?_
  have hr:=o.rc 5 0 (by simp);simp only [List.drop_zero] at hr;rw [hr];refine tt ?_;exact rets_ret ⟨⟨1,List.replicate T.length 0,List.replicate T.length 0,[0],T⟩,rfl,by simp,by simp,by simpa using hT4,by simp,by simp,fun f hf=>by simpa using hT.2 f (by simpa using hf)⟩ o.sub
 ·refine ⟨hc,mks_list iI 0 rfl o fun i9 H o=>?_⟩;refine tt ?_;refine ⟨hc,mks_list iI 0 rfl o fun i7 H o=>?_⟩;refine tt ?_
  have o:=o.pull [_,_];simp only [List.cons_append,List.nil_append] at o;refine sw o fun H o=>tt ?_;refine wk_cell 1 o rfl (by simp) fun H o=>?_;simp only [List.set_cons_zero,List.set_cons_succ] at o;refine wk_cell 2 o rfl (by simp) fun H o=>wkW_done ?_;simp only [List.set_cons_zero,List.set_cons_succ] at o;refine tt ?_
  have hr:=o.rc 5 0 (by simp);simp only [List.drop_zero] at hr;rw [hr];refine tt ?_;exact rets_ret ⟨⟨1,List.replicate T.length 0,List.replicate T.length 0,[0],T⟩,rfl,by simp,by simp,by simpa using hT4,by simp,by simp,fun f hf=>by simpa using hT.2 f (by simpa using hf)⟩ o.sub
theorem l03Op_ok (B : Nat) (N : Nat) (hN : N≤4096) (c : Cat) (hc : c.Sh N) : Rets B 274 [.agg c.cells] (CatQ N):=by
 intro H0;refine c274p.go fun hf=>?_
 have hob:=hc.ob
 have hml:=hc.ml
 have htl:=hc.tl
 have hcl:=hc.cl
 have hrow:=hc.row;refine tt ?_;refine newRef_own (.nil _) fun id2 H o=>tt ?_;refine ⟨_,(l01Own_ok ..).run,tt ?_⟩;refine ⟨_,(l01Own_ok ..).run,tt ?_⟩;refine ⟨_,(l01Own_ok ..).run,tt ?_⟩;refine newRef_own o fun id3 H o=>tt ?_;refine sw o fun H o=>tt ?_
 refine awp_for [1,2,3] (G:=AV × Ob × List (List Int)) (fun k _=>[(4,some (.int .i64 (k : Int)))])
  (fun k g H=>EmP iL g.2.1 g.1 g.2.2∧g.2.2.length=k∧(∀ r,r∈g.2.2→r.length=c.frm.length)∧Owns H0 H (g.2.1++[(id3,MObj.cells 5 [iI c.objs,iL c.to,iL c.frm,iL c.idn,g.1] 0),(id2,MObj.cells 5 [iI 0,.nilsl,.nilsl,.nilsl,.nilsl] 0)])) c.frm.length (.emsl,[],[])
  ⟨.inl ⟨rfl,rfl,rfl⟩,rfl,by simp,o⟩ rfl ?_
 clear o
 rintro k ⟨X,p,A⟩ H hk ⟨hX,hA,hr,o⟩;dsimp only at hX hA hr o;refine tt ?_;apply bk <;> intro h1
 ·have h1p:=of_decide h1;refine tt ?_;refine newBuf_own o fun idr H o=>tt ?_
  refine awp_for [1,2,3,4] (G:=Nat × List Int) (fun j g=>[(5,some (.buf g.1 g.2.length)),(6,some (.int .i64 (j : Int)))])
   (fun j g H=>g.2.length=j∧Owns H0 H ((g.1,.cells 1 (g.2.map iI) 0)::(p++[(id3,MObj.cells 5 [iI c.objs,iL c.to,iL c.frm,iL c.idn,X] 0),(id2,MObj.cells 5 [iI 0,.nilsl,.nilsl,.nilsl,.nilsl] 0)]))) c.frm.length (idr,[]) ⟨rfl,o⟩ rfl ?_
  clear o
  rintro j ⟨idr,row⟩ H hj ⟨hrl,o⟩;dsimp only at hrl o;refine tt ?_;apply bk <;> intro h2
  ·have h2p:=of_decide h2
   have w:=wsucc (k:=j) (by omega)
   have hrj:=hrow j h2p;refine tt ?_;refine ⟨by omega,by omega, ?_⟩;refine app_own _ o rfl rfl (by simp only [maxL]; omega) fun idr H o=>?_;refine tw w ?_;exact for_next (idr,_) h2p ⟨by simp [hrl],o⟩ rfl
  ·have h2p:=of_ndecide h2;refine tt ?_;refine fz_own o rfl fun H o=>tt ?_;refine rd_get (o.get (id3,MObj.cells 5 [iI c.objs,iL c.to,iL c.frm,iL c.idn,X] 0) (by simp)) (by simp) ?_;refine tt ?_;refine (hX.o o).app row rfl (by simp only [maxL]; omega) fun id' H o=>tt ?_;refine sw o.swap fun H o=>?_
   have w:=wsucc (k:=k) (by omega);refine tw w ?_
   exact for_next (_,[(id',.cells 1 ((A++[row]).map iL) 0)],A++[row]) h1p ⟨.inr ⟨id',rfl,rfl⟩,by simp [hA],by
    intro r hr'
    rcases List.mem_append.mp hr' with h | h
    ·exact hr r h
    ·rw [List.mem_singleton] at h; subst h; omega,o.swap⟩ rfl
 ·have h1p:=of_ndecide h1;refine tt ?_;refine wk_em 4 hX o rfl fun H o=>wkW_done ?_;simp only [List.set_cons_zero,List.set_cons_succ] at o;refine tt ?_;refine rd_celln o (by simp) ?_;refine tt ?_;refine sw o.swap fun H o=>tt ?_
  have hr2:=o.rc 5 0 (by simp);simp only [List.drop_zero] at hr2;rw [hr2];refine tt ?_
  exact rets_ret ⟨⟨c.objs,c.to,c.frm,c.idn,A⟩,rfl,hob,hc.il,by show c.to.length≤N; omega,by show c.frm.length=c.to.length; omega,by show A.length=c.to.length; omega,fun f hf=>by
   show (A.getD f default).length=c.to.length
   rw [hr _ (mem_getD.mpr ⟨f,by have : f<c.to.length:=hf; omega,rfl⟩)]; omega⟩ o.sub
theorem l03Poset_ok (B : Nat) (R : List (List Int)) (hR : SqT 4 R) : Rets B 210 [iLL R] (CatQ 16):=by
 intro H0;refine c210p.go fun hf=>?_
 obtain ⟨hR4,hrow⟩:=hR;refine tt ?_;refine newRef_own (.nil _) fun id2 H o=>tt ?_;refine newBuf_own o fun idN H o=>tt ?_;refine newBuf_own o fun a H o=>tt ?_;refine newBuf_own o fun b H o=>tt ?_;refine newBuf_own o fun i H o=>tt ?_;refine newBuf_own o fun d H o=>tt ?_;refine newRef_own o fun id5 H o=>tt ?_;refine sw o fun H o=>tt ?_
 generalize hn : R.length=n at *
 refine awp_for [0,2,3,5] (G:=(Nat × List Int) × (Nat × List Int) × (Nat × List (List Int))) (fun k g=>[(4,some (.buf g.2.2.1 g.2.2.2.length)),(6,some (.int .i64 (k : Int)))])
  (fun k g H=>g.2.1.2.length=g.1.2.length∧g.1.2.length≤k*n∧(∀ y,y∈g.1.2→0≤y∧y<n)∧(∀ y,y∈g.2.1.2→0≤y∧y<n)∧g.2.2.2.length=k∧(∀ r,r∈g.2.2.2→r.length=n) ∧
   Owns H0 H [(id5,MObj.cells 5 [iI n,.buf g.1.1 g.1.2.length,.buf g.2.1.1 g.2.1.2.length,.buf i 0,.buf d 0] 0),(g.1.1,MObj.cells 1 (g.1.2.map iI) 0),(g.2.1.1,MObj.cells 1 (g.2.1.2.map iI) 0),(g.2.2.1,MObj.cells 1 (g.2.2.2.map iL) 0),
    (i,MObj.cells 1 [] 0),(d,MObj.cells 1 [] 0),(id2,MObj.cells 5 [iI 0,.nilsl,.nilsl,.nilsl,.nilsl] 0)]) n ((a,[]),(b,[]),(idN,[]))
  ⟨rfl,by simp,by simp,by simp,rfl,by simp,o.pm⟩ rfl ?_
 clear o
 rintro k ⟨⟨a,A⟩,⟨b,C⟩,⟨idN,rows⟩⟩ H hk ⟨hC,hA,hAr,hCr,hrl,hrr,o⟩;dsimp only at hC hA hAr hCr hrl hrr
 replace o : Owns H0 H [(id5,MObj.cells 5 [iI n,.buf a A.length,.buf b C.length,.buf i 0,.buf d 0] 0),(a,MObj.cells 1 (A.map iI) 0),(b,MObj.cells 1 (C.map iI) 0),(idN,MObj.cells 1 (rows.map iL) 0),
    (i,MObj.cells 1 [] 0),(d,MObj.cells 1 [] 0),(id2,MObj.cells 5 [iI 0,.nilsl,.nilsl,.nilsl,.nilsl] 0)]:=o
 refine tt ?_;apply bk <;> intro h1
 ·have h1p:=of_decide h1;refine tt ?_;refine newBuf_own o fun idr H o=>tt ?_
  have hkn : k*n+n≤16:=by
   have : (k+1)*n≤4*4:=Nat.mul_le_mul (by omega) (by omega);rw [Nat.succ_mul] at this; omega
  refine awp_for [0,2,3,4,5,6] (G:=(Nat × List Int) × (Nat × List Int) × (Nat × List Int)) (fun j g=>[(7,some (.buf g.1.1 g.1.2.length)),(8,some (.int .i64 (j : Int)))])
   (fun j g H=>g.1.2.length=j∧g.2.2.2.length=g.2.1.2.length∧g.2.1.2.length≤k*n+j∧(∀ y,y∈g.2.1.2→0≤y∧y<n)∧(∀ y,y∈g.2.2.2→0≤y∧y<n) ∧
    Owns H0 H [(g.1.1,MObj.cells 1 (g.1.2.map iI) 0),(id5,MObj.cells 5 [iI n,.buf g.2.1.1 g.2.1.2.length,.buf g.2.2.1 g.2.2.2.length,.buf i 0,.buf d 0] 0),(g.2.1.1,MObj.cells 1 (g.2.1.2.map iI) 0),(g.2.2.1,MObj.cells 1 (g.2.2.2.map iI) 0),(idN,MObj.cells 1 (rows.map iL) 0),
    (i,MObj.cells 1 [] 0),(d,MObj.cells 1 [] 0),(id2,MObj.cells 5 [iI 0,.nilsl,.nilsl,.nilsl,.nilsl] 0)]) n ((idr,[]),(a,A),(b,C))
   ⟨rfl,hC,by omega,hAr,hCr,o⟩ rfl ?_
  clear o hA hAr hCr hC
  rintro j ⟨⟨idr,row⟩,⟨a,A⟩,⟨b,C⟩⟩ H hj ⟨hrow',hC,hA,hAr,hCr,o⟩
  replace hrow' : row.length=j:=hrow';dsimp only at hC hA hAr hCr
  replace o : Owns H0 H [(idr,MObj.cells 1 (row.map iI) 0),(id5,MObj.cells 5 [iI n,.buf a A.length,.buf b C.length,.buf i 0,.buf d 0] 0),(a,MObj.cells 1 (A.map iI) 0),(b,MObj.cells 1 (C.map iI) 0),(idN,MObj.cells 1 (rows.map iL) 0),
    (i,MObj.cells 1 [] 0),(d,MObj.cells 1 [] 0),(id2,MObj.cells 5 [iI 0,.nilsl,.nilsl,.nilsl,.nilsl] 0)]:=o
  refine tt ?_;apply bk <;> intro h2
  ·have h2p:=of_decide h2
   have w:=wsucc (k:=j) (by omega);refine tt ?_;refine rd_cells o.tl (by simp) ?_;refine tt ?_;refine app_own _ o rfl rfl (by simp only [maxL]; omega) fun idr H o=>?_
   have hR1:=hrow k (by omega);refine tt ?_;refine ⟨by omega,by omega, ?_⟩;apply bk <;> intro h3
   ·refine tt ?_;refine rd_cells o.tl (by simp) ?_;refine tt ?_;refine app_own _ (o.pull [_,_]) rfl rfl (by simp only [maxL]; omega) fun a H o=>tt ?_;refine sw (o.pull [_,_]) fun H o=>tt ?_;refine rd_cells o (by simp) ?_;refine tt ?_;refine app_own _ (o.pull [_,_,_]) rfl rfl (by simp only [maxL]; omega) fun b H o=>tt ?_;refine sw o.swap fun H o=>?_;refine tw w ?_;refine for_next ((idr,_),(a,A++[(k : Int)]),(b,C++[(j : Int)])) h2p ⟨by simp [hrow'],by simp [hC],by simp; omega, ?_, ?_,o.pm⟩ rfl
    ·intro y hy
     rcases List.mem_append.mp hy with h | h
     ·exact hAr y h
     ·rw [List.mem_singleton] at h; subst h; omega
    ·intro y hy
     rcases List.mem_append.mp hy with h | h
     ·exact hCr y h
     ·rw [List.mem_singleton] at h; subst h; omega
   ·refine tw w ?_;exact for_next ((idr,_),(a,A),(b,C)) h2p ⟨by simp [hrow'],hC,by show A.length≤_; omega,hAr,hCr,o⟩ rfl
  ·have h2p:=of_ndecide h2;refine tt ?_;refine fz_own o rfl fun H o=>tt ?_;refine app_own row (o.pull [_,_,_]) rfl rfl (by simp only [maxL]; omega) fun idN H o=>?_
   have w:=wsucc (k:=k) (by omega);refine tw w ?_;refine for_next ((a,A),(b,C),(idN,rows++[row])) h1p ⟨hC,by show A.length≤_; rw [Nat.succ_mul]; omega,hAr,hCr,by simp [hrl], ?_,o.pm⟩ rfl
   intro r hr
   rcases List.mem_append.mp hr with h | h
   ·exact hrr r h
   ·rw [List.mem_singleton] at h; subst h; omega
 ·have h1p:=of_ndecide h1
  have hkn : k=n:=by omega
  subst hkn
  have hA16 : A.length≤16:=Nat.le_trans hA (Nat.mul_le_mul hR4 hR4);refine tt ?_;refine fz_own (o.pull [_,_,_]) rfl fun H o=>tt ?_
  refine awp_for [2,3,4,5] (G:=(Nat × List Int)) (fun j g=>[(9,some (.int .i64 (j : Int)))])
   (fun j g H=>g.2.length=j∧Owns H0 H [(id5,MObj.cells 5 [iI k,.buf a A.length,.buf b C.length,.buf g.1 g.2.length,.buf d 0] 0),(g.1,MObj.cells 1 (g.2.map iI) 0),(a,MObj.cells 1 (A.map iI) 0),(b,MObj.cells 1 (C.map iI) 0),
    (d,MObj.cells 1 [] 0),(id2,MObj.cells 5 [iI 0,.nilsl,.nilsl,.nilsl,.nilsl] 0)]) k (i,[]) ⟨rfl,o.pm⟩ rfl ?_
  clear o
  rintro j ⟨i,I⟩ H hj ⟨hI,o⟩;dsimp only at hI
  replace o : Owns H0 H [(id5,MObj.cells 5 [iI k,.buf a A.length,.buf b C.length,.buf i I.length,.buf d 0] 0),(i,MObj.cells 1 (I.map iI) 0),(a,MObj.cells 1 (A.map iI) 0),(b,MObj.cells 1 (C.map iI) 0),
    (d,MObj.cells 1 [] 0),(id2,MObj.cells 5 [iI 0,.nilsl,.nilsl,.nilsl,.nilsl] 0)]:=o
  refine tt ?_;apply bk <;> intro h2
  ·have h2p:=of_decide h2
   have w:=wsucc (k:=j) (by omega)
   have hrj:=hrr (rows.getD j default) (mem_getD.mpr ⟨j,by omega,rfl⟩);refine tt ?_;refine rd_cells o (by simp) ?_;refine tt ?_;refine ⟨by omega,by omega,tt ?_⟩;refine app_own _ o.swap rfl rfl (by simp only [maxL]; omega) fun i H o=>tt ?_;refine sw o.swap fun H o=>?_;refine tw w ?_;exact for_next (i,_) h2p ⟨by simp [hI],o⟩ rfl
  ·have h2p:=of_ndecide h2
   have hIk : I.length=k:=by omega
   refine tt ?_;refine wk_cell 3 o rfl rfl fun H o=>?_;simp only [List.set_cons_zero,List.set_cons_succ] at o;refine wk_cell 1 o rfl rfl fun H o=>?_;simp only [List.set_cons_zero,List.set_cons_succ] at o;refine wk_cell 2 o rfl rfl fun H o=>wkW_done ?_;simp only [List.set_cons_zero,List.set_cons_succ] at o;clear h2 h2p hj hI;refine tt ?_
   refine awp_for [2,4,5] (G:=(Nat × List (List Int))) (fun j g=>[(10,some (.int .i64 (j : Int)))])
    (fun j g H=>g.2.length=j∧(∀ r,r∈g.2→r.length=A.length)∧Owns H0 H [(id5,MObj.cells 5 [iI k,iL A,iL C,iL I,.buf g.1 g.2.length] 0),(g.1,MObj.cells 1 (g.2.map iL) 0),(id2,MObj.cells 5 [iI 0,.nilsl,.nilsl,.nilsl,.nilsl] 0)]) A.length (d,[]) ⟨rfl,by simp,o⟩ rfl ?_
   clear o
   rintro f ⟨d,D⟩ H hf' ⟨hD,hDr,o⟩;dsimp only at hD hDr o;refine tt ?_;refine rd_cells o (by simp) ?_;refine tt ?_;apply bk <;> intro h2
   ·have h2p:=of_decide h2;refine tt ?_;refine newBuf_own o fun idr H o=>tt ?_
    refine awp_for [2,4,5,10] (G:=Nat × List Int) (fun g r=>[(11,some (.buf r.1 r.2.length)),(12,some (.int .i64 (g : Int)))])
     (fun g r H=>r.2.length=g∧Owns H0 H [(r.1,MObj.cells 1 (r.2.map iI) 0),(id5,MObj.cells 5 [iI k,iL A,iL C,iL I,.buf d D.length] 0),(d,MObj.cells 1 (D.map iL) 0),(id2,MObj.cells 5 [iI 0,.nilsl,.nilsl,.nilsl,.nilsl] 0)]) A.length (idr,[]) ⟨rfl,o⟩ rfl ?_
    clear o
    rintro g ⟨idr,row⟩ H hg ⟨hrl',o⟩
    replace hrl' : row.length=g:=hrl';dsimp only at o;refine tt ?_;refine rd_cells o.tl (by simp) ?_;refine tt ?_;apply bk <;> intro h3
    ·have h3p:=of_decide h3
     have w:=wsucc (k:=g) (by omega);refine tt ?_;refine rd_cells o.tl (by simp) ?_;refine tt ?_;refine ⟨by omega, ?_⟩;refine rd_cells o.tl (by simp) ?_;refine tt ?_;refine ⟨by omega,tt ?_⟩
     have hAf:=hAr (A.getD f default) (mem_getD.mpr ⟨f,h2p,rfl⟩)
     have hCg:=hCr (C.getD g default) (mem_getD.mpr ⟨g,by omega,rfl⟩)
     have hrx:=hrr (ix rows (A.getD f default)) (ix_mem (by omega));apply bk <;> intro h4
     ·refine tt ?_;refine rd_cells o.tl (by simp) ?_;refine tt ?_;refine ⟨h2p,⟨by omega,by omega⟩, ?_⟩;refine rd_cells o.tl (by simp) ?_;refine tt ?_;refine ⟨by omega,⟨by omega,by omega⟩, ?_⟩;refine app_own _ o rfl rfl (by simp only [maxL]; omega) fun idr H o=>?_;refine tw w ?_;exact for_next (idr,_) h3p ⟨by simp [hrl'],o⟩ rfl
     ·refine tt ?_;refine app_own _ o rfl rfl (by simp only [maxL]; omega) fun idr H o=>?_;refine tw w ?_;exact for_next (idr,_) h3p ⟨by simp [hrl'],o⟩ rfl
    ·have h3p:=of_ndecide h3
     have w:=wsucc (k:=f) (by omega);refine tt ?_;refine fz_own o rfl fun H o=>tt ?_;refine rd_cells o (by simp) ?_;refine tt ?_;refine app_own row o.swap rfl rfl (by simp only [maxL]; omega) fun d H o=>tt ?_;refine sw o.swap fun H o=>?_;refine tw w ?_;refine for_next (d,D++[row]) h2p ⟨by simp [hD], ?_,o⟩ rfl
     intro r hr
     rcases List.mem_append.mp hr with h | h
     ·exact hDr r h
     ·rw [List.mem_singleton] at h; subst h; omega
   ·have h2p:=of_ndecide h2;refine tt ?_;refine wk_cell 4 o rfl rfl fun H o=>wkW_done ?_;simp only [List.set_cons_zero,List.set_cons_succ] at o;refine tt ?_;refine rd_celln o (by simp) ?_;refine tt ?_;refine sw o.swap fun H o=>tt ?_
    have hr2:=o.rc 5 0 (by simp);simp only [List.drop_zero] at hr2;rw [hr2];refine tt ?_
    have hDA : D.length=A.length:=by omega
    refine rets_ret ⟨⟨k,A,C,I,D⟩,rfl,⟨by show (0 : Int)≤(k : Int); omega,by show (k : Int)≤((16 : Nat) : Int); omega⟩,by show (I.length : Int)=k; omega,hA16,hC,hDA,fun x hx=>?_⟩ o.sub;exact hDr _ (mem_getD.mpr ⟨x,by rw [hDA]; exact hx,rfl⟩)
end Go.Proofs.Shf
namespace Go.AW
theorem LsR.inner {α : Type} {f : α→AV} : ∀ (ms : List (Nat × List α)),LsR f (ms.map bufE) (ms.map Prod.snd) (inner f ms)
 | []=>.nil
 | m::ms=>LsR.cons (p:=[(m.1,.cells 1 (m.2.map f) 0)]) (.inr ⟨m.1,rfl,rfl⟩) (LsR.inner ms)
theorem app_own' {α : Type} [Inhabited α] {f : α→AV} [One f] {H0 H : Heap} {l : Ob} {K : Kont} {id fr n : Nat} {out : List α} (a : α) {v : AV} (h : Owns H0 H ((id,.cells 1 (out.map f) fr)::l)) (hv : v=f a) (hn : n=out.length) (hm : out.length+1≤maxL)
  (hk : ∀ id' H' A,A=out++[a]→A.length=out.length+1→Owns H0 H' ((id',.cells 1 (A.map f) fr)::l)→K (.buf id' A.length) H') : appW 1 (some (.buf id n)) (some (.sl [v])) K H :=
 app_own a h hv hn hm fun id' H' o=>hk id' H' _ rfl (by simp) o
end Go.AW
namespace Go.Proofs.Shf
open Go.AW Go.Proofs Go.Shf
theorem l01Own2_own (B : Nat) (T : List (List Int)) (H0 H : Heap) (l : Ob) (o : Owns H0 H l) :
  CallH Tryz.prog B 183 [iLL T] H (fun r H'=>∃ d Xs ob,r=.buf d Xs.length∧LsR iI Xs T ob∧Owns H0 H' ((d,.cells 1 Xs 0)::(ob++l))):=by
 refine c183p.go fun ⟨hf,_⟩=>?_
 have hl:=fine_mL_le hf;simp only [maxL] at hl;refine tt ?_;refine newBuf_own o fun d H o=>tt ?_
 refine awp_for [0] (G:=Nat × List (Nat × List Int)) (fun k g=>[(3,some (.buf g.1 g.2.length)),(4,some (.int .i64 (k : Int)))])
  (fun k g H=>g.2.map Prod.snd=T.take k∧Owns H0 H ((g.1,MObj.cells 1 (g.2.map bufE) 0)::(inner iI g.2++l))) T.length (d,[]) ⟨by simp,o⟩ rfl ?_
 clear o
 rintro k ⟨d,ms⟩ H hk ⟨hms,o⟩;dsimp only at hms o
 have hml : ms.length=k:=by
  have:=congrArg List.length hms
  simpa [Nat.min_eq_left hk] using this
 refine tt ?_;apply bk <;> intro h1
 ·have h1p:=of_decide h1
  have w:=wsucc (k:=k) (by omega);refine tt ?_;refine ⟨h1p, ?_⟩;refine (l01Own_own B (T.getD k default) H0 H _ o).own fun id A H o hA=>?_;subst hA;refine tt ?_;refine app_own (f:=bufE) (id,T.getD k default) o.swap rfl rfl (by simp only [maxL]; omega) fun d H o=>?_;refine tw w ?_;refine for_next (d,ms++[(id,T.getD k default)]) h1p ⟨by rw [List.map_append,hms,take_succ' T h1p]; rfl, ?_⟩ rfl;refine o.perm (.cons _ ?_);simp only [inner,List.map_append,List.map_cons,List.map_nil,List.append_assoc,List.cons_append,List.nil_append];exact List.perm_middle.symm
 ·have h1p:=of_ndecide h1
  obtain rfl : k=T.length:=by omega
  rw [List.take_length] at hms;refine tt ?_;refine ⟨H,.refl H,d,ms.map bufE,inner iI ms,by simp, ?_,o⟩;rw [← hms]; exact LsR.inner ms
theorem New.go' {P : Program} {B : Nat} {fn : FuncId} {args : List AV} {O : Ob→AV→Prop} {H0 H : Heap} {l : Ob} {K : Kont} (h : New P B fn args O) (o : Owns H0 H l) (hk : ∀ r p H',O p r→Owns H0 H' (p++l)→H.sub H'→K r H') : CallH P B fn args H K :=
 (h.run H).mono fun r H' ⟨p,q1,q2⟩=>hk r p H' q1 (o.trans q2) q2.sub
def OLb (l : List Int) (p : Ob) (X : AV) : Prop:=∃ id,X=.buf id l.length∧p=[(id,.cells 1 (l.map iI) 0)]
theorem l01Own_new (B : Nat) (l : List Int) : New Tryz.prog B 84 [iL l] (OLb l) :=
 ⟨fun H=>(l01Own_own B l H H [] (.nil H)).mono fun r H' ⟨id,A,e,o,q⟩=>by
  subst e q;exact ⟨_,⟨id,rfl,rfl⟩,o⟩⟩
def OLLb (T : List (List Int)) (p : Ob) (X : AV) : Prop:=∃ d Xs ob,X=.buf d Xs.length∧LsR iI Xs T ob∧p=(d,.cells 1 Xs 0)::ob
theorem l01Own2_new (B : Nat) (T : List (List Int)) : New Tryz.prog B 183 [iLL T] (OLLb T) :=
 ⟨fun H=>(l01Own2_own B T H H [] (.nil H)).mono fun r H' ⟨d,Xs,ob,e,h,o⟩=>by
  rw [List.append_nil] at o;exact ⟨_,⟨d,Xs,ob,e,h,rfl⟩,o⟩⟩
def OCb (c : Cat) (p : Ob) (X : AV) : Prop:=∃ a b i d Xs ob,X=.agg [iI c.objs,.buf a c.frm.length,.buf b c.to.length,.buf i c.idn.length,.buf d Xs.length]∧LsR iI Xs c.comp ob ∧
 p=(a,.cells 1 (c.frm.map iI) 0)::(b,.cells 1 (c.to.map iI) 0)::(i,.cells 1 (c.idn.map iI) 0)::(d,.cells 1 Xs 0)::ob
theorem l02Own_new (B : Nat) (c : Cat) : New Tryz.prog B 144 [.agg c.cells] (OCb c):=by
 refine ⟨fun H0=>c144p.go fun _=>?_⟩;refine tt ?_;refine newRef_own (.nil _) fun id H o=>tt ?_;refine New.go' (l01Own_new B c.frm) o fun X1 p1 H ⟨a,e1,e2⟩ o hs=>⟨hs, ?_⟩;subst e1 e2;refine tt ?_;refine New.go' (l01Own_new B c.to) o fun X1 p1 H ⟨b,e1,e2⟩ o hs=>⟨hs, ?_⟩;subst e1 e2;refine tt ?_;refine New.go' (l01Own_new B c.idn) o fun X1 p1 H ⟨i,e1,e2⟩ o hs=>⟨hs, ?_⟩;subst e1 e2;refine tt ?_;refine New.go' (l01Own2_new B c.comp) o fun X1 p1 H ⟨d,Xs,ob,e1,h,e2⟩ o hs=>⟨hs, ?_⟩;subst e1 e2;refine tt ?_
 have o : Owns H0 H ((id,MObj.cells 5 [iI 0,.nilsl,.nilsl,.nilsl,.nilsl] 0)::(a,MObj.cells 1 (c.frm.map iI) 0)::(b,MObj.cells 1 (c.to.map iI) 0)::(i,MObj.cells 1 (c.idn.map iI) 0)::(d,MObj.cells 1 Xs 0)::ob):=o.pm;refine sw o fun H o=>tt ?_
 have hr:=o.rc 5 0 (by simp);simp only [List.drop_zero] at hr;rw [hr];exact ⟨H,.refl H,_,⟨a,b,i,d,Xs,ob,rfl,h,rfl⟩,o.tl⟩
end Go.Proofs.Shf
namespace Go.AW
theorem LsR.snoc' {α : Type} {f : α→AV} {Xs : List AV} {As : List (List α)} {o p : List (Nat × MObj)} {X : AV} {A : List α} (h : LsR f Xs As o) (hp : LsP f p X A) : LsR f (Xs++[X]) (As++[A]) (o++p):=by
 induction h with
 | nil=>simpa using LsR.cons hp .nil
 | cons q _ ih=>simpa using LsR.cons q ih
theorem app_raw {H0 H : Heap} {l : Ob} {K : Kont} {id n : Nat} {Xs : List AV} {Y : AV} (o : Owns H0 H ((id,.cells 1 Xs 0)::l)) (hn : n=Xs.length) (h1 : Y.cells=[Y]) (h2 : Y.one=true) (hm : Xs.length+1≤maxL)
  (hk : ∀ id' H',Owns H0 H' ((id',.cells 1 (Xs++[Y]) 0)::l)→K (.buf id' (Xs.length+1)) H') : appW 1 (some (.buf id n)) (some (.sl [Y])) K H:=by
 subst hn
 have hok : okEls 1 [Y]:=by
  intro e he;rw [List.mem_singleton] at he; subst he;rw [h1];exact ⟨rfl,fun c hc=>by rw [List.mem_singleton] at hc; subst hc; exact h2⟩
 have h0:=o.h0;simp only at h0;simp only [appW,h0,srcOf,app2];refine ⟨⟨trivial,by simp,by simp; omega,by simp; omega,hok⟩,fun id' hn=>?_⟩
 have hfl : flat [Y]=[Y]:=by simp [flat,h1]
 rw [hfl];exact hk id' _ (o.mv hn (.cells 1 (Xs++[Y]) 0))
end Go.AW
namespace Go.Proofs.Shf
open Go.AW Go.Proofs Go.Shf
@[go_sem] def sumO (id7 id4 : Nat) (x0 : Int) (a : Nat) (A : List Int) (b : Nat) (C : List Int) (i : Nat) (I : List Int) (d : Nat) (Xs : List AV) (ob : Ob) : Ob :=
 (id7,.cells 5 [iI x0,.buf a A.length,.buf b C.length,.buf i I.length,.buf d Xs.length] 0)::(a,.cells 1 (A.map iI) 0)::(b,.cells 1 (C.map iI) 0)::(i,.cells 1 (I.map iI) 0)::(d,.cells 1 Xs 0)::(ob++[(id4,.cells 5 [iI 0,.nilsl,.nilsl,.nilsl,.nilsl] 0)])
theorem l03Sum_new (B N M : Nat) (hNM : N+M≤4096) (c e : Cat) (hc : c.Sh N) (he : e.Sh M) : New Tryz.prog B 207 [.agg c.cells,.agg e.cells] (fun p X=>∃ c' : Cat,c'.Sh (N+M)∧OCb c' p X):=by
 refine ⟨fun H0=>c207p.go fun _=>?_⟩
 obtain ⟨cob,cil,cml,ctl,ccl,crow⟩:=hc
 obtain ⟨eob,eil,eml,etl,ecl,erow⟩:=he;refine tt ?_;refine newRef_own (.nil _) fun id4 H o=>tt ?_;refine New.go' (l02Own_new B c) o fun X1 p1 H ⟨a,b,i,d,Xs,ob,e1,hX,e2⟩ o _=>?_;subst e1 e2
 have hXl:=hX.len;refine tt ?_;refine newRef_own o fun id7 H o=>tt ?_;refine sw o fun H o=>tt ?_
 have wo : IntKind.i64.wrap (c.objs+e.objs)=c.objs+e.objs:=wrap_i64 (by omega) (by omega);refine tw wo ?_;refine sw o fun H o=>tt ?_
 have o : Owns H0 H (sumO id7 id4 (c.objs+e.objs) a c.frm b c.to i c.idn d Xs ob):=o
 refine awp_for [3,4,5,6,7] (G:=Nat × List Int) (fun k _=>[(8,some (.int .i64 (k : Int)))])
  (fun k g H=>g.2.length=c.idn.length+k∧Owns H0 H (sumO id7 id4 (c.objs+e.objs) a c.frm b c.to g.1 g.2 d Xs ob)) e.objs.toNat (i,c.idn) ⟨rfl,o⟩ rfl ?_
 clear o
 rintro k ⟨i,I⟩ H hk ⟨hI,o⟩;dsimp only at hI o;unfold sumO at o;refine tt ?_;apply bk <;> intro h1
 ·have h1p:=of_decide h1
  have w:=wsucc (k:=k) (by omega);refine tt ?_;refine rd_cells o (by simp) ?_;refine tt ?_;refine ⟨by omega, ?_⟩;refine app_own' _ (o.pull [_,_,_]) rfl rfl (by simp only [maxL]; omega) fun i H I2 _ hI2 o=>tt ?_;refine sw o.swap fun H o=>?_;refine tw w ?_;refine for_next (i,I2) (by omega) ⟨by show I2.length=_; omega, ?_⟩ rfl
  try unfold sumO
  exact o.pm
 ·have h1p:=of_ndecide h1
  have hIl : I.length=c.idn.length+e.objs.toNat:=by omega
  clear h1 h1p hk hI;refine tt ?_
  refine awp_for [3,4,5,6,7] (G:=List AV × Ob × List (List Int)) (fun f _=>[(9,some (.int .i64 (f : Int)))])
   (fun f g H=>LsR iI g.1 g.2.2 g.2.1∧g.2.2.length=c.frm.length∧(∀ x,x<c.frm.length→(g.2.2.getD x []).length=c.frm.length+if x<f then e.frm.length else 0) ∧
    Owns H0 H (sumO id7 id4 (c.objs+e.objs) a c.frm b c.to i I d g.1 g.2.1)) c.frm.length (Xs,ob,c.comp) ⟨hX,ccl,fun x hx=>by rw [if_neg (by omega)]; exact crow x hx,o⟩ rfl ?_
  clear o hX hXl
  rintro f ⟨Xs,ob,As⟩ H hf ⟨hX,hAl,hAr,o⟩;dsimp only at hX hAl hAr o
  have hXl:=hX.len;unfold sumO at o;refine tt ?_;refine rd_cells o (by simp) ?_;refine tt ?_;apply bk <;> intro h1
  ·have h1p:=of_decide h1
   have hf1 : f<c.frm.length:=by omega
   clear h1 h1p;refine tt ?_
   refine awp_for [3,4,5,6,7,9] (G:=List AV × Ob × List (List Int)) (fun j _=>[(10,some (.int .i64 (j : Int)))])
    (fun j g H=>LsR iI g.1 g.2.2 g.2.1∧g.2.2.length=c.frm.length∧(∀ x,x<c.frm.length→(g.2.2.getD x []).length=c.frm.length+if x<f then e.frm.length else if x=f then j else 0) ∧
     Owns H0 H (sumO id7 id4 (c.objs+e.objs) a c.frm b c.to i I d g.1 g.2.1)) e.frm.length (Xs,ob,As) ⟨hX,hAl,fun x hx=>by rw [hAr x hx]; split <;> simp,o⟩ rfl ?_
   clear o hX hXl hAl hAr
   rintro j ⟨Xs,ob,As⟩ H hj ⟨hX,hAl,hAr,o⟩;dsimp only at hX hAl hAr o
   have hXl:=hX.len;unfold sumO at o;refine tt ?_;apply bk <;> intro h2
   ·have h2p:=of_decide h2
    have w:=wsucc (k:=j) (by omega);refine tt ?_;refine ⟨⟨_,_,o.h0⟩,rd_cells o (by simp) ?_⟩;refine tt ?_;refine ⟨⟨_,_,o.h0⟩,rd_cells o (by simp) ?_⟩;refine tt ?_;refine ⟨by omega, ?_⟩
    have od:=o.pull [_,_,_,_];simp only [List.cons_append,List.nil_append] at od;refine rd_cells od (by omega) ?_;refine tt ?_
    have od2 : Owns H0 H ((d,MObj.cells 1 Xs 0)::(ob++[(id7,MObj.cells 5 [iI (c.objs+e.objs),.buf a c.frm.length,.buf b c.to.length,.buf i I.length,.buf d Xs.length] 0),(a,MObj.cells 1 (c.frm.map iI) 0),(b,MObj.cells 1 (c.to.map iI) 0),(i,MObj.cells 1 (I.map iI) 0),(id4,MObj.cells 5 [iI 0,.nilsl,.nilsl,.nilsl,.nilsl] 0)])):=od.pm
    have hrow:=hAr f hf1;rw [if_neg (by omega),if_pos rfl] at hrow;refine rows_app od2 hX (by omega) (-1) rfl (by simp only [maxL]; omega) fun X' ob' H hX1 hX' o=>?_;try simp only [go_sem,↓reduceIte,reduceEqDiff,reduceAdd,reduceMul,reduceLeDiff,reduceLT,AV.cells_one hX1]
    refine ⟨by omega,st_cells o (by omega) (by (try simp only [go_sem]); (try simp)) (by simp [hX1]) fun H o=>?_⟩
    have hw : wr Xs f [X']=Xs.set f X':=rfl;rw [hw] at o;refine tw w ?_
    have hXl2 : (Xs.set f X').length=Xs.length:=by simp
    refine for_next (Xs.set f X',ob',As.set f (As.getD f []++[-1])) h2p ⟨hX',by simp [hAl],fun x hx=>?_, ?_⟩ rfl
    ·show ((As.set f (As.getD f []++[-1])).getD x []).length=_
     rw [getD_set]
     by_cases hxf : f=x
     ·subst hxf;rw [if_pos ⟨rfl,by omega⟩,List.length_append,hrow,if_neg (by omega),if_pos rfl]; simp; omega
     ·rw [if_neg (fun q=>hxf q.1),hAr x hx]
      by_cases hx2 : x<f
      ·rw [if_pos hx2,if_pos hx2]
      ·rw [if_neg hx2,if_neg hx2,if_neg (by omega),if_neg (by omega)]
    ·try unfold sumO
     try rw [hXl2]
     exact o.pm
   ·have h2p:=of_ndecide h2
    have w:=wsucc (k:=f) (by omega);refine tw w ?_;refine for_next (Xs,ob,As) hf1 ⟨hX,hAl,fun x hx=>?_,o⟩ rfl
    have:=hAr x hx
    show (As.getD x []).length=_
    rw [this]
    by_cases hx2 : x<f
    ·rw [if_pos hx2,if_pos (by omega)]
    ·by_cases hx3 : x=f
     ·rw [if_neg hx2,if_pos hx3,if_pos (by omega)]; omega
     ·rw [if_neg hx2,if_neg hx3,if_neg (by omega)]
  ·have h1p:=of_ndecide h1
   have hAr2 : ∀ x,x<c.frm.length→(As.getD x []).length=c.frm.length+e.frm.length:=fun x hx=>by rw [hAr x hx,if_pos (by omega)]
   clear h1 h1p hf hAr;refine tt ?_
   refine awp_for [3,4,5,6,7] (G:=(Nat × List Int) × (Nat × List Int) × Nat × List AV × Ob × List (List Int)) (fun f _=>[(11,some (.int .i64 (f : Int)))])
    (fun f g H=>g.1.2.length=c.frm.length+f∧g.2.1.2.length=c.frm.length+f∧LsR iI g.2.2.2.1 g.2.2.2.2.2 g.2.2.2.2.1∧g.2.2.2.2.2.length=c.frm.length+f∧(∀ x,x<c.frm.length+f→(g.2.2.2.2.2.getD x []).length=c.frm.length+e.frm.length) ∧
     Owns H0 H (sumO id7 id4 (c.objs+e.objs) g.1.1 g.1.2 g.2.1.1 g.2.1.2 i I g.2.2.1 g.2.2.2.1 g.2.2.2.2.1)) e.frm.length ((a,c.frm),(b,c.to),d,Xs,ob,As) ⟨rfl,ctl,hX,hAl,hAr2,o⟩ rfl ?_
   clear o hX hXl hAl hAr2
   rintro f ⟨⟨a,A⟩,⟨b,C⟩,d,Xs,ob,As⟩ H hf ⟨hA,hC,hX,hAl,hAr,o⟩;dsimp only at hA hC hX hAl hAr o
   have hXl:=hX.len;unfold sumO at o;refine tt ?_;apply bk <;> intro h1
   ·have h1p:=of_decide h1;refine tt ?_;refine rd_cells o (by simp) ?_;refine tt ?_;refine ⟨h1p,app_own' _ o.swap rfl rfl (by simp only [maxL]; omega) fun a H A2 _ hA2 o=>?_⟩;refine tt ?_;refine sw o.swap fun H o=>tt ?_;refine rd_cells o (by simp) ?_;refine tt ?_;refine ⟨by omega,app_own' _ (o.pull [_,_]) rfl rfl (by simp only [maxL]; omega) fun b H C2 _ hC2 o=>?_⟩;refine tt ?_;refine sw o.swap fun H o=>tt ?_
    have o : Owns H0 H (sumO id7 id4 (c.objs+e.objs) a A2 b C2 i I d Xs ob):=by
     try unfold sumO
     exact o.pm
    refine newBuf_own o fun idr H o=>tt ?_
    refine awp_for [3,4,5,6,7,11] (G:=Nat × List Int) (fun j g=>[(12,some (.buf g.1 g.2.length)),(13,some (.int .i64 (j : Int)))])
     (fun j g H=>g.2.length=j∧Owns H0 H ((g.1,MObj.cells 1 (g.2.map iI) 0)::sumO id7 id4 (c.objs+e.objs) a A2 b C2 i I d Xs ob)) c.frm.length (idr,[]) ⟨rfl,o⟩ rfl ?_
    clear o
    rintro j ⟨idr,row⟩ H hj ⟨hr,o⟩;dsimp only at hr o;refine tt ?_;apply bk <;> intro h2
    ·have h2p:=of_decide h2
     have w:=wsucc (k:=j) (by omega);refine tt ?_;refine app_own' _ o rfl rfl (by simp only [maxL]; omega) fun idr H row2 _ hrow2 o=>?_;refine tw w ?_;exact for_next (idr,row2) h2p ⟨by show row2.length=_; omega,o⟩ rfl
    ·have h2p:=of_ndecide h2
     have hrm : row.length=c.frm.length:=by omega
     clear h2 h2p hj hr;refine tt ?_
     refine awp_for [3,4,5,6,7,11] (G:=Nat × List Int) (fun j g=>[(12,some (.buf g.1 g.2.length)),(14,some (.int .i64 (j : Int)))])
      (fun j g H=>g.2.length=c.frm.length+j∧Owns H0 H ((g.1,MObj.cells 1 (g.2.map iI) 0)::sumO id7 id4 (c.objs+e.objs) a A2 b C2 i I d Xs ob)) e.frm.length (idr,row) ⟨hrm,o⟩ rfl ?_
     clear o hrm
     rintro j ⟨idr,row⟩ H hj ⟨hr,o⟩;dsimp only at hr o;refine tt ?_;apply bk <;> intro h3
     ·have h3p:=of_decide h3
      have w:=wsucc (k:=j) (by omega)
      have her:=erow f (by omega);refine tt ?_;refine ⟨by omega,by omega, ?_⟩;apply bk <;> intro h4
      ·refine tt ?_;refine app_own' _ o rfl rfl (by simp only [maxL]; omega) fun idr H row2 _ hrow2 o=>?_;refine tw w ?_;exact for_next (idr,row2) h3p ⟨by show row2.length=_; omega,o⟩ rfl
      ·refine tt ?_;refine app_own' _ o rfl rfl (by simp only [maxL]; omega) fun idr H row2 _ hrow2 o=>?_;refine tw w ?_;exact for_next (idr,row2) h3p ⟨by show row2.length=_; omega,o⟩ rfl
     ·have h3p:=of_ndecide h3
      have w:=wsucc (k:=f) (by omega);unfold sumO at o;refine tt ?_;refine rd_cells o.tl (by simp) ?_;refine tt ?_;refine app_raw (o.pull [_,_,_,_,_]) rfl rfl rfl (by simp only [maxL]; omega) fun d H o=>tt ?_
      have o:=o.pull [_,_];simp only [List.cons_append,List.nil_append] at o;refine sw o fun H o=>?_;refine tw w ?_
      have hXl2 : (Xs++[AV.buf idr row.length]).length=Xs.length+1:=by simp
      refine for_next ((a,A2),(b,C2),d,Xs++[AV.buf idr row.length],ob++[(idr,MObj.cells 1 (row.map iI) 0)],As++[row]) h1p ⟨by show A2.length=_; omega,by show C2.length=_; omega,hX.snoc' (.inr ⟨idr,rfl,rfl⟩),by simp; omega,fun x hx=>?_, ?_⟩ rfl
      ·show ((As++[row]).getD x []).length=_
       by_cases hx2 : x<c.frm.length+f
       ·have e1 : (As++[row]).getD x []=As.getD x []:=by rw [List.getD_eq_getElem?_getD,List.getElem?_append_left (by omega),← List.getD_eq_getElem?_getD]
        rw [e1]; exact hAr x hx2
       ·have e1 : (As++[row]).getD x []=row:=by
         have : x=As.length:=by omega
         subst this; simp
        rw [e1]; omega
      ·try unfold sumO
       try rw [hXl2]
       exact o.pm
   ·have h1p:=of_ndecide h1
    obtain rfl : f=e.frm.length:=by omega
    refine tt ?_;refine rd_celln o (by simp) ?_;refine tt ?_
    have o : Owns H0 H ((id4,MObj.cells 5 [iI 0,.nilsl,.nilsl,.nilsl,.nilsl] 0)::(id7,MObj.cells 5 [iI (c.objs+e.objs),.buf a A.length,.buf b C.length,.buf i I.length,.buf d Xs.length] 0)::(a,MObj.cells 1 (A.map iI) 0)::(b,MObj.cells 1 (C.map iI) 0)::(i,MObj.cells 1 (I.map iI) 0)::(d,MObj.cells 1 Xs 0)::ob):=o.pm;refine sw o fun H o=>tt ?_
    have hr2:=o.rc 5 0 (by simp);simp only [List.drop_zero] at hr2;rw [hr2];refine tt ?_
    refine ⟨H,.refl H,_,⟨⟨c.objs+e.objs,A,C,I,As⟩,⟨⟨by show 0≤c.objs+e.objs; omega,by show c.objs+e.objs≤((N+M : Nat) : Int); omega⟩,by show (I.length : Int)=c.objs+e.objs; omega,by show A.length≤N+M; omega,by show C.length=A.length; omega,by show As.length=A.length; omega,fun x hx=>?_⟩,
     a,b,i,d,Xs,ob,rfl,hX,rfl⟩,o.tl.tl⟩
    show (As.getD x []).length=A.length
    rw [hAr x (by have : x<A.length:=hx; omega)]; omega
theorem l03Join_ok (B N M : Nat) (hNM : N+M≤4096) (hNM2 : N*M≤65536) (c e : Cat) (hc : c.Sh N) (he : e.Sh M) : Rets B 275 [.agg c.cells,.agg e.cells] (CatQ (N+M+N*M)):=by
 intro H0;refine c275p.go fun _=>?_
 have cob:=hc.ob
 have eob:=he.ob;refine tt ?_;refine newRef_own (.nil _) fun id4 H o=>tt ?_;refine New.go' (l03Sum_new B N M hNM c e hc he) o fun X1 p1 H ⟨q,hq,a,b,i,d,Xs,ob,e1,hX,e2⟩ o _=>?_;subst e1 e2
 have hXl:=hX.len
 obtain ⟨qob,qil,qml,qtl,qcl,qrow⟩:=hq
 obtain ⟨qo,A,C,I,As⟩:=q;simp only at qob qil qml qtl qcl qrow hX hXl;refine tt ?_;refine newRef_own o fun id5 H o=>tt ?_;refine sw o fun H o=>tt ?_
 have o : Owns H0 H (sumO id5 id4 qo a A b C i I d Xs ob):=o;unfold sumO at o;refine rd_cells o (by simp) ?_;refine tt ?_
 generalize hm : A.length=m at *
 refine awp_for [2,3,4,5,6] (G:=(Nat × List Int) × (Nat × List Int)) (fun k _=>[(7,some (.int .i64 (k : Int)))])
  (fun k g H=>g.2.2.length=g.1.2.length∧m≤g.1.2.length∧g.1.2.length=m+k*e.objs.toNat∧Owns H0 H (sumO id5 id4 qo g.1.1 g.1.2 g.2.1 g.2.2 i I d Xs ob)) c.objs.toNat ((a,A),(b,C)) ⟨by simp only; omega,by simp only; omega,by simp [hm],by unfold sumO; rw [hm]; exact o⟩ rfl ?_
 clear o hm qtl
 rintro k ⟨⟨a,A⟩,⟨b,C⟩⟩ H hk ⟨hC,hA1,hA,o⟩;dsimp only at hC hA1 hA o
 have hMe : ∀ x,x≤c.objs.toNat→x*e.objs.toNat≤N*M:=fun x hx=>Nat.mul_le_mul (by omega) (by omega);refine tt ?_;apply bk <;> intro h1
 ·have h1p:=of_decide h1
  have hk1 : k+1≤c.objs.toNat:=by omega
  refine tt ?_
  refine awp_for [2,3,4,5,6,7] (G:=(Nat × List Int) × (Nat × List Int)) (fun j _=>[(8,some (.int .i64 (j : Int)))])
   (fun j g H=>g.2.2.length=g.1.2.length∧m≤g.1.2.length∧g.1.2.length=m+k*e.objs.toNat+j∧Owns H0 H (sumO id5 id4 qo g.1.1 g.1.2 g.2.1 g.2.2 i I d Xs ob)) e.objs.toNat ((a,A),(b,C)) ⟨hC,hA1,hA,o⟩ rfl ?_
  clear o hC hA1 hA
  rintro j ⟨⟨a,A⟩,⟨b,C⟩⟩ H hj ⟨hC,hA1,hA,o⟩;dsimp only at hC hA1 hA o
  have hM1:=hMe (k+1) hk1;rw [Nat.succ_mul] at hM1;refine tt ?_;apply bk <;> intro h2
  ·have h2p:=of_decide h2
   have w:=wsucc (k:=j) (by omega);unfold sumO at o;refine tt ?_;refine rd_cells o (by simp) ?_;refine tt ?_;refine app_own' _ o.swap rfl rfl (by simp only [maxL]; omega) fun a H A2 _ hA2 o=>tt ?_;refine sw o.swap fun H o=>tt ?_;refine rd_cells o (by simp) ?_;refine tt ?_;refine app_own' _ (o.pull [_,_]) rfl rfl (by simp only [maxL]; omega) fun b H C2 _ hC2 o=>tt ?_;refine sw o.swap fun H o=>?_;refine tw w ?_;refine for_next ((a,A2),(b,C2)) (by omega) ⟨by show C2.length=A2.length; omega,by show m≤A2.length; omega,by show A2.length=_; omega, ?_⟩ rfl
   try unfold sumO
   exact o.pm
  ·have h2p:=of_ndecide h2
   have w:=wsucc (k:=k) (by omega);refine tw w ?_;exact for_next ((a,A),(b,C)) (by omega) ⟨hC,hA1,by show A.length=_; rw [Nat.succ_mul]; omega,o⟩ rfl
 ·have h1p:=of_ndecide h1
  have hAb : A.length≤N+M+N*M:=by have:=hMe k hk; omega
  clear h1 h1p hk hA;unfold sumO at o;refine tt ?_
  have od : Owns H0 H ((d,MObj.cells 1 Xs 0)::(ob++[(id5,MObj.cells 5 [iI qo,.buf a A.length,.buf b C.length,.buf i I.length,.buf d Xs.length] 0),(a,MObj.cells 1 (A.map iI) 0),(b,MObj.cells 1 (C.map iI) 0),(i,MObj.cells 1 (I.map iI) 0),(id4,MObj.cells 5 [iI 0,.nilsl,.nilsl,.nilsl,.nilsl] 0)])):=o.pm;refine wk_rows hX [] H od fun H o=>?_;simp only [List.nil_append] at o
  have o : Owns H0 H [(id5,MObj.cells 5 [iI qo,.buf a A.length,.buf b C.length,.buf i I.length,.buf d Xs.length] 0),(d,MObj.cells 1 (As.map iL) 0),(a,MObj.cells 1 (A.map iI) 0),(b,MObj.cells 1 (C.map iI) 0),(i,MObj.cells 1 (I.map iI) 0),(id4,MObj.cells 5 [iI 0,.nilsl,.nilsl,.nilsl,.nilsl] 0)]:=o.pm;refine wk_cell 4 o rfl hXl fun H o=>?_;simp only [List.set_cons_zero,List.set_cons_succ] at o;refine wk_cell 1 o rfl rfl fun H o=>?_;simp only [List.set_cons_zero,List.set_cons_succ] at o;refine wk_cell 2 o rfl rfl fun H o=>?_;simp only [List.set_cons_zero,List.set_cons_succ] at o;refine wk_cell 3 o rfl rfl fun H o=>wkW_done ?_;simp only [List.set_cons_zero,List.set_cons_succ] at o;clear od;refine tt ?_;refine newBuf_own o fun idt H o=>tt ?_
  refine awp_for [2,3,4,5,6] (G:=Nat × List (List Int)) (fun f g=>[(9,some (.buf g.1 g.2.length)),(10,some (.int .i64 (f : Int)))])
   (fun f g H=>g.2.length=f∧(∀ r,r∈g.2→r.length=A.length)∧Owns H0 H [(g.1,MObj.cells 1 (g.2.map iL) 0),(id5,MObj.cells 5 [iI qo,iL A,iL C,iL I,iLL As] 0),(id4,MObj.cells 5 [iI 0,.nilsl,.nilsl,.nilsl,.nilsl] 0)]) A.length (idt,[]) ⟨rfl,by simp,o⟩ rfl ?_
  clear o
  rintro f ⟨idt,T⟩ H hf ⟨hT,hTr,o⟩;dsimp only at hT hTr o;refine tt ?_;refine rd_cells o.tl (by simp) ?_;refine tt ?_;apply bk <;> intro h2
  ·have h2p:=of_decide h2;refine tt ?_;refine newBuf_own o fun idr H o=>tt ?_
   refine awp_for [2,3,4,5,6,9,10] (G:=Nat × List Int) (fun g r=>[(11,some (.buf r.1 r.2.length)),(12,some (.int .i64 (g : Int)))])
    (fun g r H=>r.2.length=g∧Owns H0 H [(r.1,MObj.cells 1 (r.2.map iI) 0),(idt,MObj.cells 1 (T.map iL) 0),(id5,MObj.cells 5 [iI qo,iL A,iL C,iL I,iLL As] 0),(id4,MObj.cells 5 [iI 0,.nilsl,.nilsl,.nilsl,.nilsl] 0)]) A.length (idr,[]) ⟨rfl,o⟩ rfl ?_
   clear o
   rintro g ⟨idr,row⟩ H hg ⟨hr,o⟩;dsimp only at hr o;refine tt ?_;refine rd_cells o.tl.tl (by simp) ?_;refine tt ?_;apply bk <;> intro h3
   ·have h3p:=of_decide h3
    have w:=wsucc (k:=g) (by omega);refine tt ?_;refine rd_cells o.tl.tl (by simp) ?_;refine tt ?_;refine ⟨by omega,rd_cells o.tl.tl (by simp) ?_⟩;refine tt ?_;refine ⟨by omega,tt ?_⟩;apply bk <;> intro h4
    ·refine tt ?_;refine app_own' _ o rfl rfl (by simp only [maxL]; omega) fun idr H row2 _ hrow2 o=>?_;refine tw w ?_;exact for_next (idr,row2) h3p ⟨by show row2.length=_; omega,o⟩ rfl
    ·refine tt ?_;apply bk <;> intro h5
     ·have h5p:=of_decide h5;refine tw h5 ?_;apply bk <;> intro h6
      ·have h6p:=of_decide h6
       have hq:=qrow f h5p;refine tt ?_;refine rd_cells o.tl.tl (by simp) ?_;refine tt ?_;refine ⟨by omega,by omega, ?_⟩;refine app_own' _ o rfl rfl (by simp only [maxL]; omega) fun idr H row2 _ hrow2 o=>?_;refine tw w ?_;exact for_next (idr,row2) h3p ⟨by show row2.length=_; omega,o⟩ rfl
      ·refine tt ?_;refine rd_cells o.tl.tl (by simp) ?_;refine tt ?_;refine ⟨by omega,tt ?_⟩;refine rd_cells o.tl.tl (by simp) ?_;refine tt ?_;refine ⟨by omega,tt ?_⟩;refine app_own' _ o rfl rfl (by simp only [maxL]; omega) fun idr H row2 _ hrow2 o=>?_;refine tw w ?_;exact for_next (idr,row2) h3p ⟨by show row2.length=_; omega,o⟩ rfl
     ·refine tw h5 ?_;refine rd_cells o.tl.tl (by simp) ?_;refine tt ?_;refine ⟨by omega,tt ?_⟩;refine rd_cells o.tl.tl (by simp) ?_;refine tt ?_;refine ⟨by omega,tt ?_⟩;refine app_own' _ o rfl rfl (by simp only [maxL]; omega) fun idr H row2 _ hrow2 o=>?_;refine tw w ?_;exact for_next (idr,row2) h3p ⟨by show row2.length=_; omega,o⟩ rfl
   ·have h3p:=of_ndecide h3
    have w:=wsucc (k:=f) (by omega);refine tt ?_;refine fz_own o rfl fun H o=>tt ?_;refine app_own row o rfl rfl (by simp only [maxL]; omega) fun idt H o=>?_;refine tw w ?_;refine for_next (idt,T++[row]) h2p ⟨by simp [hT], ?_,o⟩ rfl
    intro r hr2
    rcases List.mem_append.mp hr2 with h | h
    ·exact hTr r h
    ·rw [List.mem_singleton] at h; subst h; omega
  ·have h2p:=of_ndecide h2;refine tt ?_;refine fz_own o rfl fun H o=>tt ?_;refine sw o fun H o=>tt ?_;refine rd_celln o (by simp) ?_;refine tt ?_;refine sw o.swap fun H o=>tt ?_
   have hr2:=o.rc 5 0 (by simp);simp only [List.drop_zero] at hr2;rw [hr2];refine tt ?_
   have hTA : T.length=A.length:=by omega
   refine rets_ret ⟨⟨qo,A,C,I,T⟩,rfl,⟨qob.1,Int.le_trans qob.2 (Int.ofNat_le.mpr (Nat.le_add_right _ _))⟩,qil,hAb,hC,hTA,fun x hx=>?_⟩ o.sub;exact hTr _ (mem_getD.mpr ⟨x,by rw [hTA]; exact hx,rfl⟩)
@[go_sem] def prodO (id7 id4 : Nat) (x0 : Int) (a : Nat) (A : List Int) (b : Nat) (C : List Int) (i : Nat) (I : List Int) (d : Nat) (D : List (List Int)) : Ob :=
 [(id7,.cells 5 [iI x0,.buf a A.length,.buf b C.length,.buf i I.length,.buf d D.length] 0),(a,.cells 1 (A.map iI) 0),(b,.cells 1 (C.map iI) 0),(i,.cells 1 (I.map iI) 0),(d,.cells 1 (D.map iL) 0),(id4,.cells 5 [iI 0,.nilsl,.nilsl,.nilsl,.nilsl] 0)]
theorem l03Product_ok (B N M : Nat) (hN : N≤65536) (hM : M≤65536) (hNM : N*M≤65536) (c e : Cat) (hc : c.Sh N) (he : e.Sh M) : Rets B 208 [.agg c.cells,.agg e.cells] (CatQ (N*M)):=by
 intro H0;refine c208p.go fun _=>?_
 obtain ⟨cob,cil,cml,ctl,ccl,crow⟩:=hc
 obtain ⟨eob,eil,eml,etl,ecl,erow⟩:=he
 have hp0 : 0≤c.objs*e.objs:=Int.mul_nonneg cob.1 eob.1
 have hpN : c.objs*e.objs≤(N : Int)*(M : Int):=Int.mul_le_mul cob.2 eob.2 eob.1 (Int.natCast_nonneg N)
 have hpe : ((N*M : Nat) : Int)=(N : Int)*(M : Int):=Int.natCast_mul N M
 have wo : IntKind.i64.wrap (c.objs*e.objs)=c.objs*e.objs:=wrap_i64 (by omega) (by omega)
 have hoe : c.objs*e.objs=((c.objs.toNat*e.objs.toNat : Nat) : Int):=by rw [Int.natCast_mul,Int.toNat_of_nonneg cob.1,Int.toNat_of_nonneg eob.1]
 have hMo : ∀ x,x≤c.objs.toNat→x*e.objs.toNat≤N*M:=fun x hx=>Nat.mul_le_mul (by omega) (by omega)
 have hMf : ∀ x,x≤c.frm.length→x*e.frm.length≤N*M:=fun x hx=>Nat.mul_le_mul (by omega) (by omega);refine tw wo ?_;refine newRef_own (.nil _) fun id4 H o=>?_;refine tw wo ?_;refine newBuf_own o fun a H o=>tt ?_;refine newBuf_own o fun b H o=>tt ?_;refine newBuf_own o fun i H o=>tt ?_;refine newBuf_own o fun d H o=>tt ?_;refine newRef_own o fun id7 H o=>tt ?_;refine sw o fun H o=>tt ?_
 refine awp_for [2,3,4,5,6,7] (G:=Nat × List Int) (fun k _=>[(8,some (.int .i64 (k : Int)))])
  (fun k g H=>g.2.length=k*e.objs.toNat∧Owns H0 H (prodO id7 id4 (c.objs*e.objs) a [] b [] g.1 g.2 d [])) c.objs.toNat (i,[]) ⟨by simp,by unfold prodO; exact o.pm⟩ rfl ?_
 clear o
 rintro k ⟨i,I⟩ H hk ⟨hI,o⟩;dsimp only at hI o;refine tt ?_;apply bk <;> intro h1
 ·have h1p:=of_decide h1
  have hk1:=hMo (k+1) (by omega);rw [Nat.succ_mul] at hk1;refine tt ?_
  refine awp_for [2,3,4,5,6,7,8] (G:=Nat × List Int) (fun j _=>[(9,some (.int .i64 (j : Int)))])
   (fun j g H=>g.2.length=k*e.objs.toNat+j∧Owns H0 H (prodO id7 id4 (c.objs*e.objs) a [] b [] g.1 g.2 d [])) e.objs.toNat (i,I) ⟨hI,o⟩ rfl ?_
  clear o hI
  rintro j ⟨i,I⟩ H hj ⟨hI,o⟩;dsimp only at hI o;refine tt ?_;apply bk <;> intro h2
  ·have h2p:=of_decide h2
   have w:=wsucc (k:=j) (by omega);unfold prodO at o;refine tt ?_;refine rd_cells o (by simp) ?_;refine tt ?_;refine ⟨by omega,by omega, ?_⟩;refine app_own' _ (o.pull [_,_,_]) rfl rfl (by simp only [maxL]; omega) fun i H I2 _ hI2 o=>tt ?_;refine sw o.swap fun H o=>?_;refine tw w ?_;refine for_next (i,I2) (by omega) ⟨by show I2.length=_; omega, ?_⟩ rfl
   try unfold prodO
   exact o.pm
  ·have h2p:=of_ndecide h2
   have w:=wsucc (k:=k) (by omega);refine tw w ?_;exact for_next (i,I) (by omega) ⟨by show I.length=_; rw [Nat.succ_mul]; omega,o⟩ rfl
 ·have h1p:=of_ndecide h1
  obtain rfl : k=c.objs.toNat:=by omega
  clear h1 h1p hk;refine tt ?_
  refine awp_for [2,3,4,5,6,7] (G:=(Nat × List Int) × (Nat × List Int) × (Nat × List (List Int))) (fun k _=>[(10,some (.int .i64 (k : Int)))])
   (fun k g H=>g.1.2.length=k*e.frm.length∧g.2.1.2.length=k*e.frm.length∧g.2.2.2.length=k*e.frm.length∧(∀ r,r∈g.2.2.2→r.length=c.frm.length*e.frm.length) ∧
    Owns H0 H (prodO id7 id4 (c.objs*e.objs) g.1.1 g.1.2 g.2.1.1 g.2.1.2 i I g.2.2.1 g.2.2.2)) c.frm.length ((a,[]),(b,[]),(d,[])) ⟨by simp,by simp,by simp,by simp,o⟩ rfl ?_
  clear o
  rintro k ⟨⟨a,A⟩,⟨b,C⟩,⟨d,D⟩⟩ H hk ⟨hA,hC,hD,hDr,o⟩;dsimp only at hA hC hD hDr o;refine tt ?_;apply bk <;> intro h1
  ·have h1p:=of_decide h1
   have hk1:=hMf (k+1) (by omega);rw [Nat.succ_mul] at hk1
   have crk:=crow k h1p;refine tt ?_
   refine awp_for [2,3,4,5,6,7,10] (G:=(Nat × List Int) × (Nat × List Int) × (Nat × List (List Int))) (fun j _=>[(11,some (.int .i64 (j : Int)))])
    (fun j g H=>g.1.2.length=k*e.frm.length+j∧g.2.1.2.length=k*e.frm.length+j∧g.2.2.2.length=k*e.frm.length+j∧(∀ r,r∈g.2.2.2→r.length=c.frm.length*e.frm.length) ∧
     Owns H0 H (prodO id7 id4 (c.objs*e.objs) g.1.1 g.1.2 g.2.1.1 g.2.1.2 i I g.2.2.1 g.2.2.2)) e.frm.length ((a,A),(b,C),(d,D)) ⟨hA,hC,hD,hDr,o⟩ rfl ?_
   clear o hA hC hD hDr
   rintro j ⟨⟨a,A⟩,⟨b,C⟩,⟨d,D⟩⟩ H hj ⟨hA,hC,hD,hDr,o⟩;dsimp only at hA hC hD hDr o;refine tt ?_;apply bk <;> intro h2
   ·have h2p:=of_decide h2
    have erj:=erow j h2p;unfold prodO at o;refine tt ?_;refine rd_cells o (by simp) ?_;refine tt ?_;refine ⟨by omega,by omega, ?_⟩;refine app_own' _ o.swap rfl rfl (by simp only [maxL]; omega) fun a H A2 _ hA2 o=>tt ?_;refine sw o.swap fun H o=>tt ?_;refine rd_cells o (by simp) ?_;refine tt ?_;refine ⟨by omega,by omega, ?_⟩;refine app_own' _ (o.pull [_,_]) rfl rfl (by simp only [maxL]; omega) fun b H C2 _ hC2 o=>tt ?_;refine sw o.swap fun H o=>tt ?_
    have o : Owns H0 H (prodO id7 id4 (c.objs*e.objs) a A2 b C2 i I d D):=by
     try unfold prodO
     exact o.pm
    refine newBuf_own o fun idr H o=>tt ?_
    refine awp_for [2,3,4,5,6,7,10,11] (G:=Nat × List Int) (fun f g=>[(12,some (.buf g.1 g.2.length)),(13,some (.int .i64 (f : Int)))])
     (fun f g H=>g.2.length=f*e.frm.length∧Owns H0 H ((g.1,MObj.cells 1 (g.2.map iI) 0)::prodO id7 id4 (c.objs*e.objs) a A2 b C2 i I d D)) c.frm.length (idr,[]) ⟨by simp,o⟩ rfl ?_
    clear o
    rintro f ⟨idr,row⟩ H hf ⟨hr,o⟩;dsimp only at hr o;refine tt ?_;apply bk <;> intro h3
    ·have h3p:=of_decide h3
     have hf1:=hMf (f+1) (by omega);rw [Nat.succ_mul] at hf1;refine tt ?_
     refine awp_for [2,3,4,5,6,7,10,11,13] (G:=Nat × List Int) (fun g r=>[(12,some (.buf r.1 r.2.length)),(14,some (.int .i64 (g : Int)))])
      (fun g r H=>r.2.length=f*e.frm.length+g∧Owns H0 H ((r.1,MObj.cells 1 (r.2.map iI) 0)::prodO id7 id4 (c.objs*e.objs) a A2 b C2 i I d D)) e.frm.length (idr,row) ⟨hr,o⟩ rfl ?_
     clear o hr
     rintro g ⟨idr,row⟩ H hg ⟨hr,o⟩;dsimp only at hr o;refine tt ?_;apply bk <;> intro h4
     ·have h4p:=of_decide h4
      have w:=wsucc (k:=g) (by omega);refine tt ?_;refine ⟨by omega,by omega,tt ?_⟩;apply bk <;> intro h5
      ·refine tw h5 ?_;refine ⟨by omega,by omega,tt ?_⟩;apply bk <;> intro h6
       ·refine tt ?_;refine ⟨by omega,by omega,by omega,by omega, ?_⟩;refine app_own' _ o rfl rfl (by simp only [maxL]; omega) fun idr H row2 _ hrow2 o=>?_;refine tw w ?_;exact for_next (idr,row2) h4p ⟨by show row2.length=_; omega,o⟩ rfl
       ·refine tt ?_;refine app_own' _ o rfl rfl (by simp only [maxL]; omega) fun idr H row2 _ hrow2 o=>?_;refine tw w ?_;exact for_next (idr,row2) h4p ⟨by show row2.length=_; omega,o⟩ rfl
      ·refine tw h5 ?_;refine app_own' _ o rfl rfl (by simp only [maxL]; omega) fun idr H row2 _ hrow2 o=>?_;refine tw w ?_;exact for_next (idr,row2) h4p ⟨by show row2.length=_; omega,o⟩ rfl
     ·have h4p:=of_ndecide h4
      have w:=wsucc (k:=f) (by omega);refine tw w ?_;exact for_next (idr,row) h3p ⟨by show row.length=_; rw [Nat.succ_mul]; omega,o⟩ rfl
    ·have h3p:=of_ndecide h3
     obtain rfl : f=c.frm.length:=by omega
     have w:=wsucc (k:=j) (by omega);unfold prodO at o;refine tt ?_;refine fz_own o rfl fun H o=>tt ?_;refine rd_cells o (by simp) ?_;refine tt ?_;refine app_own' row (o.pull [_,_,_,_]) rfl rfl (by simp only [maxL]; omega) fun d H D2 eD hD2 o=>tt ?_;refine sw o.swap fun H o=>?_;refine tw w ?_;refine for_next ((a,A2),(b,C2),(d,D2)) h2p ⟨by show A2.length=_; omega,by show C2.length=_; omega,by show D2.length=_; omega,fun r hr2=>?_, ?_⟩ rfl
     ·dsimp only at hr2;rw [eD] at hr2
      rcases List.mem_append.mp hr2 with h | h
      ·exact hDr r h
      ·rw [List.mem_singleton] at h; subst h; exact hr
     ·try unfold prodO
      exact o.pm
   ·have h2p:=of_ndecide h2
    have w:=wsucc (k:=k) (by omega);refine tw w ?_;exact for_next ((a,A),(b,C),(d,D)) h1p ⟨by show A.length=_; rw [Nat.succ_mul]; omega,by show C.length=_; rw [Nat.succ_mul]; omega,by show D.length=_; rw [Nat.succ_mul]; omega,hDr,o⟩ rfl
  ·have h1p:=of_ndecide h1
   obtain rfl : k=c.frm.length:=by omega
   have hAb : A.length≤N*M:=by rw [hA]; exact hMf _ (Nat.le_refl _)
   unfold prodO at o;refine tt ?_
   have o : Owns H0 H [(id7,MObj.cells 5 [iI (c.objs*e.objs),.buf a A.length,.buf b C.length,.buf i I.length,.buf d D.length] 0),(d,MObj.cells 1 (D.map iL) 0),(a,MObj.cells 1 (A.map iI) 0),(b,MObj.cells 1 (C.map iI) 0),(i,MObj.cells 1 (I.map iI) 0),(id4,MObj.cells 5 [iI 0,.nilsl,.nilsl,.nilsl,.nilsl] 0)]:=o.pm;refine wk_cell 4 o rfl rfl fun H o=>?_;simp only [List.set_cons_zero,List.set_cons_succ] at o;refine wk_cell 1 o rfl rfl fun H o=>?_;simp only [List.set_cons_zero,List.set_cons_succ] at o;refine wk_cell 2 o rfl rfl fun H o=>?_;simp only [List.set_cons_zero,List.set_cons_succ] at o;refine wk_cell 3 o rfl rfl fun H o=>wkW_done ?_;simp only [List.set_cons_zero,List.set_cons_succ] at o;refine tt ?_;refine rd_celln o (by simp) ?_;refine tt ?_;refine sw o.swap fun H o=>tt ?_
   have hr2:=o.rc 5 0 (by simp);simp only [List.drop_zero] at hr2;rw [hr2];refine tt ?_
   have hDA : D.length=A.length:=by omega
   refine rets_ret ⟨⟨c.objs*e.objs,A,C,I,D⟩,rfl,⟨hp0,by show c.objs*e.objs≤_; omega⟩,by show (I.length : Int)=c.objs*e.objs; omega,hAb,by show C.length=A.length; omega,hDA,fun x hx=>?_⟩ o.sub;rw [hDr _ (mem_getD.mpr ⟨x,by rw [hDA]; exact hx,rfl⟩)]; exact hA.symm
end Go.Proofs.Shf
namespace Go.AW
theorem inner_set {α : Type} {f : α→AV} : ∀ (ms : List (Nat × List α)) (x : Nat) (h : x<ms.length),∃ r,(inner f ms).Perm (((ms.getD x default).1,MObj.cells 1 ((ms.getD x default).2.map f) 0)::r) ∧
  ∀ m : Nat × List α,(inner f (ms.set x m)).Perm ((m.1,MObj.cells 1 (m.2.map f) 0)::r)
 | [],x,h=>by simp at h
 | m::ms,0,h=>⟨inner f ms,.refl _,fun m'=>.refl _⟩
 | m::ms,x+1,h=>by
  obtain ⟨r,h1,h2⟩:=inner_set ms x (by simpa using h);refine ⟨(m.1,MObj.cells 1 (m.2.map f) 0)::r, ?_,fun m'=>?_⟩
  ·exact (List.Perm.cons _ h1).trans (.swap _ _ _)
  ·exact (List.Perm.cons _ (h2 m')).trans (.swap _ _ _)
theorem st_inner {α : Type} [Inhabited α] {f : α→AV} [One f] {H0 H : Heap} {l : Ob} {K : Kont} {id fr : Nat} {ms : List (Nat × List α)} (o : Owns H0 H ((id,.cells 1 (ms.map bufE) fr)::(inner f ms++l))) {x y : Nat} (hx : x<ms.length) (hy : y<(ms.getD x default).2.length) (v : α) {c : AV} (hc : c=f v)
  (hk : ∀ H',Owns H0 H' ((id,.cells 1 ((ms.set x ((ms.getD x default).1,(ms.getD x default).2.set y v)).map bufE) fr)::(inner f (ms.set x ((ms.getD x default).1,(ms.getD x default).2.set y v))++l))→K nv H') :
  st1 (H.get (ms.getD x default).1) (ms.getD x default).1 y 1 [c] K H:=by
 subst hc
 obtain ⟨r,h1,h2⟩:=inner_set (f:=f) ms x hx
 have o1 : Owns H0 H (((ms.getD x default).1,MObj.cells 1 ((ms.getD x default).2.map f) 0)::(id,.cells 1 (ms.map bufE) fr)::(r++l)):=by
  refine o.perm (((List.Perm.append_right l h1).cons _).trans ?_);simp only [List.cons_append];exact .swap _ _ _
 refine st_cells o1 (by rw [List.length_map]; omega) rfl (by simp [One.one]) fun H' o2=>?_
 have e1 : wr ((ms.getD x default).2.map f) y [f v]=((ms.getD x default).2.set y v).map f:=by
  simp [wr,List.map_set]
 have e2 : (ms.set x ((ms.getD x default).1,(ms.getD x default).2.set y v)).map bufE=ms.map (bufE (α:=α)):=by
  rw [List.map_set];apply List.ext_getElem?
  intro j
  by_cases hj : x=j
  ·subst hj;rw [List.getElem?_set_self (by simpa using hx)]
   simp [hx,bufE,List.getD_eq_getElem?_getD]
  ·rw [List.getElem?_set_ne hj]
 rw [e1] at o2;refine hk H' ?_;rw [e2];refine o2.perm ((List.Perm.swap _ _ _).trans (.cons _ ?_))
 have:=List.Perm.append_right l (h2 ((ms.getD x default).1,(ms.getD x default).2.set y v)).symm
 simpa using this
end Go.AW
namespace Go.Proofs.Shf
open Go.AW Go.Proofs Go.Shf
theorem Rd.goZ {B : Nat} {fn : FuncId} {args : List AV} {Q : AV→Prop} {id : Nat} {s : Src} {H0 H : Heap} {l : List (Nat × MObj)} {K : Kont} (h : Rd B fn args Q) (hs : s.Ok) (o : Owns H0 H ((id,s.obj)::l))
  (hk : ∀ (r : AV) (s' : Src) (H' : Heap),r.fine→Q r→s'.Ok→Owns H0 H' ((id,s'.obj)::l)→(∀ z,z≠3→H.subZ z H')→K r H') : CallH Tryz.prog B fn (.ref id 0::args) H K :=
 (h id s _ H hs o.self).mono' fun r H' hf ⟨q,s',hs',o'⟩=>hk r s' H' hf q hs' (o.del.trans o') fun z hz i cs f e=>by
  have h0:=o.h0;refine o'.sub i _ ?_;rw [Heap.get_del_ne]
  ·exact e
  ·rintro rfl;simp only at h0;rw [h0] at e;simp only [Src.obj] at e
   cases e;exact hz rfl
theorem l02Relation_ok (B n : Nat) (hn : n≤4) : Rd B 269 [iI n] (SqQ 4):=by
 intro id s H0 H hs o;refine c269p.go fun _=>?_;refine tt ?_;refine newBuf_own o fun idR H o=>tt ?_
 refine awp_for [0,1] (G:=Src × Nat × List (Nat × List Int)) (fun k g=>[(5,some (.buf g.2.1 g.2.2.length)),(6,some (.int .i64 (k : Int)))])
  (fun k g H=>g.1.Ok∧g.2.2.length=k∧(∀ m,m∈g.2.2→m.2.length=n)∧Owns H0 H ((g.2.1,MObj.cells 1 (g.2.2.map bufE) 0)::(inner iI g.2.2++[(id,g.1.obj)]))) n (s,idR,[]) ⟨hs,rfl,by simp,o⟩ rfl ?_
 clear o hs
 rintro k ⟨s,idR,ms⟩ H hk ⟨hs,hml,hmr,o⟩;dsimp only at hs hml hmr o;refine tt ?_;refine ⟨fun h1=>At.mk ?_,fun h1=>At.mk ?_⟩
 ·have h1p:=of_decide h1;refine tt ?_;refine ⟨by simp only [maxL]; omega, ?_⟩;refine mks_list iI 0 rfl o fun idr H o=>tt ?_;refine ⟨by omega,set_own 1 o rfl (by simp; omega) fun H o=>?_⟩
  have wk1:=wsucc (k:=k) (by omega);refine tw wk1 ?_
  refine awp_for [0,1,5,6,7] (G:=Src × List Int) (fun q g=>[(8,some (.int .i64 ((k+1+q : Nat) : Int)))])
   (fun q g H=>g.1.Ok∧g.2.length=n∧Owns H0 H ((idr,MObj.cells 1 (g.2.map iI) 0)::(idR,MObj.cells 1 (ms.map bufE) 0)::(inner iI ms++[(id,g.1.obj)]))) (n - (k+1)) (s,(List.replicate n 0).set k 1) ⟨hs,by simp,o⟩ rfl ?_
  clear o hs
  rintro q ⟨s,row⟩ H hq ⟨hs,hr,o⟩;dsimp only at hs hr o;refine tt ?_;refine ⟨fun h2=>At.mk ?_,fun h2=>At.mk ?_⟩
  ·have h2p:=of_decide h2
   have w:=wsucc (k:=k+1+q) (by omega);refine tt ?_
   have o : Owns H0 H ((id,s.obj)::(idr,MObj.cells 1 (row.map iI) 0)::(idR,MObj.cells 1 (ms.map bufE) 0)::inner iI ms):=o.pm;refine (l01Next_ok B 2).go hs o fun r s H _ ⟨v,e,_⟩ hs o=>?_;subst e;refine tt ?_;refine ⟨by omega, ?_⟩
   have o:=o.swap;refine set_own v o rfl (by omega) fun H o=>?_;refine tw w ?_;refine for_next (s,row.set (k+1+q) v) (by omega) ⟨hs,by simp [hr],o.pm⟩ rfl
  ·have h2p:=of_ndecide h2
   have w:=wsucc (k:=k) (by omega);refine tt ?_;refine app_own (f:=bufE) (idr,row) o.swap (by simp [bufE,hr]) rfl (by simp only [maxL]; omega) fun idR H o=>?_;refine tw w ?_;refine for_next (s,idR,ms++[(idr,row)]) h1p ⟨hs,by simp [hml], ?_, ?_⟩ rfl
   ·intro m hm
    rcases List.mem_append.mp hm with h | h
    ·exact hmr m h
    ·rw [List.mem_singleton] at h; subst h; exact hr
   ·refine o.perm (.cons _ ?_);simp only [inner,List.map_append,List.map_cons,List.map_nil,List.append_assoc,List.cons_append,List.nil_append];exact List.perm_middle.symm
 ·have h1p:=of_ndecide h1
  obtain rfl : k=n:=by omega
  clear h1 h1p hk;refine tt ?_
  have o : Owns H0 H ((id,s.obj)::(idR,MObj.cells 1 (ms.map bufE) 0)::inner iI ms):=o.pm;refine ⟨fun h2=>At.mk ?_,fun h2=>At.mk ?_⟩
  case' refine_1 =>
   have h2p:=of_decide h2;refine tw h2 ?_;refine (l01Next_ok B 4).go hs o fun r s H _ ⟨v,e,_⟩ hs o=>?_;subst e;refine tt ?_;refine ⟨fun h3=>At.mk ?_,fun h3=>At.mk ?_⟩
   case' refine_1 =>
    have wp : IntKind.i64.wrap ((k : Int) - 1)=((k - 1 : Nat) : Int):=wpred (by omega) (by omega);refine tw wp ?_;refine ⟨by omega,⟨_,_,o.tl.h0⟩,rd_cells o.tl (by simp; omega) ?_⟩;refine tt ?_;refine (l01Next_ok B k).goZ hs o fun r s H _ ⟨v,e,hv0,hv1,_⟩ hs o hz=>⟨hz, ?_⟩;subst e
    have hv1:=hv1 (by omega)
    have hrk:=hmr (ms.getD (k - 1) default) (mem_getD.mpr ⟨k - 1,by omega,rfl⟩);rw [getD_map ms (by omega)];refine tt ?_;refine ⟨by omega, ?_⟩
    have o : Owns H0 H ((idR,MObj.cells 1 (ms.map bufE) 0)::(inner iI ms++[(id,s.obj)])):=o.pm;refine st_inner o (by omega) (by omega) 1 rfl fun H o=>?_
    have hml : (ms.set (k - 1) ((ms.getD (k - 1) default).1,(ms.getD (k - 1) default).2.set v.toNat 1)).length=k:=by simp [hml]
    have hmr : ∀ m,m∈ms.set (k - 1) ((ms.getD (k - 1) default).1,(ms.getD (k - 1) default).2.set v.toNat 1)→m.2.length=k:=by
     intro m hm
     rcases List.mem_or_eq_of_mem_set hm with h | h
     ·exact hmr m h
     ·rw [h]; simpa using hrk
    generalize ms.set (k - 1) ((ms.getD (k - 1) default).1,(ms.getD (k - 1) default).2.set v.toNat 1)=ms at hml hmr o
    have o : Owns H0 H ((id,s.obj)::(idR,MObj.cells 1 (ms.map bufE) 0)::inner iI ms):=o.pm
  all_goals
   try (try simp only [go_sem,↓reduceIte,reduceEqDiff,reduceAdd,reduceMul,reduceLeDiff,reduceLT,h2])
   clear h2
   have o : Owns H0 H ((idR,MObj.cells 1 (ms.map bufE) 0)::(inner iI ms++[(id,s.obj)])):=o.pm
   generalize hm0 : ms.length=m0
   replace hm0 : m0=k:=by omega
   refine awp_for [1,5] (G:=List (Nat × List Int)) (fun x _=>[(9,some (.int .i64 (x : Int)))]) (fun _ ms H=>ms.length=k∧(∀ m,m∈ms→m.2.length=k)∧Owns H0 H ((idR,MObj.cells 1 (ms.map bufE) 0)::(inner iI ms++[(id,s.obj)]))) k ms ⟨hml,hmr,o⟩ rfl ?_;clear o hml hmr
   rintro x ms H hx ⟨hml,hmr,o⟩
   replace hml : ms.length=k:=hml
   replace hmr : ∀ m,m∈ms→m.2.length=k:=hmr
   replace o : Owns H0 H ((idR,MObj.cells 1 (ms.map bufE) 0)::(inner iI ms++[(id,s.obj)])):=o;refine tt ?_;refine ⟨fun g1=>At.mk ?_,fun g1=>At.mk ?_⟩
   ·have g1p:=of_decide g1
    have wx:=wsucc (k:=x) (by omega);refine tt ?_;refine awp_for [1,5,9] (G:=List (Nat × List Int)) (fun y _=>[(10,some (.int .i64 (y : Int)))]) (fun _ ms H=>ms.length=k∧(∀ m,m∈ms→m.2.length=k)∧Owns H0 H ((idR,MObj.cells 1 (ms.map bufE) 0)::(inner iI ms++[(id,s.obj)]))) k ms ⟨hml,hmr,o⟩ rfl ?_;clear o hml hmr
    rintro y ms H hy ⟨hml,hmr,o⟩
    replace hml : ms.length=k:=hml
    replace hmr : ∀ m,m∈ms→m.2.length=k:=hmr
    replace o : Owns H0 H ((idR,MObj.cells 1 (ms.map bufE) 0)::(inner iI ms++[(id,s.obj)])):=o;refine tt ?_;refine ⟨fun g2=>At.mk ?_,fun g2=>At.mk ?_⟩
    ·have g2p:=of_decide g2
     have wy:=wsucc (k:=y) (by omega);refine tt ?_;refine awp_for [1,5,9,10] (G:=List (Nat × List Int)) (fun z _=>[(11,some (.int .i64 (z : Int)))]) (fun _ ms H=>ms.length=k∧(∀ m,m∈ms→m.2.length=k)∧Owns H0 H ((idR,MObj.cells 1 (ms.map bufE) 0)::(inner iI ms++[(id,s.obj)]))) k ms ⟨hml,hmr,o⟩ rfl ?_;clear o hml hmr
     rintro z ms H hz ⟨hml,hmr,o⟩
     replace hml : ms.length=k:=hml
     replace hmr : ∀ m,m∈ms→m.2.length=k:=hmr
     replace o : Owns H0 H ((idR,MObj.cells 1 (ms.map bufE) 0)::(inner iI ms++[(id,s.obj)])):=o;refine tt ?_;refine ⟨fun g3=>At.mk ?_,fun g3=>At.mk ?_⟩
     ·have g3p:=of_decide g3
      have wz:=wsucc (k:=z) (by omega)
      have hry:=hmr (ms.getD y default) (mem_getD.mpr ⟨y,by omega,rfl⟩)
      have hrx:=hmr (ms.getD x default) (mem_getD.mpr ⟨x,by omega,rfl⟩);refine tt ?_;refine ⟨by omega,rd_cells o (by simp; omega) ?_⟩;rw [getD_map ms (by omega)];refine tt ?_;refine ⟨by omega,rd_inner (o.inner_get (by omega)) (by omega) ?_⟩;refine tt ?_;refine ⟨fun g4=>At.mk ?_,fun g4=>At.mk ?_⟩
      case' refine_1 =>
       refine tw g4 ?_;refine ⟨by omega,rd_cells o (by simp; omega) ?_⟩;rw [getD_map ms (by omega)];refine tt ?_;refine ⟨by omega,rd_inner (o.inner_get (by omega)) (by omega) ?_⟩;refine tt ?_;refine ⟨fun g5=>At.mk ?_,fun g5=>At.mk ?_⟩
       case' refine_1 =>
        refine tt ?_;refine ⟨by omega,rd_cells o (by simp; omega) ?_⟩;rw [getD_map ms (by omega)];refine tt ?_;refine ⟨by omega, ?_⟩;refine st_inner o (by omega) (by omega) 1 rfl fun H o=>?_
        have hml : (ms.set y ((ms.getD y default).1,(ms.getD y default).2.set z 1)).length=k:=by simp [hml]
        have hmr : ∀ m,m∈ms.set y ((ms.getD y default).1,(ms.getD y default).2.set z 1)→m.2.length=k:=by
         intro m hm
         rcases List.mem_or_eq_of_mem_set hm with h | h
         ·exact hmr m h
         ·rw [h]; simpa using hry
        generalize ms.set y ((ms.getD y default).1,(ms.getD y default).2.set z 1)=ms at hml hmr o
      all_goals
       try (try simp only [go_sem,↓reduceIte,reduceEqDiff,reduceAdd,reduceMul,reduceLeDiff,reduceLT,g4])
       try (try simp only [go_sem,↓reduceIte,reduceEqDiff,reduceAdd,reduceMul,reduceLeDiff,reduceLT,wz])
       exact for_next ms g3p ⟨hml,hmr,o⟩ rfl
     ·refine tw wy ?_;exact for_next ms g2p ⟨hml,hmr,o⟩ rfl
    ·refine tw wx ?_;exact for_next ms g1p ⟨hml,hmr,o⟩ rfl
   ·refine tt ?_;refine wk_nest (f:=iI) ms [] H o fun H o=>wkW_done ?_;simp only [List.nil_append] at o;refine tt ?_;refine fz_own (f:=iL) o (by simp; omega) fun H o=>tt ?_;refine src_ret ⟨ms.map Prod.snd,rfl,by simp; omega,fun i hi=>?_⟩ hs o
    have hi' : i<ms.length:=by simpa using hi
    have e1 : (ms.map Prod.snd).getD i default=(ms.getD i default).2:=by simp [List.getD_eq_getElem?_getD,hi']
    rw [e1,hmr _ (mem_getD.mpr ⟨i,hi',rfl⟩)]; simp [hml]
end Go.Proofs.Shf
namespace Go.AW
section
variable {α : Type} [Inhabited α] {f : α→AV} {n : Nat} [h : AggN n f] {H0 H : Heap} {l : Ob} {K : Kont}
theorem flat_drop : ∀ (l : List α) (x : Nat),(flat (l.map f)).drop (x*n)=flat ((l.drop x).map f)
 | l,0=>by simp
 | [],x+1=>by simp [flat]
 | a::r,x+1=>by
  have e : (x+1)*n=(f a).cells.length+x*n:=by rw [h.len a,Nat.succ_mul,Nat.add_comm]
  simp only [List.map_cons,flat,List.drop_succ_cons];rw [e,← List.drop_drop,List.drop_left];exact flat_drop r x
theorem flat_slice {A : List α} {x : Nat} (hx : x<A.length) : ((flat (A.map f)).drop (x*n)).take n=(f (A.getD x default)).cells:=by
 rw [flat_drop,List.drop_eq_getElem_cons hx,List.map_cons,flat,List.take_left' (h.len _)]
 congr 2
 simp [List.getD_eq_getElem?_getD,hx]
theorem flat_get {A : List α} {x off : Nat} (hx : x<A.length) (ho : off<n) : (flat (A.map f)).getD (x*n+off) nv=(f (A.getD x default)).cells.getD off nv:=by
 rw [← flat_slice (f:=f) (n:=n) hx];simp only [List.getD_eq_getElem?_getD,List.getElem?_take,List.getElem?_drop];rw [if_pos ho]
theorem flat_bound {A : List α} {x off m : Nat} (hx : x<A.length) (ho : off+m≤n) : x*n+off+m≤(flat (A.map f)).length:=by
 rw [flat_len (f:=f) (n:=n)]
 have:=Nat.mul_le_mul_right n (show x+1≤A.length by omega);rw [Nat.succ_mul] at this; omega
theorem wr_app : ∀ (vs a b c : List AV),vs.length=b.length→wr (a++(b++c)) a.length vs=a++(vs++c)
 | [],a,[],c,_=>by simp [wr]
 | v::vs,a,[],c,hl=>by simp at hl
 | [],a,d::b,c,hl=>by simp at hl
 | v::vs,a,d::b,c,hl=>by
  rw [wr]
  have e : (a++(d::b++c)).set a.length v=(a++[v])++(b++c):=by simp
  rw [e]
  have:=wr_app vs (a++[v]) b c (by simpa using hl)
  simpa using this
theorem flat_wr {A : List α} {x : Nat} (hx : x<A.length) (a : α) : wr (flat (A.map f)) (x*n) (f a).cells=flat ((A.set x a).map f):=by
 have e1 : A=A.take x++(A.getD x default::A.drop (x+1)):=by
  conv=>lhs; rw [← List.take_append_drop x A,List.drop_eq_getElem_cons hx]
  simp [List.getD_eq_getElem?_getD,hx]
 have e2 : A.set x a=A.take x++(a::A.drop (x+1)):=by rw [List.set_eq_take_append_cons_drop,if_pos hx]
 have hl : (flat ((A.take x).map f)).length=x*n:=by rw [flat_len (f:=f) (n:=n),List.length_take,Nat.min_eq_left (by omega)]
 rw [e2]
 conv=>lhs; rw [e1]
 rw [List.map_append,List.map_append,flat_app,flat_app,List.map_cons,List.map_cons,flat,flat,← hl];exact wr_app _ _ _ _ (by rw [h.len,h.len])
theorem rd_elN {id x off fr : Nat} {A : List α} (o : Owns H0 H ((id,.cells n (flat (A.map f)) fr)::l)) (hx : x<A.length) (ho : off<n) (hk : K ((f (A.getD x default)).cells.getD off nv) H) : rd1 (H.get id) none (x*n+off) K H:=by
 refine rd_cells o ?_ ?_
 ·have:=flat_bound (f:=f) (n:=n) hx (show off+1≤n by omega); omega
 ·rw [flat_get hx ho]; exact hk
theorem rd_elA {id x fr : Nat} {A : List α} (o : Owns H0 H ((id,.cells n (flat (A.map f)) fr)::l)) (hx : x<A.length) (hk : K (f (A.getD x default)) H) : rd1 (H.get id) (some n) (x*n) K H:=by
 refine rd_celln o ?_ ?_
 ·have:=flat_bound (f:=f) (n:=n) hx (show 0+n≤n by omega); omega
 ·rw [flat_slice hx,← h.agg]; exact hk
theorem st_elN {id x : Nat} {A : List α} (o : Owns H0 H ((id,.cells n (flat (A.map f)) 0)::l)) (hx : x<A.length) (a : α) {cs : List AV} (hc : cs=(f a).cells) (hk : ∀ H',Owns H0 H' ((id,.cells n (flat ((A.set x a).map f)) 0)::l)→K nv H') : st1 (H.get id) id (x*n) n cs K H:=by
 subst hc;refine st_cells o ?_ (h.len a) (h.one a) fun H' o'=>hk H' ?_
 ·have:=flat_bound (f:=f) (n:=n) hx (show 0+n≤n by omega); omega
 ·rw [flat_wr hx] at o'; exact o'
theorem app_rawN {id m : Nat} {A : List α} {cs : List AV} (o : Owns H0 H ((id,.cells n (flat (A.map f)) 0)::l)) (hn : m=A.length) (h1 : cs.length=n) (h2 : ∀ c,c∈cs→c.one=true) (hm : (A.length+1)*n≤maxL)
  (hk : ∀ id' H',Owns H0 H' ((id',.cells n (flat (A.map f)++cs) 0)::l)→K (.buf id' (A.length+1)) H') : appW n (some (.buf id m)) (some (.sl [.agg cs])) K H:=by
 subst hn
 have h0:=o.h0;simp only at h0
 have h3:=h.two;simp only [appW,h0,srcOf,app2]
 have hle : A.length+1≤maxL:=Nat.le_trans (Nat.le_mul_of_pos_right _ (by omega)) hm;refine ⟨⟨trivial,flat_len A,hle,hm,fun e he=>?_⟩,fun id' hn=>?_⟩
 ·simp only [List.mem_singleton] at he; subst he; exact ⟨h1,h2⟩
 ·have hfl : flat [AV.agg cs]=cs:=by simp [flat,AV.cells]
  rw [hfl];exact hk id' _ (o.mv hn _)
end
structure Pt where
 frm : Int
 to : Int
 edges : List Int
 deriving Inhabited
@[go_sem] def ptE (p : Pt) : AV:=.agg [iI p.frm,iI p.to,iL p.edges]
instance : AggN 3 ptE:=⟨by omega,fun _=>rfl,fun _=>rfl,fun a c hc=>by
 simp only [ptE,AV.cells,List.mem_cons,List.not_mem_nil,or_false] at hc
 rcases hc with rfl | rfl | rfl <;> rfl⟩
@[go_sem] theorem idxE_pt (l : List Pt) (k : IntKind) (i : Int) {d : Option Nat} {F : Env→Heap→Prop} {σ : Env} {H : Heap} :
  pE d F σ H (idxE 3 (some (mL ptE l)) (some (.int k i)))=((0≤i∧i.toNat<l.length)∧putK d F σ (.ptr [iI (ix l i).frm,iI (ix l i).to,iL (ix l i).edges]) H):=idxE_mLN (f:=ptE) l k i
@[go_sem] theorem lenE_pt (l : List Pt) : lenE (some (mL ptE l))=some (True,.int .i64 l.length):=by simp [mL,lenE]
end Go.AW
namespace Go.Proofs.Shf
open Go.AW Go.Proofs Go.Shf
theorem l03Before_ok (B : Nat) (p q : Pt) : PureF Tryz.prog B 319 [ptE p,ptE q] (.bool (dec (p.frm<q.frm∨p.frm=q.frm∧(p.to<q.to∨p.to=q.to∧cmp p.edges q.edges<0)))):=by
 intro H0;refine c319.go fun hf=>?_;refine tt ?_;apply bk <;> intro h1
 ·refine tt ?_
  have h1p : p.frm≠q.frm:=by simpa using h1
  refine pure_ret ?_ (.refl _)
  congr 1; rw [decide_dec]
  exact dec_congr ⟨fun h=>.inl h,fun h=>h.elim id fun h=>absurd h.1 h1p⟩
 ·have h1p : p.frm=q.frm:=by simpa using h1
  refine tt ?_;apply bk <;> intro h2
  ·refine tt ?_
   have h2p : p.to≠q.to:=by simpa using h2
   refine pure_ret ?_ (.refl _)
   congr 1; rw [decide_dec]
   exact dec_congr ⟨fun h=>.inr ⟨h1p,.inl h⟩,fun h=>h.elim (fun h=>by omega) fun h=>h.2.elim id fun h=>absurd h.1 h2p⟩
  ·have h2p : p.to=q.to:=by simpa using h2
   refine tt ?_;refine (l01Less_ok ..).go fun _=>tt ?_;refine pure_ret ?_ (.refl _)
   congr 1
   exact dec_congr ⟨fun h=>.inr ⟨h1p,.inr ⟨h2p,h⟩⟩,fun h=>h.elim (fun h=>by omega) fun h=>h.2.elim (fun h=>by omega) fun h=>h.2⟩
end Go.Proofs.Shf
